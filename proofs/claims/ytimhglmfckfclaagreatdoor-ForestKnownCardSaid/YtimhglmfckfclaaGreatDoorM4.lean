/- Parts of the proof. -/
import Derived.Test.YtimhglmfckfclaaGreatDoorM3
set_option linter.unusedVariables false
set_option linter.unusedSimpArgs false
set_option maxRecDepth 100000
set_option maxHeartbeats 16000000
namespace Go.Proofs.YtimhglmfckfclaaGreatDoor
section
open Go.RowKit
namespace Hp
theorem ahead_any (x y:It) (w:World):Calls Tryz.prog 205 #[.agg #[.int .i64 x.1,.int .i64 x.2],.agg #[.int .i64 y.1,.int .i64 y.2]] w fun e w' => e = .returned (.bool (ahd x y))/\w'=(w.alloc (.cells #[.int .i64 x.1,.int .i64 x.2] 320)).alloc (.cells #[.int .i64 y.1,.int .i64 y.2] 320):=by
 obtain ⟨a,b⟩:=x
 obtain ⟨c,d⟩:=y
 unfold ahd
 simp only
 by_cases h1:b<d
 ·go_enter Tryz.func205,Tryz.ntmps205
  go_wp2
  go_ret
  exact ⟨by simp [h1],rfl⟩
 ·by_cases h2:b=d
  ·have e1:(b == d)=true:=by simp [h2]
   go_enter Tryz.func205,Tryz.ntmps205
   go_wp2
   go_ret
   exact ⟨by simp,rfl⟩
  ·have e1:(b == d)=false:=by simp [h2]
   go_enter Tryz.func205,Tryz.ntmps205
   go_wp2
   go_ret
   exact ⟨by simp [h1],rfl⟩
theorem QAt.below {lo H hb ga ca:Nat} {v:Value} {M:List It} {ats:List Int} {w w':World} (h:QAt lo H hb ga ca v M ats w) (hbl:Below w.heap.size w w'):QAt lo H hb ga ca v M ats w' :=
 ⟨(hbl.block H (zx h.top)).trans h.top,(hbl.block hb (zx h.box)).trans h.box,Ut.own_below h.row hbl,Ut.own_below h.at_ hbl,h.loH,h.loB⟩
theorem QAt.c_box {lo H hb ga ca:Nat} {v:Value} {M:List It} {ats:List Int} {w:World} (h:QAt lo H hb ga ca v M ats w):w.cell? ⟨hb,0,none⟩=some (.pointer (some ⟨H,0,none⟩)):=by rw [cell_of_row w _ 0 _ _ _ h.box];rfl
theorem QAt.c_l {lo H hb ga ca:Nat} {v:Value} {M:List It} {ats:List Int} {w:World} (h:QAt lo H hb ga ca v M ats w):w.cell? ⟨H,0,none⟩=some v:=by rw [cell_of_row w _ 0 _ _ _ h.top];rfl
theorem QAt.c_ahead {lo H hb ga ca:Nat} {v:Value} {M:List It} {ats:List Int} {w:World} (h:QAt lo H hb ga ca v M ats w):w.cell? ⟨H,1,none⟩=some (.func (.func 205) #[] #[]):=by rw [cell_of_row w _ 1 _ _ _ h.top];rfl
theorem QAt.c_moved {lo H hb ga ca:Nat} {v:Value} {M:List It} {ats:List Int} {w:World} (h:QAt lo H hb ga ca v M ats w):w.cell? ⟨H,2,none⟩=some (.func (.func 206) #[] #[.pointer (some ⟨hb,0,none⟩)]):=by rw [cell_of_row w _ 2 _ _ _ h.top];rfl
theorem QAt.c_at {lo H hb ga ca:Nat} {v:Value} {M:List It} {ats:List Int} {w:World} (h:QAt lo H hb ga ca v M ats w):w.cell? ⟨H,3,none⟩=some (.slice (some ⟨ga,0,none⟩) ats.length ca):=by rw [cell_of_row w _ 3 _ _ _ h.top];rfl
theorem QAt.at_cell {lo H hb ga ca:Nat} {v:Value} {M:List It} {ats:List Int} {w:World} (h:QAt lo H hb ga ca v M ats w) {n:Nat} (hn:n<ats.length):∃ u,w.cell? ⟨ga,n,none⟩=some (.int .i64 u)/\w.frozen? ⟨ga,n,none⟩=false:=by
 obtain ⟨g',c',e,h1,h2,h3,h4,h5⟩:=Ut.own_cells h.at_ (by omega)
 obtain ⟨rfl,rfl⟩:ga=g'/\ca=c':=by simpa using e
 exact ⟨ats[n],by rw [h5 n hn];simp [hn,vI],World.ownsRow.frozenAt h.at_ n⟩
theorem own_block_t {w:World} {base e size n:Nat} {v:Value} {xs:List Value} (h:w.ownsRow base e size v n xs) {k:Nat} (hk:v.ownBlock=some k):∃ cur,w.heap[k]? = some (.cells cur e (0,0)):=by
 rcases h.2 with ⟨h1,_⟩ | ⟨gv,cap,cur,h1,_,h3,_⟩
 ·rw [h1] at hk;cases hk
 ·rw [h1] at hk
  obtain rfl:=Option.some.inj hk
  exact ⟨cur,h3⟩
theorem QAt.ne {lo H hb ga ca:Nat} {v:Value} {M:List It} {ats:List Int} {w:World} (h:QAt lo H hb ga ca v M ats w) :
  H≠hb/\ga≠H/\ga≠hb/\v.ownBlock≠some H/\v.ownBlock≠some hb/\v.ownBlock≠some ga/\H<w.heap.size/\hb<w.heap.size/\ga<w.heap.size/\lo<=ga:=by
 obtain ⟨cg,hg⟩:=own_block_t h.at_ (k:=ga) rfl
 have h1:=h.top;have h2:=h.box
 refine ⟨?_,?_,?_,?_,?_,?_,(zx h1),(zx h2),(zx hg),(h.at_.lt ga rfl).1⟩
 ·rintro rfl;rw [h1] at h2;simp at h2
 ·rintro rfl;rw [h1] at hg;simp at hg
 ·rintro rfl;rw [h2] at hg;simp at hg
 ·intro e;obtain ⟨c,hc⟩:=own_block_t h.row e;rw [h1] at hc;simp at hc
 ·intro e;obtain ⟨c,hc⟩:=own_block_t h.row e;rw [h2] at hc;simp at hc
 ·intro e;obtain ⟨c,hc⟩:=own_block_t h.row e;rw [hg] at hc;simp at hc
theorem QAt.drew {lo H hb ga ca:Nat} {v:Value} {M:List It} {ats:List Int} {w:World} (h:QAt lo H hb ga ca v M ats w):QAt lo H hb ga ca v M ats w.drew:=h.below ((Below.refl _ _).drew)
theorem QAt.only {lo H hb ga ca:Nat} {v:Value} {M:List It} {ats:List Int} {w w':World} (h:QAt lo H hb ga ca v M ats w) {F:Nat->Prop} (ho:Only F w w') (hF:∀ k,F k->k≠H/\k≠hb/\k≠ga/\v.ownBlock≠some k):QAt lo H hb ga ca v M ats w':=by
 obtain ⟨-,-,-,-,-,-,n1,n2,n3,-⟩:=h.ne
 exact ⟨(ho.block H n1 (fun e => (hF _ e).1 rfl)).trans h.top,(ho.block hb n2 (fun e => (hF _ e).2.1 rfl)).trans h.box,ho.row h.row (fun k e1 e2 => (hF k e2).2.2.2 e1),
  ho.row h.at_ (fun k e1 e2 => (hF k e2).2.2.1 (by cases e1;rfl)),h.loH,h.loB⟩
theorem QAt.set_at {lo H hb ga ca:Nat} {v:Value} {M:List It} {ats:List Int} {w:World} (h:QAt lo H hb ga ca v M ats w) {n:Nat} (hn:n<ats.length) (u:Int):QAt lo H hb ga ca v M (ats.set n u) (w.setCell ⟨ga,n,none⟩ (.int .i64 u)):=by
 obtain ⟨_,n1,n2,_,_,n3,_⟩:=h.ne
 have hk:∀ j,j≠ga->(w.setCell ⟨ga,n,none⟩ (.int .i64 u)).heap[j]? = w.heap[j]?:=fun j hj => Below.heap_setCell _ _ _ _ (by simpa using hj)
 refine ⟨?_,(hk hb (fun e => n2 e.symm)).trans h.box,ownsRow_setCell_other h.row (fun e => n3 e) _,?_,h.loH,h.loB⟩
 ·rw [hk H (fun e => n1 e.symm),List.length_set];exact h.top
 ·have:=(World.ownsRow.stored h.at_ n (.int .i64 u)).1
  rw [List.length_set]
  have e:(ats.set n u).map vI=(ats.map vI).set n (.int .i64 u):=by rw [List.map_set];rfl
  rw [e];exact this
theorem QAt.set_row {lo H hb ga ca gv cap:Nat} {M:List It} {ats:List Int} {w:World} (h:QAt lo H hb ga ca (.slice (some ⟨gv,0,none⟩) M.length cap) M ats w) {n:Nat} (x:It) :
  QAt lo H hb ga ca (.slice (some ⟨gv,0,none⟩) M.length cap) (M.set n x) ats ((w.setCell ⟨gv,n * 2,none⟩ (.int .i64 x.1)).setCell ⟨gv,n * 2+1,none⟩ (.int .i64 x.2)):=by
 obtain ⟨_,n1,n2,n3,n4,n5,_⟩:=h.ne
 have hk:∀ j,j≠gv->((w.setCell ⟨gv,n * 2,none⟩ (.int .i64 x.1)).setCell ⟨gv,n * 2+1,none⟩ (.int .i64 x.2)).heap[j]? = w.heap[j]?:=fun j hj =>
  (Below.heap_setCell _ _ _ _ (by simpa using hj)).trans (Below.heap_setCell _ _ _ _ (by simpa using hj))
 refine ⟨(hk H (fun e => n3 (by rw [e];rfl))).trans h.top,(hk hb (fun e => n4 (by rw [e];rfl))).trans h.box,?_,?_,h.loH,h.loB⟩
 ·rw [List.length_set,encL_set]
  exact (World.ownsRow.stored (World.ownsRow.stored h.row _ _).1 _ _).1
 ·exact ownsRow_setCell_other (ownsRow_setCell_other h.at_ (fun e => n5 (by cases e;rfl)) _) (fun e => n5 (by cases e;rfl)) _
theorem moved_any (lo H hb ga ca:Nat) (v:Value) (M:List It) (ats:List Int) (w:World) (hq:QAt lo H hb ga ca v M ats w) (x:It) (h0:0<=x.1) (h1:x.1<ats.length) (k:Nat) :
  Calls Tryz.prog 206 #[.agg #[.int .i64 x.1,.int .i64 x.2],.int .i64 k,.pointer (some ⟨hb,0,none⟩)] w fun e w' => (∃ u,e = .returned u)/\QAt lo H hb ga ca v M (ats.set x.1.toNat k) w'/\Only (fun j => j=ga) w w':=by
 obtain ⟨a,b⟩:=x
 simp only at h0 h1 ⊢
 obtain ⟨n,rfl⟩:∃ n:Nat,a=n:=⟨a.toNat,by omega⟩
 have hn:n<ats.length:=by omega
 have hbl:Below w.heap.size w (w.alloc (.cells #[.int .i64 n,.int .i64 b] 320)):=(Below.refl _ _).alloc (Nat.le_refl _) _
 have hq2:=hq.below hbl
 have c1:=hq2.c_box
 have c2:=hq2.c_at
 obtain ⟨u,c3,c4⟩:=hq2.at_cell hn
 have HQ:=zh hq2
 have HO:Hid (Only (fun j => j=ga) w (w.alloc (.cells #[.int .i64 n,.int .i64 b] 320))):=(Only.refl _ _).alloc _
 have e1:((n:Int)).toNat=n:=by simp
 rw [e1]
 obtain ⟨W,hW⟩:∃ W,W=w.alloc (.cells #[.int .i64 n,.int .i64 b] 320):=⟨_,rfl⟩
 have c5:W.cell? ⟨w.heap.size,0,none⟩=some (.int .i64 n):=by rw [hW];simp
 rw [<- hW] at c1 c2 c3 c4 HQ HO
 clear hq hbl hq2 e1
 have b1:(0:Int)<=(n:Int):=by omega
 have b2:(n:Int)<(ats.length:Int):=by omega
 go_enter Tryz.func206,Tryz.ntmps206
 go_wp2
 rw [<- hW]
 clear hW
 go_region
 go_end0
 exact ⟨⟨_,rfl⟩,(HQ.out.set_at hn (k:Int)).drew,(HO.out.setCell (p:=⟨ga,n,none⟩) (fun _ => rfl) _).drew⟩
theorem set_any (lo H hb ga ca:Nat) (v:Value) (M:List It) (ats:List Int) (w:World) (hq:QAt lo H hb ga ca v M ats w) (x:It) (h0:0<=x.1) (h1:x.1<ats.length) (k:Nat) (hk:k<M.length) :
  Calls Tryz.prog 281 #[.pointer (some ⟨H,0,none⟩),.agg #[.int .i64 x.1,.int .i64 x.2],.int .i64 k] w fun e w' => (∃ u,e = .returned u)/\QAt lo H hb ga ca v (M.set k x) (ats.set x.1.toNat k) w'/\Only (Ft H ga v) w w':=by
 obtain ⟨gv,cap,rfl,r1,r2,r3,r4,r5,-⟩:=row_cells hq.row rfl (by omega)
 obtain ⟨a,b⟩:=x
 simp only at h0 h1 ⊢
 have hbl:Below w.heap.size w (w.alloc (.cells #[.int .i64 a,.int .i64 b] 320)):=(Below.refl _ _).alloc (Nat.le_refl _) _
 have hq2:=hq.below hbl
 have HO:Hid (Only (Ft H ga (.slice (some ⟨gv,0,none⟩) M.length cap)) w (w.alloc (.cells #[.int .i64 a,.int .i64 b] 320))):=(Only.refl _ _).alloc _
 obtain ⟨gv',cap',e,-,-,-,r6,r7,-⟩:=row_cells hq2.row rfl (by omega)
 obtain ⟨rfl,rfl⟩:gv=gv'/\cap=cap':=by simpa using e
 have c1:=hq2.c_l
 obtain ⟨c2,c3⟩:=r6 k hk
 have c4:=r7 (k * 2)
 have c5:=r7 (k * 2+1)
 obtain ⟨W,hW⟩:∃ W,W=w.alloc (.cells #[.int .i64 a,.int .i64 b] 320):=⟨_,rfl⟩
 have c6:W.cell? ⟨w.heap.size,0,none⟩=some (.int .i64 a):=by rw [hW];simp
 have c7:W.cell? ⟨w.heap.size,1,none⟩=some (.int .i64 b):=by rw [hW];simp
 have HQ:=zh hq2
 have hgne:gv≠w.heap.size:=by omega
 have hgane:¬ w.heap.size=ga:=by have:=hq.ne.2.2.2.2.2.2.2.2.1;omega
 rw [<- hW] at c1 c2 c3 c4 c5 HQ HO
 clear hq hbl hq2 r1 r2 r3 r4 r5 r6 r7 e
 have b1:(0:Int)<=(k:Int):=by omega
 have b2:(k:Int)<(M.length:Int):=by omega
 go_enter Tryz.func281,Tryz.ntmps281
 go_wp2
 rw [<- hW]
 clear hW
 go_region
 have HQ2:=zh ((HQ.out.set_row (n:=k) (a,b)).drew)
 have HO2:Hid (Only (Ft H ga (.slice (some ⟨gv,0,none⟩) M.length cap)) w ((W.setCell ⟨gv,k * 2,none⟩ (.int .i64 a)).setCell ⟨gv,k * 2+1,none⟩ (.int .i64 b)).drew) :=
  ((HO.out.setCell (p:=⟨gv,k * 2,none⟩) (fun _ => .inr (.inr rfl)) _).setCell (p:=⟨gv,k * 2+1,none⟩) (fun _ => .inr (.inr rfl)) _).drew
 have d1:((W.setCell ⟨gv,k * 2,none⟩ (.int .i64 a)).setCell ⟨gv,k * 2+1,none⟩ (.int .i64 b)).drew.cell? ⟨w.heap.size,0,none⟩=some (.int .i64 a):=by
  refine (World.cell?_of_block (w:=W) ?_).trans c6
  exact (Below.heap_setCell _ _ _ _ (by simpa using fun e => hgne e.symm)).trans (Below.heap_setCell _ _ _ _ (by simpa using fun e => hgne e.symm))
 have d2:((W.setCell ⟨gv,k * 2,none⟩ (.int .i64 a)).setCell ⟨gv,k * 2+1,none⟩ (.int .i64 b)).drew.cell? ⟨w.heap.size,1,none⟩=some (.int .i64 b):=by
  refine (World.cell?_of_block (w:=W) ?_).trans c7
  exact (Below.heap_setCell _ _ _ _ (by simpa using fun e => hgne e.symm)).trans (Below.heap_setCell _ _ _ _ (by simpa using fun e => hgne e.symm))
 obtain ⟨W2,hW2⟩:∃ W2,W2=((W.setCell ⟨gv,k * 2,none⟩ (.int .i64 a)).setCell ⟨gv,k * 2+1,none⟩ (.int .i64 b)).drew:=⟨_,rfl⟩
 rw [<- hW2] at HQ2 HO2 d1 d2 ⊢
 have d3:=HQ2.out.c_moved
 clear hW2 HQ HO c1 c2 c3 c4 c5 c6 c7
 have HM:=zh (fun w' (hq:QAt lo H hb ga ca (.slice (some ⟨gv,0,none⟩) M.length cap) (M.set k (a,b)) ats w') (hc1:w'.cell? ⟨w.heap.size,0,none⟩=some (.int .i64 a)) (hc2:w'.cell? ⟨w.heap.size,1,none⟩=some (.int .i64 b)) =>
  (moved_any lo H hb ga ca _ _ ats w' hq (a,b) h0 h1 k).mono fun e w3 h => (⟨h.1,h.2.1,h.2.2,h.2.1.c_moved,(h.2.2.cell (p:=⟨w.heap.size,0,none⟩) (World.block_lt_of_cell? w' _ hc1) hgane).trans hc1,(h.2.2.cell (p:=⟨w.heap.size,1,none⟩) (World.block_lt_of_cell? w' _ hc2) hgane).trans hc2⟩ :
   (∃ u,e = .returned u)/\QAt lo H hb ga ca (.slice (some ⟨gv,0,none⟩) M.length cap) (M.set k (a,b)) (ats.set a.toNat k) w3/\Only (fun j => j=ga) w' w3/\w3.cell? ⟨H,2,none⟩=some (.func (.func 206) #[] #[.pointer (some ⟨hb,0,none⟩)])/\w3.cell? ⟨w.heap.size,0,none⟩=some (.int .i64 a)/\w3.cell? ⟨w.heap.size,1,none⟩=some (.int .i64 b)))
 have HF:Hid (∀ j,j=ga->Ft H ga (.slice (some ⟨gv,0,none⟩) M.length cap) j):=fun j hj => .inr (.inl hj)
 clear h0 h1
 go_wp2
 go_region_held3 (fun w' => w'.cell? ⟨H,2,none⟩=some (.func (.func 206) #[] #[.pointer (some ⟨hb,0,none⟩)])/\w'.cell? ⟨w.heap.size,0,none⟩=some (.int .i64 a)/\w'.cell? ⟨w.heap.size,1,none⟩=some (.int .i64 b)) (go_keep) (first | (go_at_call 206;refine (HM.out _ ?_ ?_ ?_).mono ?_;(exact HQ2.out.drew);(simp [*]);(simp [*]);rintro e w3 ⟨⟨u,rfl⟩,hq3,ho3,k1,k2,k3⟩;(have HQ3:=zh hq3;have HO3:=zh ho3;clear hq3 ho3)))
 go_end0
 exact ⟨⟨_,rfl⟩,HQ3.out,HO2.out.drew.trans HO3.out (fun j _ hj => HF.out j hj)⟩
end Hp
end
section
open Go.RowKit
namespace Hp
theorem cell_keep {w w':World} (hb:Below w.heap.size w w') {a:Addr} {v:Value} (h:w.cell? a=some v):w'.cell? a=some v:=(hb.cell (World.block_lt_of_cell? w a h)).trans h
theorem ahead_S (S:World->Prop) (hS:∀ w w',Below w.heap.size w w'->S w->S w') (x y:It) (w:World) (h:S w) :
  Calls Tryz.prog 205 #[.agg #[.int .i64 x.1,.int .i64 x.2],.agg #[.int .i64 y.1,.int .i64 y.2]] w fun e w' => e = .returned (.bool (ahd x y))/\Below w.heap.size w w'/\S w':=by
 refine (ahead_any x y w).mono fun e w' ⟨h1,h2⟩ => ?_
 have hb:Below w.heap.size w w':=by
  rw [h2];exact ((Below.refl _ _).alloc (Nat.le_refl _) _).alloc (by simp) _
 exact ⟨h1,hb,hS w w' hb h⟩
theorem set_of_g {L:List It} {c:Nat} (h:c<L.length):L.set c (g L c)=L:=by
 rw [g_eq h];exact List.set_getElem_self h
theorem sw_of_set {M:List It} {c p:Nat} {x:It} (hc:c<M.length) (hp:p<M.length) (hcp:c≠p):sw (M.set c x) c p=(M.set c (g M p)).set p x:=by
 unfold sw
 rw [g_set hc,g_set hc,if_neg (fun e => hcp e.symm),if_pos rfl,List.set_set]
def UpRel (lo H hb ga ca:Nat) (v:Value) (L0:List It) (n c0 gb:Nat) (x:It) (w:World) (i:Value) (wr:World):Prop :=
 ∃ (c:Nat) (M:List It) (ats:List Int),c<M.length/\i = .int .i64 c/\QAt lo H hb ga ca v M ats wr/\List.Perm (M.set c x) L0/\Pos ats (M.set c x) n c/\(UpOrd L0 c0->UpOrd (M.set c x) c) /\
  wr.cell? ⟨gb,0,none⟩=some (.int .i64 x.1)/\wr.cell? ⟨gb,1,none⟩=some (.int .i64 x.2)/\Only (Ft H ga v) w wr
def Sifted (lo H hb ga ca:Nat) (v:Value) (L0:List It) (n:Nat) (P:List It->Prop) (w:World) (e:Ending) (w':World):Prop :=
 (∃ u,e = .returned u)/\∃ L ats,QAt lo H hb ga ca v L ats w'/\List.Perm L L0/\Pos ats L n L.length/\P L/\Only (Ft H ga v) w w'
theorem up_any (lo H hb ga ca:Nat) (v:Value) (L:List It) (ats:List Int) (n c:Nat) (w:World) (hq:QAt lo H hb ga ca v L ats w) (hG:Good L n) (hP:Pos ats L n c) (hc:c<L.length) (hl:(L.length:Int)<=1048576) :
  Calls Tryz.prog 274 #[.pointer (some ⟨H,0,none⟩),.int .i64 c] w (Sifted lo H hb ga ca v L n (fun L' => UpOrd L c->HeapOrd L') w):=by
 obtain ⟨gv,cap,rfl,r1,r2,r3,r4,r5,-⟩:=row_cells hq.row rfl (by omega)
 have c1:=hq.c_l
 obtain ⟨c2,c3⟩:=r4 c hc
 obtain ⟨x,hx⟩:∃ x,x=g L c:=⟨_,rfl⟩
 rw [<- hx] at c2 c3
 have HX:=zh hx
 have hlt:=hq.ne.2.2.2.2.2.2
 have hgb:gv≠w.heap.size/\ga≠w.heap.size/\H≠w.heap.size:=⟨by omega,by omega,by omega⟩
 have hbl:Below w.heap.size w (w.alloc (.cells #[.int .i64 x.1,.int .i64 x.2] 320)):=(Below.refl _ _).alloc (Nat.le_refl _) _
 have HS:Hid (UpRel lo H hb ga ca (.slice (some ⟨gv,0,none⟩) L.length cap) L n c w.heap.size x w (.int .i64 c) (w.alloc (.cells #[.int .i64 x.1,.int .i64 x.2] 320))) :=
  ⟨c,L,ats,hc,rfl,hq.below hbl,by rw [hx,set_of_g hc],by rw [hx,set_of_g hc];exact hP,by rw [hx,set_of_g hc];exact id,by simp,by simp,(Only.refl _ _).alloc _⟩
 have HGB:=zh hgb
 have HG:=zh hG
 have b1:(0:Int)<=(c:Int):=by omega
 have b2:(c:Int)<(L.length:Int):=by omega
 clear hq hG hP r1 r2 r3 r4 r5 hlt hgb hbl hx
 go_enter Tryz.func274,Tryz.ntmps274
 go_wp2
 go_loopw [1] (fun i wr => UpRel lo H hb ga ca (.slice (some ⟨gv,0,none⟩) L.length cap) L n c w.heap.size x w i wr) (fun i _ => (intOf i).toNat)
 case atStart => exact HS.out
 case round =>
  obtain ⟨j,M,az,hj,rfl,hq,hperm,hpos,hord,k0,k1,honly⟩:=hrel
  have hlen:M.length=L.length:=by have:=hperm.length_eq;simpa using this
  have HQ:=zh hq;have HPERM:=zh hperm;have HPOS:=zh hpos;have HORD:=zh hord;have HONLY:=zh honly
  have HLEN:=zh hlen
  have c1':=hq.c_l
  have c2':=hq.c_ahead
  obtain ⟨gv',cap',e,r1,r2,r3,r4,r5,-⟩:=row_cells hq.row rfl (by omega)
  obtain ⟨rfl,-,rfl⟩:gv=gv'/\L.length=M.length/\cap=cap':=by simpa using e
  have HR4:=zh r4
  have HGL:Hid (Good (M.set j x) n):=HG.out.perm hperm
  have hxr:0<=x.1/\x.1<(n:Int):=HGL.out.range x (by rw [List.mem_iff_getElem];exact ⟨j,by simpa using hj,by simp⟩)
  have hal:az.length=n:=hpos.len
  have HXR:=zh hxr;have HAL:=zh hal
  have hj2:j<L.length:=by omega
  have HSX:=zh (fun w' (hq:QAt lo H hb ga ca (.slice (some ⟨gv,0,none⟩) L.length cap) M az w') => set_any lo H hb ga ca _ M az w' hq x hxr.1 (by omega) j hj)
  have b3:(0:Int)<=(j:Int):=by omega
  have b4:(j:Int)<=1048576:=by omega
  have b5:(j:Int)<(L.length:Int):=by omega
  have HEND:Hid (∀ w' w'',QAt lo H hb ga ca (.slice (some ⟨gv,0,none⟩) L.length cap) (M.set j x) (az.set x.1.toNat j) w''->Only (Ft H ga (.slice (some ⟨gv,0,none⟩) L.length cap)) w w'->Only (Ft H ga (.slice (some ⟨gv,0,none⟩) L.length cap)) w' w''->(j=0\/ahd x (g M (par j))=false) ->
    Sifted lo H hb ga ca (.slice (some ⟨gv,0,none⟩) L.length cap) L n (fun L' => UpOrd L c->HeapOrd L') w (.returned (.tuple #[])) w''):=fun w' w'' h1 h2 h3 h4 => by
   have hgx:g (M.set j x) j=x:=by rw [g_set hj,if_pos rfl]
   refine ⟨⟨_,rfl⟩,M.set j x,az.set x.1.toNat j,h1,HPERM.out,?_,fun hu => (HORD.out hu).done ?_,h2.trans h3 (fun _ _ h => h)⟩
   ·have:=HPOS.out.fill HGL.out (by simpa using hj)
    rw [hgx] at this;exact this
   ·rcases h4 with h4 | h4
    ·exact .inl h4
    ·by_cases j0:j=0
     ·exact .inl j0
     ·right
      have hpl:=par_lt (k:=j) (by omega)
      rw [hgx,g_set hj,if_neg (by omega)];exact h4
  clear hq hperm hpos hord honly r1 r2 r3 r4 r5 e hal hlen hxr HS hj
  by_cases h0:j=0
  ·have b6:(j:Int)<=0:=by omega
   have hdc:decide (0<j)=false:=by rw [decide_eq_false_iff_not];omega
   have HJ:=zh h0
   have hd1:∀ m,Only (Ft H ga (.slice (some ⟨gv,0,none⟩) L.length cap)) w (wr.drewN m):=fun m => HONLY.out.trans (Only.of_below (Ut.below_drewN (Below.refl _ _) m)) (fun _ _ h => h)
   have HD1:=zh hd1
   clear h0 hd1 b6
   go_wp2
   go_quiet (fail)
   go_wp2_with fail
   refine (HSX.out _ (HQ.out.below (Ut.below_drewN (Below.refl _ _) _))).mono ?_
   rintro e w2 ⟨⟨u,rfl⟩,hq2,ho2⟩
   go_wp2
   go_end0
   exact HEND.out _ _ hq2 (HD1.out _) ho2 (.inl HJ.out)
  ·have hp:=par_lt (k:=j) (by omega)
   have b6:decide (0<j)=true:=by rw [decide_eq_true_eq];omega
   have hpi:((j:Int)-1) / 2=((par j:Nat):Int):=by unfold par;omega
   have hpi2:Int.tdiv ((j:Int)-1) 2=((par j:Nat):Int):=by rw [Int.tdiv_eq_ediv_of_nonneg (by omega)];exact hpi
   have b9:(0:Int)<=(j:Int)-1:=by omega
   have hpM:par j<M.length:=by rw [HLEN.out];omega
   obtain ⟨m1,m2⟩:=HR4.out (par j) hpM
   have HNE:Hid (j≠par j/\par j<M.length/\0<j):=⟨by omega,hpM,by omega⟩
   have hgp:=HGL.out.range (g (M.set j x) (par j)) (g_mem (by simpa using hpM))
   have hgx:g (M.set j x) j=x:=by rw [g_set (by rw [HLEN.out];omega),if_pos rfl]
   have hgy:g (M.set j x) (par j)=g M (par j):=by rw [g_set (by rw [HLEN.out];omega),if_neg (by omega)]
   rw [hgy] at hgp
   have HGX:=zh hgx;have HGY:=zh hgy
   obtain ⟨p,hpp⟩:∃ p,p=par j:=⟨_,rfl⟩
   rw [<- hpp] at hp hpi hpi2 hpM m1 m2 HNE hgp HEND HGY
   have HPP:=zh hpp
   obtain ⟨y,hy⟩:∃ y,y=g M p:=⟨_,rfl⟩
   rw [<- hy] at m1 m2 hgp HEND HGY
   have HY:=zh hy
   have HGP:=zh hgp
   have b7:(0:Int)<=(p:Int):=by omega
   have b8:(p:Int)<(L.length:Int):=by omega
   have hw1:IntKind.i64.wrap ((j:Int)-1)=(j:Int)-1:=IntWalk.i64_in _ (by omega)
   have hw2:IntKind.i64.wrap (p:Int)=(p:Int):=IntWalk.i64_in _ (by omega)
   have HAH:=zh (fun w' (h :  w'.cell? ⟨w.heap.size,0,none⟩=some (.int .i64 x.1)/\w'.cell? ⟨w.heap.size,1,none⟩=some (.int .i64 x.2)/\w'.cell? ⟨H,0,none⟩=some (.slice (some ⟨gv,0,none⟩) L.length cap)/\w'.cell? ⟨H,1,none⟩=some (.func (.func 205) #[] #[])/\w'.cell? ⟨gv,p * 2,none⟩=some (.int .i64 y.1)/\w'.cell? ⟨gv,p * 2+1,none⟩=some (.int .i64 y.2)) =>
    ahead_S (fun w' => w'.cell? ⟨w.heap.size,0,none⟩=some (.int .i64 x.1)/\w'.cell? ⟨w.heap.size,1,none⟩=some (.int .i64 x.2)/\w'.cell? ⟨H,0,none⟩=some (.slice (some ⟨gv,0,none⟩) L.length cap)/\w'.cell? ⟨H,1,none⟩=some (.func (.func 205) #[] #[])/\w'.cell? ⟨gv,p * 2,none⟩=some (.int .i64 y.1)/\w'.cell? ⟨gv,p * 2+1,none⟩=some (.int .i64 y.2)) (fun w1 w2 hb h => ⟨cell_keep hb h.1,cell_keep hb h.2.1,cell_keep hb h.2.2.1,cell_keep hb h.2.2.2.1,cell_keep hb h.2.2.2.2.1,cell_keep hb h.2.2.2.2.2⟩) x y w' h)
   have HBL:Hid (∀ w2,Below wr.drew.heap.size wr.drew w2->QAt lo H hb ga ca (.slice (some ⟨gv,0,none⟩) L.length cap) M az w2/\Only (Ft H ga (.slice (some ⟨gv,0,none⟩) L.length cap)) w w2):=fun w2 hb2 =>
    ⟨HQ.out.drew.below hb2,(HONLY.out.drew).trans (Only.of_below hb2) (fun _ _ h => h)⟩
   clear hp hpM hpp hy hgp HR4
   cases hah:ahd x y with
   | false =>
    rw [hah] at HAH
    have HAHF:=zh hah
    clear hah
    go_wp2
    go_region_held3 (fun w' => w'.cell? ⟨w.heap.size,0,none⟩=some (.int .i64 x.1)/\w'.cell? ⟨w.heap.size,1,none⟩=some (.int .i64 x.2)/\w'.cell? ⟨H,0,none⟩=some (.slice (some ⟨gv,0,none⟩) L.length cap)/\w'.cell? ⟨H,1,none⟩=some (.func (.func 205) #[] #[])/\w'.cell? ⟨gv,p * 2,none⟩=some (.int .i64 y.1)/\w'.cell? ⟨gv,p * 2+1,none⟩=some (.int .i64 y.2)) (go_keep) (first | (go_at_call 205;refine (HAH.out _ ?_).mono ?_;(simp [*]);rintro e w3 ⟨rfl,hb3,n1,n2,n3,n4,n5,n6⟩))
    obtain ⟨hq3,ho3⟩:=HBL.out _ hb3
    have HSX3:=zh (HSX.out _ hq3)
    have HO3:=zh ho3
    clear hb3 hq3 ho3
    go_wp2_with fail
    refine HSX3.out.mono ?_
    rintro e w4 ⟨⟨u,rfl⟩,hq4,ho4⟩
    go_wp2
    go_end0
    exact HEND.out _ _ hq4 HO3.out ho4 (.inr HAHF.out)
   | true =>
    rw [hah] at HAH
    have HAHT:=zh hah
    clear hah
    go_wp2
    go_region_held3 (fun w' => w'.cell? ⟨w.heap.size,0,none⟩=some (.int .i64 x.1)/\w'.cell? ⟨w.heap.size,1,none⟩=some (.int .i64 x.2)/\w'.cell? ⟨H,0,none⟩=some (.slice (some ⟨gv,0,none⟩) L.length cap)/\w'.cell? ⟨H,1,none⟩=some (.func (.func 205) #[] #[])/\w'.cell? ⟨gv,p * 2,none⟩=some (.int .i64 y.1)/\w'.cell? ⟨gv,p * 2+1,none⟩=some (.int .i64 y.2)) (go_keep) (first | (go_at_call 205;refine (HAH.out _ ?_).mono ?_;(simp [*]);rintro e w3 ⟨rfl,hb3,n1,n2,n3,n4,n5,n6⟩))
    obtain ⟨hq3,ho3⟩:=HBL.out _ hb3
    have HSY:=zh (set_any lo H hb ga ca _ M az w3 hq3 y HGP.out.1 (by rw [HAL.out];exact HGP.out.2) j (by rw [HLEN.out];exact hj2))
    have HO3:=zh ho3
    have HK:Hid (∀ w4,QAt lo H hb ga ca (.slice (some ⟨gv,0,none⟩) L.length cap) (M.set j y) (az.set y.1.toNat j) w4->Only (Ft H ga (.slice (some ⟨gv,0,none⟩) L.length cap)) w3 w4 ->
      UpRel lo H hb ga ca (.slice (some ⟨gv,0,none⟩) L.length cap) L n c w.heap.size x w (.int .i64 p) w4):=fun w4 hq4 ho4 => by
     obtain ⟨n1',n2',n3'⟩:=HNE.out
     have hjM:j<M.length:=by rw [HLEN.out];exact hj2
     have hsw:sw (M.set j x) j p=(M.set j y).set p x:=by rw [sw_of_set hjM n2' n1',<- HY.out]
     have hlt4:w.heap.size<w3.heap.size:=World.block_lt_of_cell? w3 ⟨w.heap.size,0,none⟩ n1
     have hnf:¬ Ft H ga (.slice (some ⟨gv,0,none⟩) L.length cap) w.heap.size:=by
      obtain ⟨q1,q2,q3⟩:=HGB.out
      rintro (e | e | e)
      ·exact q3 e.symm
      ·exact q2 e.symm
      ·exact q1 (by cases e;rfl)
     refine ⟨p,M.set j y,az.set y.1.toNat j,by simpa using n2',rfl,hq4,?_,?_,fun hu => ?_,(ho4.cell (p:=⟨w.heap.size,0,none⟩) hlt4 hnf).trans n1,(ho4.cell (p:=⟨w.heap.size,1,none⟩) hlt4 hnf).trans n2,HO3.out.trans ho4 (fun _ _ h => h)⟩
     ·rw [<- hsw];exact (sw_perm (by simpa using hjM) (by simpa using n2')).trans HPERM.out
     ·rw [<- hsw]
      have:=HPOS.out.move HGL.out (d:=p) (by simpa using hjM) (by simpa using n2') n1'
      rw [HGY.out] at this;exact this
     ·rw [<- hsw]
      have:=(HORD.out hu).step n3' (by simpa using hjM) (by rw [HGX.out,<- HPP.out,HGY.out];exact HAHT.out)
      rw [<- HPP.out] at this;exact this
    clear hb3 hq3 ho3
    go_wp2_with fail
    refine HSY.out.mono ?_
    rintro e w4 ⟨⟨u,rfl⟩,hq4,ho4⟩
    have HU:=zh (HK.out _ hq4 ho4)
    clear hq4 ho4
    go_wp2
    go_roundw
    case rel => exact HU.out
    case measure => simp [intOf];have:=HNE.out;have:=HPP.out;unfold par at this;omega
end Hp
end
end Go.Proofs.YtimhglmfckfclaaGreatDoor
