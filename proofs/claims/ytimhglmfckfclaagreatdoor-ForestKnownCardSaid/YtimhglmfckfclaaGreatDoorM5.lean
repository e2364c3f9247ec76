/- Parts of the proof. -/
import Derived.Test.YtimhglmfckfclaaGreatDoorM4
import Derived.Deep.AppendLies
import Derived.Deep.RegionLaw
set_option linter.unusedVariables false
set_option linter.unusedSimpArgs false
set_option maxRecDepth 100000
set_option maxHeartbeats 16000000
namespace Go.Proofs.YtimhglmfckfclaaGreatDoor
section
open Go.RowKit
namespace Hp
def Still (L:List It) (c:Nat):Prop:=∀ k,0<k->k<L.length->par k=c->ahd (g L k) (g L c)=false
theorem kids {k j:Nat} (h0:0<k) (h:par k=j):k=2 * j+1\/k=2 * j+2:=by unfold par at h;omega
theorem par_1 (j:Nat):par (2 * j+1)=j:=by unfold par;omega
theorem par_2 (j:Nat):par (2 * j+2)=j:=by unfold par;omega
def DownRel (lo H hb ga ca:Nat) (v:Value) (L0:List It) (n c0 gb:Nat) (x:It) (w:World) (i:Value) (wr:World):Prop :=
 ∃ (c:Nat) (M:List It) (ats:List Int),c<M.length/\i = .int .i64 c/\QAt lo H hb ga ca v M ats wr/\List.Perm (M.set c x) L0/\Pos ats (M.set c x) n c/\(DownOrd L0 c0->DownOrd (M.set c x) c)/\(Still L0 c0->M.set c x=L0/\c=c0) /\
  wr.cell? ⟨gb,0,none⟩=some (.int .i64 x.1)/\wr.cell? ⟨gb,1,none⟩=some (.int .i64 x.2)/\Only (Ft H ga v) w wr
theorem down_any (lo H hb ga ca:Nat) (v:Value) (L:List It) (ats:List Int) (n c:Nat) (w:World) (hq:QAt lo H hb ga ca v L ats w) (hG:Good L n) (hP:Pos ats L n c) (hc:c<L.length) (hl:(L.length:Int)<=1048576) :
  Calls Tryz.prog 282 #[.pointer (some ⟨H,0,none⟩),.int .i64 c] w (Sifted lo H hb ga ca v L n (fun L' => (DownOrd L c->HeapOrd L')/\(Still L c->L'=L)) w):=by
 obtain ⟨gv,cap,rfl,r1,r2,r3,r4,r5,-⟩:=row_cells hq.row rfl (by omega)
 have c1:=hq.c_l
 obtain ⟨c2,c3⟩:=r4 c hc
 obtain ⟨x,hx⟩:∃ x,x=g L c:=⟨_,rfl⟩
 rw [<- hx] at c2 c3
 have hlt:=hq.ne.2.2.2.2.2.2
 have hgb:gv≠w.heap.size/\ga≠w.heap.size/\H≠w.heap.size:=⟨by omega,by omega,by omega⟩
 have hbl:Below w.heap.size w (w.alloc (.cells #[.int .i64 x.1,.int .i64 x.2] 320)):=(Below.refl _ _).alloc (Nat.le_refl _) _
 have HS:Hid (DownRel lo H hb ga ca (.slice (some ⟨gv,0,none⟩) L.length cap) L n c w.heap.size x w (.int .i64 c) (w.alloc (.cells #[.int .i64 x.1,.int .i64 x.2] 320))) :=
  ⟨c,L,ats,hc,rfl,hq.below hbl,by rw [hx,set_of_g hc],by rw [hx,set_of_g hc];exact hP,by rw [hx,set_of_g hc];exact id,fun _ => ⟨by rw [hx,set_of_g hc],rfl⟩,by simp,by simp,(Only.refl _ _).alloc _⟩
 have HGB:=zh hgb
 have HG:=zh hG
 have b1:(0:Int)<=(c:Int):=by omega
 have b2:(c:Int)<(L.length:Int):=by omega
 clear hq hG hP r1 r2 r3 r4 r5 hlt hgb hbl hx
 go_enter Tryz.func282,Tryz.ntmps282
 go_wp2
 go_loopw [1] (fun i wr => DownRel lo H hb ga ca (.slice (some ⟨gv,0,none⟩) L.length cap) L n c w.heap.size x w i wr) (fun i _ => L.length-(intOf i).toNat)
 case atStart => exact HS.out
 case round =>
  obtain ⟨j,M,az,hj,rfl,hq,hperm,hpos,hord,hstill,k0,k1,honly⟩:=hrel
  have hlen:M.length=L.length:=by have:=hperm.length_eq;simpa using this
  have HPERM:=zh hperm;have HPOS:=zh hpos;have HORD:=zh hord;have HSTILL:=zh hstill
  have HLEN:=zh hlen
  have c1':=hq.c_l
  have c2':=hq.c_ahead
  obtain ⟨gv',cap',e,r1,r2,r3,r4,r5,-⟩:=row_cells hq.row rfl (by omega)
  obtain ⟨rfl,-,rfl⟩:gv=gv'/\L.length=M.length/\cap=cap':=by simpa using e
  have HR4:=zh r4
  have HGL:Hid (Good (M.set j x) n):=HG.out.perm hperm
  have hxr:0<=x.1/\x.1<(n:Int):=HGL.out.range x (by rw [List.mem_iff_getElem];exact ⟨j,by simpa using hj,by simp⟩)
  have hal:az.length=n:=hpos.len
  have HAL:=zh hal
  have hj2:j<L.length:=by omega
  have HSX:=zh (fun w' (hq:QAt lo H hb ga ca (.slice (some ⟨gv,0,none⟩) L.length cap) M az w') => set_any lo H hb ga ca _ M az w' hq x hxr.1 (by omega) j hj)
  have b3:(0:Int)<=(j:Int):=by omega
  have b4:(j:Int)<=1048576:=by omega
  have b5:(j:Int)<(L.length:Int):=by omega
  have HT:Hid (∀ W,Below wr.heap.size wr W->QAt lo H hb ga ca (.slice (some ⟨gv,0,none⟩) L.length cap) M az W/\Only (Ft H ga (.slice (some ⟨gv,0,none⟩) L.length cap)) w W/\W.cell? ⟨H,0,none⟩=some (.slice (some ⟨gv,0,none⟩) L.length cap)/\W.cell? ⟨H,1,none⟩=some (.func (.func 205) #[] #[]) /\
    W.cell? ⟨w.heap.size,0,none⟩=some (.int .i64 x.1)/\W.cell? ⟨w.heap.size,1,none⟩=some (.int .i64 x.2)/\∀ k,k<M.length->W.cell? ⟨gv,k * 2,none⟩=some (.int .i64 (g M k).1)/\W.cell? ⟨gv,k * 2+1,none⟩=some (.int .i64 (g M k).2)):=fun W hb =>
   ⟨hq.below hb,honly.trans (Only.of_below hb) (fun _ _ h => h),(hq.below hb).c_l,(hq.below hb).c_ahead,cell_keep hb k0,cell_keep hb k1,fun k hk => ⟨cell_keep hb (r4 k hk).1,cell_keep hb (r4 k hk).2⟩⟩
  have HEND:Hid (∀ w' w'',QAt lo H hb ga ca (.slice (some ⟨gv,0,none⟩) L.length cap) (M.set j x) (az.set x.1.toNat j) w''->Only (Ft H ga (.slice (some ⟨gv,0,none⟩) L.length cap)) w w'->Only (Ft H ga (.slice (some ⟨gv,0,none⟩) L.length cap)) w' w'' ->
    (∀ k,0<k->k<(M.set j x).length->par k=j->ahd (g (M.set j x) k) x=false) ->
    Sifted lo H hb ga ca (.slice (some ⟨gv,0,none⟩) L.length cap) L n (fun L' => (DownOrd L c->HeapOrd L')/\(Still L c->L'=L)) w (.returned (.tuple #[])) w''):=fun w' w'' h1 h2 h3 h4 => by
   have hgx:g (M.set j x) j=x:=by rw [g_set hj,if_pos rfl]
   refine ⟨⟨_,rfl⟩,M.set j x,az.set x.1.toNat j,h1,HPERM.out,?_,⟨fun hu => (HORD.out hu).done (fun k k0 hk hp => by rw [hgx];exact h4 k k0 hk hp),fun hs => (HSTILL.out hs).1⟩,h2.trans h3 (fun _ _ h => h)⟩
   have:=HPOS.out.fill HGL.out (by simpa using hj)
   rw [hgx] at this;exact this
  have hgk:∀ k,k≠j->g (M.set j x) k=g M k:=fun k hk => by rw [g_set hj,if_neg hk]
  have HGK:=zh hgk
  obtain ⟨K,hK⟩:∃ K,K=2 * j+1:=⟨_,rfl⟩
  obtain ⟨K2,hK2⟩:∃ K,K=2 * j+2:=⟨_,rfl⟩
  have hk1:2 * (j:Int)+1=(K:Int):=by omega
  have hk2:(K:Int)+1=(K2:Int):=by omega
  have hw0:IntKind.i64.wrap (2 * (j:Int))=2 * (j:Int):=IntWalk.i64_in _ (by omega)
  have hw1:IntKind.i64.wrap (K:Int)=(K:Int):=IntWalk.i64_in _ (by omega)
  have hw2:IntKind.i64.wrap (K2:Int)=(K2:Int):=IntWalk.i64_in _ (by omega)
  have HKK:Hid (K=2 * j+1/\K2=2 * j+2/\par K=j/\par K2=j/\0<K/\0<K2):=⟨hK,hK2,by rw [hK];exact par_1 j,by rw [hK2];exact par_2 j,by omega,by omega⟩
  clear hq hperm hpos hord hstill honly r1 r2 r3 r4 r5 e hal hlen hxr HS hj hgk hK hK2
  have b6:(0:Int)<=(K:Int):=by omega
  have b7:(0:Int)<=(K2:Int):=by omega
  by_cases hA:K2<L.length
  ·have hA1:decide (K2<L.length)=true:=by rw [decide_eq_true_eq];exact hA
   have b8:(K:Int)<(L.length:Int):=by omega
   have b9:(K2:Int)<(L.length:Int):=by omega
   obtain ⟨m3,m4⟩:=HR4.out K (by rw [HLEN.out];omega)
   obtain ⟨m5,m6⟩:=HR4.out K2 (by rw [HLEN.out];omega)
   obtain ⟨y1,hy1⟩:∃ y,y=g M K:=⟨_,rfl⟩
   obtain ⟨y2,hy2⟩:∃ y,y=g M K2:=⟨_,rfl⟩
   rw [<- hy1] at m3 m4
   rw [<- hy2] at m5 m6
   have HY1:=zh hy1;have HY2:=zh hy2
   have HA2:=zh hA
   have HAH0:=zh (fun w' (h:w'.cell? ⟨gv,K2 * 2,none⟩=some (.int .i64 y2.1)/\w'.cell? ⟨gv,K2 * 2+1,none⟩=some (.int .i64 y2.2)/\w'.cell? ⟨H,0,none⟩=some (.slice (some ⟨gv,0,none⟩) L.length cap)/\w'.cell? ⟨H,1,none⟩=some (.func (.func 205) #[] #[])/\w'.cell? ⟨gv,K * 2,none⟩=some (.int .i64 y1.1)/\w'.cell? ⟨gv,K * 2+1,none⟩=some (.int .i64 y1.2)) =>
    ahead_S (fun w' => w'.cell? ⟨gv,K2 * 2,none⟩=some (.int .i64 y2.1)/\w'.cell? ⟨gv,K2 * 2+1,none⟩=some (.int .i64 y2.2)/\w'.cell? ⟨H,0,none⟩=some (.slice (some ⟨gv,0,none⟩) L.length cap)/\w'.cell? ⟨H,1,none⟩=some (.func (.func 205) #[] #[])/\w'.cell? ⟨gv,K * 2,none⟩=some (.int .i64 y1.1)/\w'.cell? ⟨gv,K * 2+1,none⟩=some (.int .i64 y1.2)) (fun w1 w2 hb h => ⟨cell_keep hb h.1,cell_keep hb h.2.1,cell_keep hb h.2.2.1,cell_keep hb h.2.2.2.1,cell_keep hb h.2.2.2.2.1,cell_keep hb h.2.2.2.2.2⟩) y2 y1 w' h)
   have hdr:Below wr.heap.size wr wr.drew:=(Below.refl _ _).drew
   have HDR:=zh hdr
   clear hy1 hy2 hA HR4 hdr
   cases hah0:ahd y2 y1 with
   | true =>
    rw [hah0] at HAH0
    have HAHC:=zh hah0
    clear hah0
    go_wp2
    go_region_held3 (fun w' => w'.cell? ⟨gv,K2 * 2,none⟩=some (.int .i64 y2.1)/\w'.cell? ⟨gv,K2 * 2+1,none⟩=some (.int .i64 y2.2)/\w'.cell? ⟨H,0,none⟩=some (.slice (some ⟨gv,0,none⟩) L.length cap)/\w'.cell? ⟨H,1,none⟩=some (.func (.func 205) #[] #[])/\w'.cell? ⟨gv,K * 2,none⟩=some (.int .i64 y1.1)/\w'.cell? ⟨gv,K * 2+1,none⟩=some (.int .i64 y1.2)) (go_keep) (first | (go_at_call 205;refine (HAH0.out _ ?_).mono ?_;(simp [*]);rintro e W3 ⟨rfl,hb3,n1,n2,n3,n4,n5,n6⟩))
    go_wp2
    have hbW:Below wr.heap.size wr W3:=HDR.out.trans hb3
    clear n1 n2 n3 n4 n5 n6 hb3 m3 m4 m5 m6 b8 hA1 c1' c2' k0 k1
    obtain ⟨m,hmK⟩:∃ m,m=K2:=⟨_,rfl⟩
    obtain ⟨z1,z2,z3,z4,z5,z6⟩:=HKK.out
    have hm:m<M.length:=by rw [HLEN.out,hmK];exact HA2.out
    have hm0:0<m:=by omega
    have hmp:par m=j:=by rw [hmK];exact z4
    have hmin:∀ k,0<k->k<(M.set j x).length->par k=j->ahd (g (M.set j x) k) (g (M.set j x) m)=false:=fun k q1 q2 q3 => by
     rw [hmK,HGK.out K2 (by omega),<- HY2.out]
     rcases kids q1 q3 with e | e
     ·rw [e,<- z1,HGK.out K (by omega),<- HY1.out];exact ahd_asymm HAHC.out
     ·rw [e,<- z2,HGK.out K2 (by omega),<- HY2.out];exact ahd_irrefl _
    rw [<- hmK] at hw2 hk2 b7 b9 ⊢
    clear z1 z2 z3 z4 z5 z6 hmK HAH0
    obtain ⟨hqW,hoW,d1,d2,d3,d4,hrow⟩:=HT.out W3 hbW
    obtain ⟨m1,m2⟩:=hrow m hm
    have HQW:=zh hqW;have HOW:=zh hoW
    have hgz:=HGL.out.range (g (M.set j x) m) (g_mem (by rw [List.length_set];exact hm))
    have hgm:g (M.set j x) m=g M m:=by rw [g_set (by rw [HLEN.out];exact hj2),if_neg (by omega)]
    rw [hgm] at hgz
    obtain ⟨z,hz⟩:∃ z,z=g M m:=⟨_,rfl⟩
    rw [<- hz] at m1 m2 hgz hgm
    have HZ:=zh hz;have HGZ:=zh hgz;have HGM:=zh hgm
    have HMIN:=zh hmin
    have HM:Hid (m<M.length/\par m=j/\0<m/\j≠m):=⟨hm,hmp,hm0,by omega⟩
    have t1:(0:Int)<=(m:Int):=by omega
    have t2:(m:Int)<(L.length:Int):=by rw [HLEN.out] at hm;omega
    have t3:decide (L.length<=m)=false:=by rw [HLEN.out] at hm;rw [decide_eq_false_iff_not];omega
    have HAH:=zh (fun w' (h:w'.cell? ⟨w.heap.size,0,none⟩=some (.int .i64 x.1)/\w'.cell? ⟨w.heap.size,1,none⟩=some (.int .i64 x.2)/\w'.cell? ⟨H,0,none⟩=some (.slice (some ⟨gv,0,none⟩) L.length cap)/\w'.cell? ⟨H,1,none⟩=some (.func (.func 205) #[] #[])/\w'.cell? ⟨gv,m * 2,none⟩=some (.int .i64 z.1)/\w'.cell? ⟨gv,m * 2+1,none⟩=some (.int .i64 z.2)) =>
     ahead_S (fun w' => w'.cell? ⟨w.heap.size,0,none⟩=some (.int .i64 x.1)/\w'.cell? ⟨w.heap.size,1,none⟩=some (.int .i64 x.2)/\w'.cell? ⟨H,0,none⟩=some (.slice (some ⟨gv,0,none⟩) L.length cap)/\w'.cell? ⟨H,1,none⟩=some (.func (.func 205) #[] #[])/\w'.cell? ⟨gv,m * 2,none⟩=some (.int .i64 z.1)/\w'.cell? ⟨gv,m * 2+1,none⟩=some (.int .i64 z.2)) (fun w1 w2 hb h => ⟨cell_keep hb h.1,cell_keep hb h.2.1,cell_keep hb h.2.2.1,cell_keep hb h.2.2.2.1,cell_keep hb h.2.2.2.2.1,cell_keep hb h.2.2.2.2.2⟩) z x w' h)
    have HBL:Hid (∀ w2,Below W3.drew.heap.size W3.drew w2->QAt lo H hb ga ca (.slice (some ⟨gv,0,none⟩) L.length cap) M az w2/\Only (Ft H ga (.slice (some ⟨gv,0,none⟩) L.length cap)) w w2):=fun w2 hb2 =>
     ⟨HQW.out.drew.below hb2,(HOW.out.drew).trans (Only.of_below hb2) (fun _ _ h => h)⟩
    clear hrow hqW hoW hgz hgm hz hmin hm hm0 hmp hbW HT
    cases hah:ahd z x with
    | false =>
     rw [hah] at HAH
     have HAHF:=zh hah
     clear hah
     go_region_held3 (fun w' => w'.cell? ⟨w.heap.size,0,none⟩=some (.int .i64 x.1)/\w'.cell? ⟨w.heap.size,1,none⟩=some (.int .i64 x.2)/\w'.cell? ⟨H,0,none⟩=some (.slice (some ⟨gv,0,none⟩) L.length cap)/\w'.cell? ⟨H,1,none⟩=some (.func (.func 205) #[] #[])/\w'.cell? ⟨gv,m * 2,none⟩=some (.int .i64 z.1)/\w'.cell? ⟨gv,m * 2+1,none⟩=some (.int .i64 z.2)) (go_keep) (first | (go_at_call 205;refine (HAH.out _ ?_).mono ?_;(simp [*]);rintro e w4 ⟨rfl,hb4,n1,n2,n3,n4,n5,n6⟩))
     obtain ⟨hq4,ho4⟩:=HBL.out _ hb4
     have HSX4:=zh (HSX.out _ hq4)
     have HO4:=zh ho4
     clear hb4 hq4 ho4
     go_wp2_with fail
     refine HSX4.out.mono ?_
     rintro e w5 ⟨⟨u,rfl⟩,hq5,ho5⟩
     go_wp2
     go_end0
     exact HEND.out _ _ hq5 HO4.out ho5 (fun k h0 hk hp => by
      have h1:=HMIN.out k h0 hk hp
      rw [HGM.out] at h1
      exact no_trans h1 HAHF.out)
    | true =>
     rw [hah] at HAH
     have HAHT:=zh hah
     clear hah
     go_region_held3 (fun w' => w'.cell? ⟨w.heap.size,0,none⟩=some (.int .i64 x.1)/\w'.cell? ⟨w.heap.size,1,none⟩=some (.int .i64 x.2)/\w'.cell? ⟨H,0,none⟩=some (.slice (some ⟨gv,0,none⟩) L.length cap)/\w'.cell? ⟨H,1,none⟩=some (.func (.func 205) #[] #[])/\w'.cell? ⟨gv,m * 2,none⟩=some (.int .i64 z.1)/\w'.cell? ⟨gv,m * 2+1,none⟩=some (.int .i64 z.2)) (go_keep) (first | (go_at_call 205;refine (HAH.out _ ?_).mono ?_;(simp [*]);rintro e w4 ⟨rfl,hb4,n1,n2,n3,n4,n5,n6⟩))
     obtain ⟨hq4,ho4⟩:=HBL.out _ hb4
     have HSZ:=zh (set_any lo H hb ga ca _ M az w4 hq4 z HGZ.out.1 (by rw [HAL.out];exact HGZ.out.2) j (by rw [HLEN.out];exact hj2))
     have HO4:=zh ho4
     have HK:Hid (∀ w5,QAt lo H hb ga ca (.slice (some ⟨gv,0,none⟩) L.length cap) (M.set j z) (az.set z.1.toNat j) w5->Only (Ft H ga (.slice (some ⟨gv,0,none⟩) L.length cap)) w4 w5 ->
       DownRel lo H hb ga ca (.slice (some ⟨gv,0,none⟩) L.length cap) L n c w.heap.size x w (.int .i64 m) w5):=fun w5 hq5 ho5 => by
      obtain ⟨q1,q2,q3,q4⟩:=HM.out
      have hjM:j<M.length:=by rw [HLEN.out];exact hj2
      have hsw:sw (M.set j x) j m=(M.set j z).set m x:=by rw [sw_of_set hjM q1 q4,<- HZ.out]
      have hlt4:w.heap.size<w4.heap.size:=World.block_lt_of_cell? w4 ⟨w.heap.size,0,none⟩ n1
      have hnf:¬ Ft H ga (.slice (some ⟨gv,0,none⟩) L.length cap) w.heap.size:=by
       obtain ⟨y1,y2,y3⟩:=HGB.out
       rintro (e | e | e)
       ·exact y3 e.symm
       ·exact y2 e.symm
       ·exact y1 (by cases e;rfl)
      have hgx:g (M.set j x) j=x:=by rw [g_set hjM,if_pos rfl]
      refine ⟨m,M.set j z,az.set z.1.toNat j,by rw [List.length_set];exact q1,rfl,hq5,?_,?_,fun hu => ?_,fun hs => ?_,(ho5.cell (p:=⟨w.heap.size,0,none⟩) hlt4 hnf).trans n1,(ho5.cell (p:=⟨w.heap.size,1,none⟩) hlt4 hnf).trans n2,HO4.out.trans ho5 (fun _ _ h => h)⟩
      ·rw [<- hsw];exact (sw_perm (by simpa using hjM) (by simpa using q1)).trans HPERM.out
      ·rw [<- hsw]
       have:=HPOS.out.move HGL.out (d:=m) (by simpa using hjM) (by simpa using q1) q4
       rw [HGM.out] at this;exact this
      ·rw [<- hsw]
       exact (HORD.out hu).step (by simpa using hjM) q3 (by simpa using q1) q2 (fun k h0 hk hp => HMIN.out k h0 hk hp) (by rw [hgx,HGM.out];exact HAHT.out)
      ·exfalso
       obtain ⟨e1,e2⟩:=HSTILL.out hs
       have h1:=hs m q3 (by rw [<- HLEN.out];exact q1) (by rw [q2,e2])
       rw [<- e1,<- e2,HGM.out,hgx] at h1
       rw [HAHT.out] at h1;cases h1
     clear hb4 hq4 ho4
     go_wp2_with fail
     refine HSZ.out.mono ?_
     rintro e w5 ⟨⟨u,rfl⟩,hq5,ho5⟩
     have HU:=zh (HK.out _ hq5 ho5)
     clear hq5 ho5
     go_wp2
     go_roundw
     case rel => exact HU.out
     case measure => simp [intOf];have h1:=HM.out.1;have h2:=HM.out.2.1;have h3:=HM.out.2.2.1;rw [HLEN.out] at h1;unfold par at h2;omega
   | false =>
    rw [hah0] at HAH0
    have HAHC:=zh hah0
    clear hah0
    go_wp2
    go_region_held3 (fun w' => w'.cell? ⟨gv,K2 * 2,none⟩=some (.int .i64 y2.1)/\w'.cell? ⟨gv,K2 * 2+1,none⟩=some (.int .i64 y2.2)/\w'.cell? ⟨H,0,none⟩=some (.slice (some ⟨gv,0,none⟩) L.length cap)/\w'.cell? ⟨H,1,none⟩=some (.func (.func 205) #[] #[])/\w'.cell? ⟨gv,K * 2,none⟩=some (.int .i64 y1.1)/\w'.cell? ⟨gv,K * 2+1,none⟩=some (.int .i64 y1.2)) (go_keep) (first | (go_at_call 205;refine (HAH0.out _ ?_).mono ?_;(simp [*]);rintro e W3 ⟨rfl,hb3,n1,n2,n3,n4,n5,n6⟩))
    go_wp2
    have hbW:Below wr.heap.size wr W3:=HDR.out.trans hb3
    clear n1 n2 n3 n4 n5 n6 hb3 m3 m4 m5 m6 b9 hA1 c1' c2' k0 k1
    obtain ⟨m,hmK⟩:∃ m,m=K:=⟨_,rfl⟩
    obtain ⟨z1,z2,z3,z4,z5,z6⟩:=HKK.out
    have hm:m<M.length:=by have:=HA2.out;rw [HLEN.out,hmK];omega
    have hm0:0<m:=by omega
    have hmp:par m=j:=by rw [hmK];exact z3
    have hmin:∀ k,0<k->k<(M.set j x).length->par k=j->ahd (g (M.set j x) k) (g (M.set j x) m)=false:=fun k q1 q2 q3 => by
     rw [hmK,HGK.out K (by omega),<- HY1.out]
     rcases kids q1 q3 with e | e
     ·rw [e,<- z1,HGK.out K (by omega),<- HY1.out];exact ahd_irrefl _
     ·rw [e,<- z2,HGK.out K2 (by omega),<- HY2.out];exact HAHC.out
    rw [<- hmK] at hw1 hk1 hk2 b6 b8 ⊢
    clear z1 z2 z3 z4 z5 z6 hmK HAH0
    obtain ⟨hqW,hoW,d1,d2,d3,d4,hrow⟩:=HT.out W3 hbW
    obtain ⟨m1,m2⟩:=hrow m hm
    have HQW:=zh hqW;have HOW:=zh hoW
    have hgz:=HGL.out.range (g (M.set j x) m) (g_mem (by rw [List.length_set];exact hm))
    have hgm:g (M.set j x) m=g M m:=by rw [g_set (by rw [HLEN.out];exact hj2),if_neg (by omega)]
    rw [hgm] at hgz
    obtain ⟨z,hz⟩:∃ z,z=g M m:=⟨_,rfl⟩
    rw [<- hz] at m1 m2 hgz hgm
    have HZ:=zh hz;have HGZ:=zh hgz;have HGM:=zh hgm
    have HMIN:=zh hmin
    have HM:Hid (m<M.length/\par m=j/\0<m/\j≠m):=⟨hm,hmp,hm0,by omega⟩
    have t1:(0:Int)<=(m:Int):=by omega
    have t2:(m:Int)<(L.length:Int):=by rw [HLEN.out] at hm;omega
    have t3:decide (L.length<=m)=false:=by rw [HLEN.out] at hm;rw [decide_eq_false_iff_not];omega
    have HAH:=zh (fun w' (h:w'.cell? ⟨w.heap.size,0,none⟩=some (.int .i64 x.1)/\w'.cell? ⟨w.heap.size,1,none⟩=some (.int .i64 x.2)/\w'.cell? ⟨H,0,none⟩=some (.slice (some ⟨gv,0,none⟩) L.length cap)/\w'.cell? ⟨H,1,none⟩=some (.func (.func 205) #[] #[])/\w'.cell? ⟨gv,m * 2,none⟩=some (.int .i64 z.1)/\w'.cell? ⟨gv,m * 2+1,none⟩=some (.int .i64 z.2)) =>
     ahead_S (fun w' => w'.cell? ⟨w.heap.size,0,none⟩=some (.int .i64 x.1)/\w'.cell? ⟨w.heap.size,1,none⟩=some (.int .i64 x.2)/\w'.cell? ⟨H,0,none⟩=some (.slice (some ⟨gv,0,none⟩) L.length cap)/\w'.cell? ⟨H,1,none⟩=some (.func (.func 205) #[] #[])/\w'.cell? ⟨gv,m * 2,none⟩=some (.int .i64 z.1)/\w'.cell? ⟨gv,m * 2+1,none⟩=some (.int .i64 z.2)) (fun w1 w2 hb h => ⟨cell_keep hb h.1,cell_keep hb h.2.1,cell_keep hb h.2.2.1,cell_keep hb h.2.2.2.1,cell_keep hb h.2.2.2.2.1,cell_keep hb h.2.2.2.2.2⟩) z x w' h)
    have HBL:Hid (∀ w2,Below W3.drew.heap.size W3.drew w2->QAt lo H hb ga ca (.slice (some ⟨gv,0,none⟩) L.length cap) M az w2/\Only (Ft H ga (.slice (some ⟨gv,0,none⟩) L.length cap)) w w2):=fun w2 hb2 =>
     ⟨HQW.out.drew.below hb2,(HOW.out.drew).trans (Only.of_below hb2) (fun _ _ h => h)⟩
    clear hrow hqW hoW hgz hgm hz hmin hm hm0 hmp hbW HT
    cases hah:ahd z x with
    | false =>
     rw [hah] at HAH
     have HAHF:=zh hah
     clear hah
     go_region_held3 (fun w' => w'.cell? ⟨w.heap.size,0,none⟩=some (.int .i64 x.1)/\w'.cell? ⟨w.heap.size,1,none⟩=some (.int .i64 x.2)/\w'.cell? ⟨H,0,none⟩=some (.slice (some ⟨gv,0,none⟩) L.length cap)/\w'.cell? ⟨H,1,none⟩=some (.func (.func 205) #[] #[])/\w'.cell? ⟨gv,m * 2,none⟩=some (.int .i64 z.1)/\w'.cell? ⟨gv,m * 2+1,none⟩=some (.int .i64 z.2)) (go_keep) (first | (go_at_call 205;refine (HAH.out _ ?_).mono ?_;(simp [*]);rintro e w4 ⟨rfl,hb4,n1,n2,n3,n4,n5,n6⟩))
     obtain ⟨hq4,ho4⟩:=HBL.out _ hb4
     have HSX4:=zh (HSX.out _ hq4)
     have HO4:=zh ho4
     clear hb4 hq4 ho4
     go_wp2_with fail
     refine HSX4.out.mono ?_
     rintro e w5 ⟨⟨u,rfl⟩,hq5,ho5⟩
     go_wp2
     go_end0
     exact HEND.out _ _ hq5 HO4.out ho5 (fun k h0 hk hp => by
      have h1:=HMIN.out k h0 hk hp
      rw [HGM.out] at h1
      exact no_trans h1 HAHF.out)
    | true =>
     rw [hah] at HAH
     have HAHT:=zh hah
     clear hah
     go_region_held3 (fun w' => w'.cell? ⟨w.heap.size,0,none⟩=some (.int .i64 x.1)/\w'.cell? ⟨w.heap.size,1,none⟩=some (.int .i64 x.2)/\w'.cell? ⟨H,0,none⟩=some (.slice (some ⟨gv,0,none⟩) L.length cap)/\w'.cell? ⟨H,1,none⟩=some (.func (.func 205) #[] #[])/\w'.cell? ⟨gv,m * 2,none⟩=some (.int .i64 z.1)/\w'.cell? ⟨gv,m * 2+1,none⟩=some (.int .i64 z.2)) (go_keep) (first | (go_at_call 205;refine (HAH.out _ ?_).mono ?_;(simp [*]);rintro e w4 ⟨rfl,hb4,n1,n2,n3,n4,n5,n6⟩))
     obtain ⟨hq4,ho4⟩:=HBL.out _ hb4
     have HSZ:=zh (set_any lo H hb ga ca _ M az w4 hq4 z HGZ.out.1 (by rw [HAL.out];exact HGZ.out.2) j (by rw [HLEN.out];exact hj2))
     have HO4:=zh ho4
     have HK:Hid (∀ w5,QAt lo H hb ga ca (.slice (some ⟨gv,0,none⟩) L.length cap) (M.set j z) (az.set z.1.toNat j) w5->Only (Ft H ga (.slice (some ⟨gv,0,none⟩) L.length cap)) w4 w5 ->
       DownRel lo H hb ga ca (.slice (some ⟨gv,0,none⟩) L.length cap) L n c w.heap.size x w (.int .i64 m) w5):=fun w5 hq5 ho5 => by
      obtain ⟨q1,q2,q3,q4⟩:=HM.out
      have hjM:j<M.length:=by rw [HLEN.out];exact hj2
      have hsw:sw (M.set j x) j m=(M.set j z).set m x:=by rw [sw_of_set hjM q1 q4,<- HZ.out]
      have hlt4:w.heap.size<w4.heap.size:=World.block_lt_of_cell? w4 ⟨w.heap.size,0,none⟩ n1
      have hnf:¬ Ft H ga (.slice (some ⟨gv,0,none⟩) L.length cap) w.heap.size:=by
       obtain ⟨y1,y2,y3⟩:=HGB.out
       rintro (e | e | e)
       ·exact y3 e.symm
       ·exact y2 e.symm
       ·exact y1 (by cases e;rfl)
      have hgx:g (M.set j x) j=x:=by rw [g_set hjM,if_pos rfl]
      refine ⟨m,M.set j z,az.set z.1.toNat j,by rw [List.length_set];exact q1,rfl,hq5,?_,?_,fun hu => ?_,fun hs => ?_,(ho5.cell (p:=⟨w.heap.size,0,none⟩) hlt4 hnf).trans n1,(ho5.cell (p:=⟨w.heap.size,1,none⟩) hlt4 hnf).trans n2,HO4.out.trans ho5 (fun _ _ h => h)⟩
      ·rw [<- hsw];exact (sw_perm (by simpa using hjM) (by simpa using q1)).trans HPERM.out
      ·rw [<- hsw]
       have:=HPOS.out.move HGL.out (d:=m) (by simpa using hjM) (by simpa using q1) q4
       rw [HGM.out] at this;exact this
      ·rw [<- hsw]
       exact (HORD.out hu).step (by simpa using hjM) q3 (by simpa using q1) q2 (fun k h0 hk hp => HMIN.out k h0 hk hp) (by rw [hgx,HGM.out];exact HAHT.out)
      ·exfalso
       obtain ⟨e1,e2⟩:=HSTILL.out hs
       have h1:=hs m q3 (by rw [<- HLEN.out];exact q1) (by rw [q2,e2])
       rw [<- e1,<- e2,HGM.out,hgx] at h1
       rw [HAHT.out] at h1;cases h1
     clear hb4 hq4 ho4
     go_wp2_with fail
     refine HSZ.out.mono ?_
     rintro e w5 ⟨⟨u,rfl⟩,hq5,ho5⟩
     have HU:=zh (HK.out _ hq5 ho5)
     clear hq5 ho5
     go_wp2
     go_roundw
     case rel => exact HU.out
     case measure => simp [intOf];have h1:=HM.out.1;have h2:=HM.out.2.1;have h3:=HM.out.2.2.1;rw [HLEN.out] at h1;unfold par at h2;omega
  ·have hA1:decide (K2<L.length)=false:=by rw [decide_eq_false_iff_not];exact hA
   have HA2:=zh hA
   clear hA
   by_cases hB:K<L.length
   ·have b8:(K:Int)<(L.length:Int):=by omega
    have hbq:∀ nq,Below wr.heap.size wr (wr.drewN nq):=fun nq => Ut.below_drewN (Below.refl _ _) nq
    have HBQ:=zh hbq
    have HB:=zh hB
    clear hB hbq
    go_wp2
    go_quiet (fail)
    rename_i nq
    go_wp2
    have hbW:=HBQ.out nq
    obtain ⟨W3,hW3⟩:∃ W,W=wr.drewN nq:=⟨_,rfl⟩
    rw [<- hW3] at hbW ⊢
    clear hW3 hA1 c1' c2' k0 k1
    obtain ⟨m,hmK⟩:∃ m,m=K:=⟨_,rfl⟩
    obtain ⟨z1,z2,z3,z4,z5,z6⟩:=HKK.out
    have hm:m<M.length:=by rw [HLEN.out,hmK];exact HB.out
    have hm0:0<m:=by omega
    have hmp:par m=j:=by rw [hmK];exact z3
    have hmin:∀ k,0<k->k<(M.set j x).length->par k=j->ahd (g (M.set j x) k) (g (M.set j x) m)=false:=fun k q1 q2 q3 => by
     rcases kids q1 q3 with e | e
     ·rw [hmK,e,<- z1];exact ahd_irrefl _
     ·exfalso;rw [List.length_set,HLEN.out] at q2;exact HA2.out (by omega)
    rw [<- hmK] at hw1 hk1 hk2 b6 b8 ⊢
    clear z1 z2 z3 z4 z5 z6 hmK
    obtain ⟨hqW,hoW,d1,d2,d3,d4,hrow⟩:=HT.out W3 hbW
    obtain ⟨m1,m2⟩:=hrow m hm
    have HQW:=zh hqW;have HOW:=zh hoW
    have hgz:=HGL.out.range (g (M.set j x) m) (g_mem (by rw [List.length_set];exact hm))
    have hgm:g (M.set j x) m=g M m:=by rw [g_set (by rw [HLEN.out];exact hj2),if_neg (by omega)]
    rw [hgm] at hgz
    obtain ⟨z,hz⟩:∃ z,z=g M m:=⟨_,rfl⟩
    rw [<- hz] at m1 m2 hgz hgm
    have HZ:=zh hz;have HGZ:=zh hgz;have HGM:=zh hgm
    have HMIN:=zh hmin
    have HM:Hid (m<M.length/\par m=j/\0<m/\j≠m):=⟨hm,hmp,hm0,by omega⟩
    have t1:(0:Int)<=(m:Int):=by omega
    have t2:(m:Int)<(L.length:Int):=by rw [HLEN.out] at hm;omega
    have t3:decide (L.length<=m)=false:=by rw [HLEN.out] at hm;rw [decide_eq_false_iff_not];omega
    have HAH:=zh (fun w' (h:w'.cell? ⟨w.heap.size,0,none⟩=some (.int .i64 x.1)/\w'.cell? ⟨w.heap.size,1,none⟩=some (.int .i64 x.2)/\w'.cell? ⟨H,0,none⟩=some (.slice (some ⟨gv,0,none⟩) L.length cap)/\w'.cell? ⟨H,1,none⟩=some (.func (.func 205) #[] #[])/\w'.cell? ⟨gv,m * 2,none⟩=some (.int .i64 z.1)/\w'.cell? ⟨gv,m * 2+1,none⟩=some (.int .i64 z.2)) =>
     ahead_S (fun w' => w'.cell? ⟨w.heap.size,0,none⟩=some (.int .i64 x.1)/\w'.cell? ⟨w.heap.size,1,none⟩=some (.int .i64 x.2)/\w'.cell? ⟨H,0,none⟩=some (.slice (some ⟨gv,0,none⟩) L.length cap)/\w'.cell? ⟨H,1,none⟩=some (.func (.func 205) #[] #[])/\w'.cell? ⟨gv,m * 2,none⟩=some (.int .i64 z.1)/\w'.cell? ⟨gv,m * 2+1,none⟩=some (.int .i64 z.2)) (fun w1 w2 hb h => ⟨cell_keep hb h.1,cell_keep hb h.2.1,cell_keep hb h.2.2.1,cell_keep hb h.2.2.2.1,cell_keep hb h.2.2.2.2.1,cell_keep hb h.2.2.2.2.2⟩) z x w' h)
    have HBL:Hid (∀ w2,Below W3.drew.heap.size W3.drew w2->QAt lo H hb ga ca (.slice (some ⟨gv,0,none⟩) L.length cap) M az w2/\Only (Ft H ga (.slice (some ⟨gv,0,none⟩) L.length cap)) w w2):=fun w2 hb2 =>
     ⟨HQW.out.drew.below hb2,(HOW.out.drew).trans (Only.of_below hb2) (fun _ _ h => h)⟩
    clear hrow hqW hoW hgz hgm hz hmin hm hm0 hmp hbW HT
    cases hah:ahd z x with
    | false =>
     rw [hah] at HAH
     have HAHF:=zh hah
     clear hah
     go_region_held3 (fun w' => w'.cell? ⟨w.heap.size,0,none⟩=some (.int .i64 x.1)/\w'.cell? ⟨w.heap.size,1,none⟩=some (.int .i64 x.2)/\w'.cell? ⟨H,0,none⟩=some (.slice (some ⟨gv,0,none⟩) L.length cap)/\w'.cell? ⟨H,1,none⟩=some (.func (.func 205) #[] #[])/\w'.cell? ⟨gv,m * 2,none⟩=some (.int .i64 z.1)/\w'.cell? ⟨gv,m * 2+1,none⟩=some (.int .i64 z.2)) (go_keep) (first | (go_at_call 205;refine (HAH.out _ ?_).mono ?_;(simp [*]);rintro e w4 ⟨rfl,hb4,n1,n2,n3,n4,n5,n6⟩))
     obtain ⟨hq4,ho4⟩:=HBL.out _ hb4
     have HSX4:=zh (HSX.out _ hq4)
     have HO4:=zh ho4
     clear hb4 hq4 ho4
     go_wp2_with fail
     refine HSX4.out.mono ?_
     rintro e w5 ⟨⟨u,rfl⟩,hq5,ho5⟩
     go_wp2
     go_end0
     exact HEND.out _ _ hq5 HO4.out ho5 (fun k h0 hk hp => by
      have h1:=HMIN.out k h0 hk hp
      rw [HGM.out] at h1
      exact no_trans h1 HAHF.out)
    | true =>
     rw [hah] at HAH
     have HAHT:=zh hah
     clear hah
     go_region_held3 (fun w' => w'.cell? ⟨w.heap.size,0,none⟩=some (.int .i64 x.1)/\w'.cell? ⟨w.heap.size,1,none⟩=some (.int .i64 x.2)/\w'.cell? ⟨H,0,none⟩=some (.slice (some ⟨gv,0,none⟩) L.length cap)/\w'.cell? ⟨H,1,none⟩=some (.func (.func 205) #[] #[])/\w'.cell? ⟨gv,m * 2,none⟩=some (.int .i64 z.1)/\w'.cell? ⟨gv,m * 2+1,none⟩=some (.int .i64 z.2)) (go_keep) (first | (go_at_call 205;refine (HAH.out _ ?_).mono ?_;(simp [*]);rintro e w4 ⟨rfl,hb4,n1,n2,n3,n4,n5,n6⟩))
     obtain ⟨hq4,ho4⟩:=HBL.out _ hb4
     have HSZ:=zh (set_any lo H hb ga ca _ M az w4 hq4 z HGZ.out.1 (by rw [HAL.out];exact HGZ.out.2) j (by rw [HLEN.out];exact hj2))
     have HO4:=zh ho4
     have HK:Hid (∀ w5,QAt lo H hb ga ca (.slice (some ⟨gv,0,none⟩) L.length cap) (M.set j z) (az.set z.1.toNat j) w5->Only (Ft H ga (.slice (some ⟨gv,0,none⟩) L.length cap)) w4 w5 ->
       DownRel lo H hb ga ca (.slice (some ⟨gv,0,none⟩) L.length cap) L n c w.heap.size x w (.int .i64 m) w5):=fun w5 hq5 ho5 => by
      obtain ⟨q1,q2,q3,q4⟩:=HM.out
      have hjM:j<M.length:=by rw [HLEN.out];exact hj2
      have hsw:sw (M.set j x) j m=(M.set j z).set m x:=by rw [sw_of_set hjM q1 q4,<- HZ.out]
      have hlt4:w.heap.size<w4.heap.size:=World.block_lt_of_cell? w4 ⟨w.heap.size,0,none⟩ n1
      have hnf:¬ Ft H ga (.slice (some ⟨gv,0,none⟩) L.length cap) w.heap.size:=by
       obtain ⟨y1,y2,y3⟩:=HGB.out
       rintro (e | e | e)
       ·exact y3 e.symm
       ·exact y2 e.symm
       ·exact y1 (by cases e;rfl)
      have hgx:g (M.set j x) j=x:=by rw [g_set hjM,if_pos rfl]
      refine ⟨m,M.set j z,az.set z.1.toNat j,by rw [List.length_set];exact q1,rfl,hq5,?_,?_,fun hu => ?_,fun hs => ?_,(ho5.cell (p:=⟨w.heap.size,0,none⟩) hlt4 hnf).trans n1,(ho5.cell (p:=⟨w.heap.size,1,none⟩) hlt4 hnf).trans n2,HO4.out.trans ho5 (fun _ _ h => h)⟩
      ·rw [<- hsw];exact (sw_perm (by simpa using hjM) (by simpa using q1)).trans HPERM.out
      ·rw [<- hsw]
       have:=HPOS.out.move HGL.out (d:=m) (by simpa using hjM) (by simpa using q1) q4
       rw [HGM.out] at this;exact this
      ·rw [<- hsw]
       exact (HORD.out hu).step (by simpa using hjM) q3 (by simpa using q1) q2 (fun k h0 hk hp => HMIN.out k h0 hk hp) (by rw [hgx,HGM.out];exact HAHT.out)
      ·exfalso
       obtain ⟨e1,e2⟩:=HSTILL.out hs
       have h1:=hs m q3 (by rw [<- HLEN.out];exact q1) (by rw [q2,e2])
       rw [<- e1,<- e2,HGM.out,hgx] at h1
       rw [HAHT.out] at h1;cases h1
     clear hb4 hq4 ho4
     go_wp2_with fail
     refine HSZ.out.mono ?_
     rintro e w5 ⟨⟨u,rfl⟩,hq5,ho5⟩
     have HU:=zh (HK.out _ hq5 ho5)
     clear hq5 ho5
     go_wp2
     go_roundw
     case rel => exact HU.out
     case measure => simp [intOf];have h1:=HM.out.1;have h2:=HM.out.2.1;have h3:=HM.out.2.2.1;rw [HLEN.out] at h1;unfold par at h2;omega
   ·have hB1:decide (L.length<=K)=true:=by rw [decide_eq_true_eq];omega
    have b8:(L.length:Int)<=(K:Int):=by omega
    have HNO:Hid (∀ k,0<k->k<(M.set j x).length->par k=j->ahd (g (M.set j x) k) x=false):=fun k q1 q2 q3 => by
     exfalso
     obtain ⟨z1,z2,z3,z4,z5,z6⟩:=HKK.out
     rw [List.length_set,HLEN.out] at q2
     rcases kids q1 q3 with e | e <;> omega
    have HBQ:Hid (∀ nq,QAt lo H hb ga ca (.slice (some ⟨gv,0,none⟩) L.length cap) M az (wr.drewN nq)/\Only (Ft H ga (.slice (some ⟨gv,0,none⟩) L.length cap)) w (wr.drewN nq)):=fun nq => by
     obtain ⟨h1,h2,_⟩:=HT.out _ (Ut.below_drewN (Below.refl _ wr) nq)
     exact ⟨h1,h2⟩
    clear hB HT
    go_wp2
    go_quiet (fail)
    go_wp2
    go_quiet (fail)
    go_wp2_with fail
    refine (HSX.out _ (HBQ.out _).1).mono ?_
    rintro e w5 ⟨⟨u,rfl⟩,hq5,ho5⟩
    go_wp2
    go_end0
    exact HEND.out _ _ hq5 (HBQ.out _).2 ho5 HNO.out
end Hp
end
section
open Go.RowKit
namespace Hp
theorem hp_info:(Tryz.prog.info? 320).map (fun i => (i.zero,i.size,i.bytes))=some (some (.agg #[.int .i64 0,.int .i64 0]),2,16):=by kernel_rfl
theorem QAt.append {lo H hb ga ca:Nat} {v:Value} {M:List It} {ats:List Int} {w w1:World} (hq:QAt lo H hb ga ca v M ats w) (hgrow:w.grownBy w1 v.ownBlock) {gg cap:Nat} {x:It}
  (hown:w1.ownsRow lo 320 2 (.slice (some ⟨gg,0,none⟩) (M.length+1) cap) (M.length+1) (encL M ++ encI x)) (hat:v.ownBlock=some gg\/w.heap.size<=gg) :
  QAt lo H hb ga ca (.slice (some ⟨gg,0,none⟩) (M.length+1) cap) (M ++ [x]) ats (w1.setCell ⟨H,0,none⟩ (.slice (some ⟨gg,0,none⟩) (M.length+1) cap)):=by
 obtain ⟨n1,n2,n3,n4,n5,n6,n7,n8,n9,n10⟩:=hq.ne
 have hgH:gg≠H:=by
  rintro rfl
  rcases hat with h | h
  ·exact n4 h
  ·omega
 have t1:w1.heap[H]? = w.heap[H]?:=hgrow.block H n7 (fun e => n4 e.symm)
 have t2:w1.heap[hb]? = w.heap[hb]?:=hgrow.block hb n8 (fun e => n5 e.symm)
 have hk:∀ j,j≠H->(w1.setCell ⟨H,0,none⟩ (.slice (some ⟨gg,0,none⟩) (M.length+1) cap)).heap[j]? = w1.heap[j]?:=fun j hj => Below.heap_setCell _ _ _ _ (by simpa using hj)
 refine ⟨?_,(hk hb (fun e => n1 e.symm)).trans (t2.trans hq.box),?_,?_,hq.loH,hq.loB⟩
 ·rw [heap_setCell_same w1 H 0 _ _ _ (t1.trans hq.top)];rfl
 ·have:=ownsRow_setCell_other (a:=⟨H,0,none⟩) hown (by simpa [Value.ownBlock] using hgH) (.slice (some ⟨gg,0,none⟩) (M.length+1) cap)
  have e1:(M ++ [x]).length=M.length+1:=by simp
  have e2:encL (M ++ [x])=encL M ++ encI x:=by simp [encL]
  rw [e1,e2];exact this
 ·exact ownsRow_setCell_other (a:=⟨H,0,none⟩) (hq.at_.kept hgrow (.inr (fun e => n6 e.symm))) (by simpa [Value.ownBlock] using n2) _
def Put (lo H hb ga ca:Nat) (v:Value) (M:List It) (x:It) (n:Nat) (w:World) (e:Ending) (w':World):Prop :=
 (∃ u,e = .returned u)/\∃ v' L ats,QAt lo H hb ga ca v' L ats w'/\List.Perm L (M ++ [x])/\Pos ats L n L.length/\(HeapOrd M->HeapOrd L)/\Only (Ft H ga v) w w'/\∀ k,v'.ownBlock=some k->v.ownBlock=some k\/w.heap.size<=k
theorem put_any (lo H hb ga ca:Nat) (v:Value) (M:List It) (ats:List Int) (x:It) (n:Nat) (w:World) (hq:QAt lo H hb ga ca v M ats w) (hG:Good (M ++ [x]) n) (hP:Pos ats (M ++ [x]) n M.length) (hl:(M.length:Int)<=1048575) (hlo:lo<=w.heap.size) :
  Calls Tryz.prog 250 #[.pointer (some ⟨H,0,none⟩),.agg #[.int .i64 x.1,.int .i64 x.2]] w (Put lo H hb ga ca v M x n w):=by
 obtain ⟨i0,hi,hz0,hz1,hz2⟩:=info_parts hp_info
 have hbl:Below w.heap.size w (w.alloc (.cells #[.int .i64 x.1,.int .i64 x.2] 320)):=(Below.refl _ _).alloc (Nat.le_refl _) _
 have hq2:=hq.below hbl
 have HQ:=zh hq2
 have HO:Hid (Only (Ft H ga v) w (w.alloc (.cells #[.int .i64 x.1,.int .i64 x.2] 320))):=(Only.refl _ _).alloc _
 have c1:=hq2.c_l
 have am1:M.length+1<=maxLen:=by unfold maxLen;omega
 have am2:(M.length+1) * 16<=140737488355328:=by omega
 have HG:=zh hG;have HP:=zh hP
 have hlo2:lo<=(w.alloc (.cells #[.int .i64 x.1,.int .i64 x.2] 320)).heap.size:=Nat.le_trans hlo hbl.size
 obtain ⟨W,hW⟩:∃ W,W=w.alloc (.cells #[.int .i64 x.1,.int .i64 x.2] 320):=⟨_,rfl⟩
 have c6:W.cell? ⟨w.heap.size,0,none⟩=some (.int .i64 x.1):=by rw [hW];simp
 have c7:W.cell? ⟨w.heap.size,1,none⟩=some (.int .i64 x.2):=by rw [hW];simp
 have hsz:w.heap.size<W.heap.size:=by rw [hW];simp
 rw [<- hW] at c1 HQ HO hlo2
 obtain ⟨qv,rv,hv⟩:∃ q r,v = .slice q M.length r:=by
  rcases hq.row.2 with ⟨h1,h2⟩ | ⟨gv,cap,cur,h1,_⟩
  ·exact ⟨none,0,by rw [h1,h2]⟩
  ·exact ⟨_,cap,h1⟩
 subst hv
 have HSZ:=zh hsz
 have HKEEP:Hid (∀ w1,(W.alloc (.cells #[.int .i64 x.1,.int .i64 x.2] 320)).drew.grownBy w1 (Value.slice qv M.length rv).ownBlock->w1.cell? ⟨H,0,none⟩=some (.slice qv M.length rv)/\w1.frozen? ⟨H,0,none⟩=false):=fun w1 hg => by
  have hq3:=(HQ.out.below ((Below.refl _ _).alloc (Nat.le_refl _) (.cells #[.int .i64 x.1,.int .i64 x.2] 320))).drew
  obtain ⟨_,_,_,n4,_,_,n7,_⟩:=hq3.ne
  have t1:=hg.block H n7 (fun e => n4 e.symm)
  exact ⟨(World.cell?_of_block t1).trans hq3.c_l,(World.frozen?_of_block t1).trans (frozen_of_row _ _ _ _ _ hq3.top)⟩
 clear hq hbl hq2 hG hP hsz hlo
 have c1a:(W.alloc (.cells #[.int .i64 x.1,.int .i64 x.2] 320)).cell? ⟨H,0,none⟩=some (.slice qv M.length rv):=(HQ.out.below ((Below.refl _ _).alloc (Nat.le_refl _) _)).c_l
 go_enter Tryz.func250,Tryz.ntmps250
 go_wp2
 rw [<- hW]
 have HW:=zh hW
 clear hW
 go_region_law (first | (refine step_append_lies _ (by rfl) (.tmp 8) (.tmp 10) 312 (by rfl) lo 320 i0 (.agg #[.int .i64 0,.int .i64 0]) 2 16 Tryz.underlying312 hi hz0 hz1 hz2 rfl (by decide) _ _ _ (by rfl) (HQ.out.row.drew.alloc _) ⟨W.heap.size,0,none⟩ 1 1 [.int .i64 x.1,.int .i64 x.2] (by rfl) (by rfl) (World.news_of_block (Ut.alloc_at _ _)) (by intro u hu;simp at hu;rcases hu with rfl | rfl <;> rfl) Nat.one_pos am1 am2 (by simp;omega) (W.heap.size+1) (by simp) ?_;intro gg cap w1 hown' hgrow hat hlt;obtain ⟨k9,k10⟩:=HKEEP.out _ hgrow))
 all_goals (
  have hb0:Below W.heap.size W ((W.alloc (.cells #[.int .i64 x.1,.int .i64 x.2] 320)).drew):=((Below.refl _ _).alloc (Nat.le_refl _) _).drew
  have hq3:=HQ.out.below hb0
  have hq4:=QAt.append hq3 hgrow hown' (hat.imp id (fun e => by rw [e];simp))
  have ho4:Only (Ft H ga (.slice qv M.length rv)) w (w1.setCell ⟨H,0,none⟩ (.slice (some ⟨gg,0,none⟩) (M.length+1) cap)) :=
   (((HO.out.alloc (.cells #[.int .i64 x.1,.int .i64 x.2] 320)).drew).grown hgrow (fun k _ e => .inr (.inr e))).setCell (p:=⟨H,0,none⟩) (fun _ => .inl rfl) _
  have hal:(M ++ [x]).length=M.length+1:=by simp
  have hu:=up_any lo H hb ga ca _ (M ++ [x]) ats n M.length _ hq4 HG.out HP.out (by rw [hal];omega) (by rw [hal];omega)
  have HNEW:Hid (∀ k,(Value.slice (some ⟨gg,0,none⟩) (M.length+1) cap).ownBlock=some k->(Value.slice qv M.length rv).ownBlock=some k\/w.heap.size<=k):=fun k hk => by
   obtain rfl:gg=k:=by simpa [Value.ownBlock] using hk
   rcases hat with h | h
   ·exact .inl h
   ·right;have:=HSZ.out;omega
  have k11:=hq4.c_l
  have HU:=zh hu;have HO4:=zh ho4
  have v1:IntKind.i64.wrap (M.length:Int)=(M.length:Int):=IntWalk.i64_in _ (by omega)
  obtain ⟨W5,hW5⟩:∃ X,X=w1.setCell ⟨H,0,none⟩ (.slice (some ⟨gg,0,none⟩) (M.length+1) cap):=⟨_,rfl⟩
  rw [<- hW5] at HU HO4 k11 ⊢
  clear hb0 hq3 hq4 ho4 hu hown' hgrow hat hlt k9 k10 hW5
  go_wp2_with fail
  refine HU.out.mono ?_
  rintro e w6 ⟨⟨u,rfl⟩,L',ats',hq6,hp6,hpos6,hord6,ho6⟩
  have HR:Hid (Put lo H hb ga ca (.slice qv M.length rv) M x n w (.returned (.tuple #[])) w6) :=
   ⟨⟨_,rfl⟩,_,L',ats',hq6,hp6,hpos6,fun h => hord6 (h.put x),HO4.out.trans ho6 (fun i hi hf => by
    rcases hf with h | h | h
    ·exact .inl h
    ·exact .inr (.inl h)
    ·rcases HNEW.out i h with h2 | h2
     ·exact .inr (.inr h2)
     ·omega),HNEW.out⟩
  clear hq6 hp6 hpos6 hord6 ho6
  go_wp2
  go_end0
  exact HR.out)
end Hp
end
end Go.Proofs.YtimhglmfckfclaaGreatDoor
