/- Parts of the proof. -/
import Derived.Test.YtimhglmfckfclaaGreatDoorM34
set_option linter.unusedVariables false
set_option linter.unusedSimpArgs false
set_option maxRecDepth 100000
set_option maxHeartbeats 16000000
namespace Go.Proofs.YtimhglmfckfclaaGreatDoor
section
namespace Fr
open Vw (Sess)
def annB:ByteArray:=⟨#[97,110,110]⟩
def tvB:ByteArray:=⟨#[116,118]⟩
def askR (level life:Int):Req:=⟨annB,tvB,7,level,life⟩
structure Sw (st:FS) (A:List Sess) (l:List Kn):Prop where
 seen:SeenK st A l
 clk:st.clock=0
 room:st.free.length+A.length=32
 cnt:A.length=l.length
 all:∀ s ∈ A,s.scopes=7/\s.dl=100
 liv:∀ i:Nat,i<l.length->liveK l i 0=true
 one:l≠[]->∃ s ∈ A,s.birth=1/\s.depth=0
theorem Sw.grow {st:FS} {A:List Sess} {l:List Kn} {us ub kind:Int} {s:Sess} {up:Int} (h:Sw st A l) (hn:l.length<32) (hp:planF st kind us ub (askR 1 100)=some (st,s,0)) (hs7:s.scopes=7) (hs1:s.dl=100)
  (hk:kind=0/\up = -1/\l=[]/\s.depth=0\/kind=1/\∃ p ∈ A,p.slot=us/\p.birth=ub/\∃ j:Nat,up=j/\j<l.length/\LinkK p (kat l j)) :
  ∃ st2,bornF st s=some (st2,0)/\Sw st2 (A ++ [s]) (l ++ [⟨s.slot,s.birth,up,s.dl,false⟩])/\s.birth=l.length+1:=by
 rcases h.seen.is.plan kind us ub (askR 1 100) with ⟨no,h1,h2,_⟩ | ⟨st',s',h1,h2,h3,h4,h5,h6,h7,h8,h9,h10,h11,h12,h13⟩
 ·rw [hp] at h2;cases h2;exact absurd rfl h1
 rw [hp] at h1
 cases h1
 rcases h.seen.is.born s with ⟨no,k1,k2,k3⟩ | ⟨st2,k1,k2,k3,k4,k5,k6,k7⟩
 ·exact absurd ⟨h9,h10,h11,h12,h8⟩ k3
 have hup:up<0\/∃ j:Nat,up=j/\j<l.length/\liveK l j st.clock=true:=by
  rcases hk with ⟨_,e,_⟩ | ⟨_,p,_,_,_,j,e,hj,_⟩
  ·exact .inl (by omega)
  ·exact .inr ⟨j,e,hj,by rw [h.clk];exact h.liv j hj⟩
 have hub:(up<0->s.ub=0)/\(0<=up->s.ub=up+1):=by
  rcases hk with ⟨e0,e,_⟩ | ⟨e0,p,hpA,e1,e2,j,e,hj,hl⟩
  ·refine ⟨fun _ => ?_,fun _ => by omega⟩
   rcases h13 with ⟨_,_,h14⟩ | ⟨h14,_⟩
   ·exact h14
   ·exact absurd e0 h14
  ·refine ⟨fun _ => by omega,fun _ => ?_⟩
   rcases h13 with ⟨h14,_⟩ | ⟨_,q,_,_,hq,_,h14,_⟩
   ·omega
   ·rw [h14,<- e2,hl.birth,(h.seen.ups j hj).2,e]
 have hbl:s.birth=l.length+1:=by rw [h11,h.seen.bir]
 have hS:=h.seen.born (k:=⟨s.slot,s.birth,up,s.dl,false⟩) k3 k4 k5 ⟨rfl,rfl,rfl,hub.1,hub.2⟩ hbl rfl (by show st.clock<s.dl;rw [h.clk,hs1];decide) hup
 have hupl:up<(l.length:Int):=by rcases hup with hup | ⟨j,e,hj,_⟩ <;> omega
 refine ⟨st2,k1,⟨hS,k4.trans h.clk,?_,by simp [h.cnt],?_,?_,?_⟩,hbl⟩
 ·rw [k6,List.length_erase_of_mem h8,List.length_append,List.length_singleton]
  have:=h.room
  have:0<st.free.length:=List.length_pos_iff.2 (fun e => by rw [e] at h8;cases h8)
  omega
 ·intro x hx
  rcases List.mem_append.1 hx with hx | hx
  ·exact h.all x hx
  ·rw [List.mem_singleton] at hx;subst hx;exact ⟨hs7,hs1⟩
 ·intro i hi
  rw [List.length_append,List.length_singleton] at hi
  have hap:=liveK_app (k:=⟨s.slot,s.birth,up,s.dl,false⟩) h.seen.ups hupl hbl 0
  by_cases h3:i<l.length
  ·rw [hap i i (Nat.le_refl _) h3];exact h.liv i h3
  ·have e:i=l.length:=by omega
   subst e
   rw [liveK_eq hS.ups (by simp),kat_last,if_neg (by simp [hs1])]
   rcases hup with hup | ⟨j,e1,e2,_⟩
   ·rw [if_pos hup]
   ·rw [if_neg (by simp;omega)]
    show liveK _ up 0=true
    have h9:=hap j j (Nat.le_refl _) e2
    rw [<- e1] at h9
    rw [h9,e1];exact h.liv j e2
 ·intro _
  rcases hk with ⟨_,_,e,hd⟩ | ⟨_,_,_,_,_,j,_,hj,_⟩
  ·exact ⟨s,by simp,by rw [hbl,e];rfl,hd⟩
  ·obtain ⟨x,hx,h1⟩:=h.one (by intro e;rw [e] at hj;simp at hj)
   exact ⟨x,by simp [hx],h1⟩
theorem sw_new:Sw newF [] []:=⟨seen_new,rfl,by decide,rfl,fun s hs => (by cases hs),fun i hi => absurd hi (by simp),fun h => absurd rfl h⟩
def top1:Sess:=⟨0,1,0,0,0,annB,ByteArray.empty,7,1,0,100,0⟩
theorem plan_top:planF newF 0 0 0 (askR 1 100)=some (newF,top1,0):=by
 have h1:grantF newF 0 0 0 (askR 1 100)=(⟨0,1,0,0,0,annB,ByteArray.empty,7,1,0,100,0⟩,0):=by
  unfold grantF
  rw [if_pos rfl]
  unfold loginS
  rw [if_neg (by decide),if_neg (by decide),if_neg (by decide),if_neg (by decide),if_neg (by decide)]
  rfl
 unfold planF
 rw [if_neg (by decide),h1,if_neg (by decide)]
 rfl
theorem Sw.first:∃ st2,bornF newF top1=some (st2,0)/\Sw st2 [top1] [⟨0,1,-1,100,false⟩]:=by
 obtain ⟨st2,h1,h2,_⟩:=sw_new.grow (up:=-1) (by decide) plan_top rfl rfl (.inl ⟨rfl,rfl,rfl,rfl⟩)
 exact ⟨st2,h1,h2⟩
end Fr
end
section
open Go.RowKit Go.Maps Go.Shelf
namespace Fr
open Vw (Sess)
open Ex (Ent wo ExpAt)
attribute [local go_sem] Oper.semAt_some
theorem lask_any (level life:Int) (w:World):Calls Tryz.prog 19 #[.int .i64 level,.int .i64 life] w fun e w' => e = .returned (.agg (askR level life).cells.toArray)/\Below w.heap.size w w':=by
 have hb:Below w.heap.size w (w.alloc (.cells (askR level life).cells.toArray 55)):=(Below.refl _ _).alloc (Nat.le_refl _) _
 have HB:Hid (Below w.heap.size w (w.alloc (.cells #[.string ⟨#[97,110,110]⟩,.string ⟨#[116,118]⟩,.int .u64 7,.int .i64 level,.int .i64 life] 55))):=hb
 clear hb
 go_enter Tryz.func19,Tryz.ntmps19
 have hrow:(w.alloc (.cells #[.string ⟨#[97,110,110]⟩,.string ⟨#[116,118]⟩,.int .u64 7,.int .i64 level,.int .i64 life] 55)).heap[w.heap.size]? = some (.cells #[.string ⟨#[97,110,110]⟩,.string ⟨#[116,118]⟩,.int .u64 7,.int .i64 level,.int .i64 life] 55 (0,0)):=World.alloc_heap_new _ _
 have HROW:=zh hrow
 clear hrow
 go_wp2
 refine bodyPost_ret (results_cell_row rfl _ _ w.heap.size _ _ (0,0) _ rfl HROW.out Tryz.underlying55 rfl (by kernel_rfl)) rfl ?_
 exact ⟨rfl,HB.out⟩
section
variable {lo:Nat} {P:Pa} {st st1 st2:FS} {nw c d:Nat} {Fe:Nat->Prop} {w w' w'':World}
theorem FoTo.behind {w0:World} (h0:ForAt lo P st nw Fe w0) (hb:Below w0.heap.size w0 w) (h:FoTo lo P st1 c nw Fe w w') {G:Nat->Prop} (ho:Only G w' w'') (hG:∀ k,G k->w0.heap.size<=k/\k<w.heap.size):FoTo lo P st1 c nw Fe w0 w'':=by
 obtain ⟨n1,F1,a1,a2,hf,ho1,hn⟩:=h
 have hnF:∀ k,Fo P Fe k->k<w0.heap.size:=fun k hk => (h0.lt hk).2
 refine ⟨n1,F1,a1,a2,hf.only ho (fun k hk hg => ?_),((Only.of_below hb:Only (Fo P Fe) w0 w).trans ho1 (fun i hi h => h)).trans ho (fun i hi hg => absurd hi (by have:=(hG i hg).1;omega)),fun k hk => (hn k hk).imp id (Nat.le_trans hb.size)⟩
 have h1:=hG k hg
 exact Fo.new hn (fun hf => by have:=hnF k hf;omega) h1.2 hk
theorem FoTo.keepRow (h:FoTo lo P st1 c nw Fe w w') (h0:ForAt lo P st nw Fe w) {k:Nat} (hk:k<w.heap.size) (hn:¬ Fo P Fe k):w'.heap[k]? = w.heap[k]?:=by
 obtain ⟨n1,F1,a1,a2,hf,ho1,hnn⟩:=h
 exact ho1.block k hk hn
theorem lbirth_any (h:ForAt lo P st nw Fe w) (hw:nw+14<=1099511627776) (kind us ub:Int) (r:Req) (h1:r.user.size<=9223372036854775807) (h2:r.label.size<=9223372036854775807) (s:Sess) (hp:planF st kind us ub r=some (st1,s,0)) (hc:bornF st1 s=some (st2,0))
  (hD:DeepOk st1) (hbi:0<=st1.births/\st1.births<=1048576) (hu:s.user.size<=9223372036854775807) (hl:s.label.size<=9223372036854775807) (hsc:s.scopes<18446744073709551616) :
  Calls Tryz.prog 18 (planArgs P kind us ub r) w fun e w' => e = .returned (.tuple #[.agg s.cells.toArray,.bool true])/\FoTo lo P st2 14 nw Fe w w':=by
 obtain ⟨rs,hrs⟩:∃ rs,rs=r.cells:=⟨_,rfl⟩
 have HRL:Hid (rs.length=5):=by show _=_;rw [hrs];rfl
 obtain ⟨W0,hW0⟩:∃ W0,W0=((w.alloc (.cells #[.int .i64 us,.int .i64 ub] 26)).alloc (.cells r.cells.toArray 55)).alloc (.cells s0.cells.toArray 30):=⟨_,rfl⟩
 have hb0:Below w.heap.size w W0:=by rw [hW0];exact (((Below.refl _ _).alloc (Nat.le_refl _) _).alloc (by simp) _).alloc (by simp;omega) _
 have hs0:W0.heap.size=w.heap.size+3:=by rw [hW0,World.size_alloc,World.size_alloc,World.size_alloc]
 have hR0:W0.heap[w.heap.size+2]? = some (.cells s0.cells.toArray 30 (0,0)):=by
  have:=World.alloc_heap_new ((w.alloc (.cells #[.int .i64 us,.int .i64 ub] 26)).alloc (.cells r.cells.toArray 55)) (.cells s0.cells.toArray 30)
  rw [World.size_alloc,World.size_alloc] at this
  rw [hW0];exact this
 have hpl:=fplan (h.below hb0) (by omega) kind us ub r h1 h2 s 0 hp
 rw [show erV 0 = .nilIface from if_pos rfl] at hpl
 have HPL:=zh hpl
 clear hpl
 obtain ⟨ss,hss⟩:∃ ss,ss=s.cells:=⟨_,rfl⟩
 have HCL:Hid (ss.length=12):=by show _=_;rw [hss];rfl
 have HC1:Hid (∀ u ∈ ss,u.oneCell'=true):=by show ∀ _,_;rw [hss];exact sess_one _
 have HBORN:Hid (∀ (n1:Nat) (F1:Nat->Prop) (W:World),n1<=nw+8->ForAt lo P st1 n1 F1 W->Calls Tryz.prog 24 #[.pointer (some ⟨P.f,0,none⟩),.agg ss.toArray] W fun e w' => e = .returned (.nilIface)/\FoTo lo P st2 6 n1 F1 W w'):=fun n1 F1 W hn hf => by
  rw [hss]
  exact fborn hf hD hbi (by omega) s hu hl hsc 0 hc
 have HH:=zh h;have HB0:=zh hb0;have HS0:=zh hs0;have HR0:=zh hR0
 unfold planArgs
 rw [<- hss]
 rw [<- hss] at HPL
 obtain ⟨b1,b2,b3,b4,b5⟩:=r
 simp only [Req.cells] at *
 replace hW0:W0=((w.alloc (.cells #[.int .i64 us,.int .i64 ub] 26)).alloc (.cells #[.string b1,.string b2,.int .u64 (b3:Int),.int .i64 b4,.int .i64 b5] 55)).alloc (.cells #[.int .i64 0,.int .i64 0,.int .i64 0,.int .i64 0,.int .i64 0,.string ⟨#[]⟩,.string ⟨#[]⟩,.int .u64 0,.int .i64 0,.int .i64 0,.int .i64 0,.int .i64 0] 30):=hW0
 have HW0:=zh hW0
 have l0:W0.cell? ⟨w.heap.size,0,none⟩=some (.int .i64 us)/\W0.cell? ⟨w.heap.size,1,none⟩=some (.int .i64 ub):=by
  have k:W0.heap[w.heap.size]? = some (.cells #[.int .i64 us,.int .i64 ub] 26 (0,0)):=by
   rw [hW0,Below.heap_alloc _ _ _ (by simp;omega),Below.heap_alloc _ _ _ (by simp)];exact World.alloc_heap_new _ _
  exact ⟨by rw [zc k];rfl,by rw [zc k];rfl⟩
 have m0:W0.cell? ⟨w.heap.size+1,0,none⟩=some (.string b1)/\W0.cell? ⟨w.heap.size+1,1,none⟩=some (.string b2)/\W0.cell? ⟨w.heap.size+1,2,none⟩=some (.int .u64 (b3:Int))/\W0.cell? ⟨w.heap.size+1,3,none⟩=some (.int .i64 b4)/\W0.cell? ⟨w.heap.size+1,4,none⟩=some (.int .i64 b5):=by
  have k:W0.heap[w.heap.size+1]? = some (.cells #[.string b1,.string b2,.int .u64 (b3:Int),.int .i64 b4,.int .i64 b5] 55 (0,0)):=by
   have:=World.alloc_heap_new (w.alloc (.cells #[.int .i64 us,.int .i64 ub] 26)) (.cells #[.string b1,.string b2,.int .u64 (b3:Int),.int .i64 b4,.int .i64 b5] 55)
   rw [World.size_alloc] at this
   rw [hW0,Below.heap_alloc _ _ _ (by simp)];exact this
  exact ⟨by rw [zc k];rfl,by rw [zc k];rfl,by rw [zc k];rfl,by rw [zc k];rfl,by rw [zc k];rfl⟩
 obtain ⟨l0,l1⟩:=l0
 obtain ⟨m0,m1,m2,m3,m4⟩:=m0
 clear h h1 h2 hp hc hD hbi hu hl hsc hss hW0 hb0 hs0 hR0 hw hrs HRL
 go_enter Tryz.func18,Tryz.ntmps18
 go_upto_region 1 with fail
 rw [<- HW0.out]
 go_wp2_with fail
 refine HPL.out.mono ?_
 rintro e w1 ⟨rfl,hf1⟩
 obtain ⟨n1,F1,a1,a2,hfa,hoa,hna⟩:=hf1
 obtain ⟨W4,hW4⟩:∃ W4,W4=w1.alloc (.cells ss.toArray 30):=⟨_,rfl⟩
 obtain ⟨sx,hsx⟩:∃ sx,sx=w1.heap.size:=⟨_,rfl⟩
 have hb14:Below w1.heap.size w1 W4:=by rw [hW4];exact (Below.refl _ _).alloc (Nat.le_refl _) _
 have hrs4:W4.heap[sx]? = some (.cells ss.toArray 30 (0,0)):=by rw [hW4,hsx];exact World.alloc_heap_new _ _
 have hsx0:W0.heap.size<=sx:=by rw [hsx];exact hoa.size
 have hnsx:¬ Fo P F1 sx:=fun hf => by have:=(hfa.lt hf).2;omega
 have hnR:¬ Fo P F1 (w.heap.size+2):=Fo.new hna (fun hf => by have:=(HH.out.lt hf).2;omega) (by rw [HS0.out];omega)
 have hf4:=hfa.below hb14
 have ho04:Only (Fo P Fe) w W4:=(((Only.of_below HB0.out:Only (Fo P Fe) w W0).trans hoa (fun i hi h => h)).trans (Only.of_below hb14:Only (Fo P Fe) w1 W4) (fun i hi h => h))
 have hna0:∀ k,F1 k->Fe k\/w.heap.size<=k:=fun k hk => (hna k hk).imp id (Nat.le_trans HB0.out.size)
 have HF4:=zh hf4
 have HBO:Hid (∀ W,ForAt lo P st1 n1 F1 W->Calls Tryz.prog 24 #[.pointer (some ⟨P.f,0,none⟩),.agg ss.toArray] W fun e w' => e = .returned (.nilIface)/\FoTo lo P st2 6 n1 F1 W w'):=fun W hf => HBORN.out n1 F1 W a2 hf
 have HSX:=zh (And.intro hnsx (zx hrs4))
 have hRW4:W4.heap[w.heap.size+2]? = some (.cells s0.cells.toArray 30 (0,0)):=(hb14.block _ (by have:=HS0.out;have:=hoa.size;omega)).trans ((hoa.block _ (by rw [HS0.out];omega) (fun hf => by have:=(HH.out.lt hf).2;omega)).trans HR0.out)
 have HR4:=zh hRW4
 have HRX:=zh (And.intro hnR (zx hRW4))
 have HKR:Hid (∀ A B:World,B.heap[sx]? = A.heap[sx]?->A.rangeAt sx 0 ss->B.rangeAt sx 0 ss):=fun A B e h i u hi => by
  have:=h i u hi
  simp only [World.cell?] at this ⊢
  rw [e];exact this
 have hS4:W4.drew.rangeAt sx 0 ss:=fun i u hi => by
  rw [cell_of_row W4.drew _ _ _ _ _ (show W4.drew.heap[sx]? = _ from hrs4)]
  simpa using hi
 have HS4:=zh hS4
 have hset:∀ A:World,A.heap[w.heap.size+2]? = some (.cells s0.cells.toArray 30 (0,0))->(World.setCells A (w.heap.size+2) 0 ss).heap[w.heap.size+2]? = some (.cells ss.toArray 30 (0,0)):=fun A hA => by
  have:=Ag.setCells_row (w.heap.size+2) 30 ss 0 _ A hA
  rwa [Ag.put_all (by rw [HCL.out];rfl)] at this
 have hne:sx≠w.heap.size+2:=by have:=HS0.out;omega
 have HFIN:Hid (∀ w5,FoTo lo P st2 6 n1 F1 W4.drew w5->w5.heap[w.heap.size+2]? = some (.cells s0.cells.toArray 30 (0,0))->w5.rangeAt sx 0 ss ->
   (World.setCells w5 (w.heap.size+2) 0 ss).heap[w.heap.size+2]? = some (.cells ss.toArray 30 (0,0))/\FoTo lo P st2 14 nw Fe w (World.setCells w5 (w.heap.size+2) 0 ss)/\(World.setCells w5 (w.heap.size+2) 0 ss).rangeAt sx 0 ss):=fun w5 h5 hR hS => by
  have ho:Only (fun b => b=w.heap.size+2) w5 (World.setCells w5 (w.heap.size+2) 0 ss):=only_cells _ _ _ (Only.refl _ _)
  have hx:sx<w5.heap.size:=by
   obtain ⟨_,_,_,_,_,ho5,_⟩:=h5
   exact Nat.lt_of_lt_of_le HSX.out.2 ho5.size
  have h7:FoTo lo P st2 (8+6) nw Fe W0 w5:=FoTo.after a1 a2 (hoa.trans ((Only.of_below hb14:Only (Fo P Fe) w1 W4).drew) (fun i hi h => h)) hna h5
  exact ⟨hset w5 hR,FoTo.behind HH.out HB0.out h7 ho (fun k hk => by subst hk;exact ⟨by omega,by rw [HS0.out];omega⟩),HKR.out _ _ (ho.block _ hx hne) hS⟩
 have HST:Hid (W4.heap.size<=(World.setCells W4.drew (w.heap.size+2) 0 ss).heap.size/\ForAt lo P st1 n1 F1 (World.setCells W4.drew (w.heap.size+2) 0 ss)/\(World.setCells W4.drew (w.heap.size+2) 0 ss).rangeAt sx 0 ss/\(World.setCells W4.drew (w.heap.size+2) 0 ss).heap[w.heap.size+2]? = some (.cells ss.toArray 30 (0,0))/\Only (Fo P Fe) w (World.setCells W4.drew (w.heap.size+2) 0 ss)):=by
  have ho:Only (fun b => b=w.heap.size+2) W4.drew (World.setCells W4.drew (w.heap.size+2) 0 ss):=only_cells _ _ _ (Only.refl _ _)
  exact ⟨ho.size,hf4.drew.only ho (fun k hk e => by subst e;exact hnR hk),HKR.out _ _ (ho.block _ HSX.out.2 hne) hS4,hset _ hRW4,ho04.drew.trans ho (fun i hi e => by omega)⟩
 have HFB:Hid (∀ w5 w6,Only (Fo P Fe) w w5->FoTo lo P st2 6 n1 F1 w5 w6->FoTo lo P st2 14 nw Fe w w6):=fun w5 w6 ho h6 => FoTo.after (c:=8) (d:=6) a1 a2 ho hna0 h6
 have HW4:=zh hW4;have HSQ:=zh hsx
 clear hfa hoa hna hW4 hsx hb14 hrs4 hsx0 hnsx hnR hf4 ho04 hna0 hRW4 hS4 hset hne a1 a2 l0 l1 m0 m1 m2 m3 m4
 go_upto_region 4 with (first
  | (refine Ag.wpList_store_new (by rfl) 30 (.tmp 10) (.tmp 18) (by rfl) ss (by rfl) (by rfl) (by rw [HCL.out];kernel_rfl) (by rw [HCL.out];rfl) HC1.out ?_))
 rw [<- HW4.out,<- HSQ.out]
 refine wp_region_held_drew (S:=fun W' => W'.rangeAt sx 0 ss) (by kernel_rfl) HS4.out (fun _ => ?_)
 refine tk 0 rfl (.agg ss.toArray) (fun wq hq => by exact St.exec_load 30 (.tmp 10) (by rfl) sx 0 (by rfl) ss _ hq Tryz.underlying30 rfl (by rw [HCL.out];kernel_rfl)) HS4.out ?_
 try simp only [zq]
 refine tq 1 rfl (.pointer (some ⟨P.f,0,none⟩)) HS4.out ?_
 try simp only [zq]
 refine tk 2 rfl (.agg ss.toArray) (fun wq hq => by exact St.exec_load 30 (.tmp 10) (by rfl) sx 0 (by rfl) ss _ hq Tryz.underlying30 rfl (by rw [HCL.out];kernel_rfl)) HS4.out ?_
 try simp only [zq]
 refine zr 3 rfl (fun K hK => ?_)
 ·go_simp
  refine (HBO.out W4.drew HF4.out.drew).mono ?_
  rintro e w5 ⟨rfl,h5⟩
  have hS5:w5.rangeAt sx 0 ss:=HKR.out _ _ (h5.keepRow HF4.out.drew HSX.out.2 HSX.out.1) HS4.out
  have hR5:=(h5.keepRow HF4.out.drew HRX.out.2 HRX.out.1).trans HR4.out
  refine hK.out _ _ hS5 (fun _ => ?_)
  clear hK K
  try simp only [zq]
  refine tq 4 rfl (.bool true) hS5 ?_
  try simp only [zq]
  refine zr 5 rfl (fun K hK => ?_)
  rw [if_pos (by rfl)]
  refine wp_store_mid 30 (.tmp 8) (.tmp 23) (by rfl) (w.heap.size+2) 0 ss.toArray (by rfl) (by rfl) (Ag.there_row hR5 _ (by rw [List.size_toArray,HCL.out];decide)) (by rw [List.size_toArray,HCL.out];kernel_rfl) (all_oneCell_toArray HC1.out) ?_
  rw [List.toList_toArray]
  have hfin:=HFIN.out _ h5 hR5 hS5
  generalize World.setCells w5 (w.heap.size+2) 0 ss=w6 at hfin ⊢
  refine hK.out _ _ hfin.2.2 (fun _ => ?_)
  clear hK K
  try simp only [zq]
  refine tq 6 rfl (.bool true) hfin.2.2 ?_
  try simp only [zq]
  refine wpAnyH_done (by kernel_rfl) ?_ _
  try simp only [zq]
  clear h5 hS5 hR5
  have HFI:=zh hfin
  clear hfin
  go_wp2
  refine bodyPost_ret (results_cell_tmp rfl _ _ (w.heap.size+2) _ ss.toArray (0,0) _ rfl HFI.out.1 Tryz.underlying30 rfl (by rw [List.size_toArray,HCL.out];kernel_rfl)) rfl ?_
  exact ⟨rfl,HFI.out.2.1⟩
end
end Fr
end
section
open Go.RowKit Go.Maps
namespace Fr
open Vw (Sess)
attribute [local go_sem] Oper.semAt_some
def allC (ss:List Sess):List Value:=ss.flatMap Sess.cells
theorem allC_len (ss:List Sess):(allC ss).length=ss.length * 12:=by
 induction ss with
 | nil => rfl
 | cons s r ih =>
  have hc:s.cells.length=12:=rfl
  show (s.cells ++ allC r).length=_
  rw [List.length_append,ih,hc,List.length_cons];omega
theorem allC_snoc (ss:List Sess) (s:Sess):allC (ss ++ [s])=allC ss ++ s.cells:=by simp [allC,List.flatMap_append]
theorem allC_cell {ss:List Sess} {k i:Nat} (h:k<ss.length) (hi:i<12):(allC ss)[k * 12+i]? = ss[k].cells[i]?:=by
 induction ss generalizing k with
 | nil => simp at h
 | cons s r ih =>
  unfold allC
  rw [List.flatMap_cons]
  have hc:s.cells.length=12:=rfl
  cases k with
  | zero => rw [List.getElem?_append_left (by omega)];simp
  | succ k =>
   rw [List.getElem?_append_right (by rw [hc];omega),hc,show (k+1) * 12+i-12=k * 12+i by omega]
   exact ih (by simpa using h)
theorem sess_one' (s:Sess):∀ u ∈ s.cells,u.oneCell'=true:=by
 intro u hu
 simp only [Vw.Sess.cells,List.mem_cons,List.not_mem_nil,or_false] at hu
 rcases hu with rfl | rfl | rfl | rfl | rfl | rfl | rfl | rfl | rfl | rfl | rfl | rfl <;> rfl
def SesIn (W:World) (v:Value) (ss:List Sess):Prop :=
 ∃ p cap,v = .slice p ss.length cap/\∀ (j:Nat) (s:Sess),ss[j]? = some s->∃ g o,p=some ⟨g,o,none⟩/\W.rangeAt g (o+j * 12) s.cells
theorem sesIn_own {w:World} {base cap:Nat} {q:Option Addr} {ss:List Sess} (h:w.ownsRow base 30 12 (.slice q ss.length cap) ss.length (allC ss)):SesIn w (.slice q ss.length cap) ss:=by
 refine ⟨q,cap,rfl,fun j s hjs => ?_⟩
 obtain ⟨hj,rfl⟩:=List.getElem?_eq_some_iff.1 hjs
 rcases h.2 with ⟨h1,h2⟩ | ⟨g,c,cur,h1,h2,h3,h4,h5,h6,h7⟩
 ·omega
 ·injection h1 with e1 e2 e3
  subst e1 e3
  refine ⟨g,0,rfl,fun i u hi => ?_⟩
  have hi2:i<12:=(List.getElem?_eq_some_iff.1 hi).1
  rw [Nat.zero_add,World.ownsRow.cellAt (w:=w) h (j * 12+i) (by omega),allC_cell hj hi2]
  exact hi
theorem gathered_s {t:TypeId} {bx D:Nat} {v:Value} {L:List Sess} {w:World} (hb:Boxed w bx t v) (hr:w.ownsRow D 30 12 v L.length (allC L)) :
  ∀ W:World,(∀ b,(b=bx\/v.ownBlock=some b)->b<W.heap.size/\W.heap[b]? = w.heap[b]?)->W.cell? ⟨bx,0,none⟩=some v/\SesIn W v L:=fun W hW => by
 have h2:W.ownsRow D 30 12 v L.length (allC L):=own_stay hr (fun b e => (hW b (.inr e)).2)
 refine ⟨Boxed.cell (t:=t) (show Boxed W bx t v from (hW bx (.inl rfl)).2.trans hb),?_⟩
 obtain ⟨q,r,rfl,-⟩:=own_shape h2
 exact sesIn_own h2
def encZ (s:Sess):Array Value:=#[.agg s.cells.toArray]
theorem values_any (q:Option Addr) (n c:Nat) (w:World):Calls Tryz.prog 62 #[.slice q n c] w fun e w' => e = .returned (.func (.func 127) #[] #[.pointer (some ⟨w.heap.size,0,none⟩)])/\w'=w.alloc (.cells #[.slice q n c] 22):=by
 go_enter Tryz.func62,Tryz.ntmps62
 go_wp2
 go_ret
 exact ⟨rfl,rfl⟩
theorem values_seq (n:Nat) (bx:Nat) (v:Value) (ls:List Sess) (hll:ls.length<=65536) (C:Nat->Prop) (w:World)
  (hC:∀ W,(∀ b,C b->b<W.heap.size/\W.heap[b]? = w.heap[b]?)->W.cell? ⟨bx,0,none⟩=some v/\SesIn W v ls) :
  Fo.SeqF Fence.wide n Tryz.prog 127 #[.pointer (some ⟨bx,0,none⟩)] encZ (fun ys => ys=ls) (fun p => p <+: ls) C w:=by
 intro l J Jx W Fp0 hCW hFp hJ hJx hY h0
 obtain ⟨cv,p,c,rfl,-⟩:=hC W hCW
 have HC:=zh hC
 have HJ:=zh hJ;have HY:=zh hY
 have HK0:Hid (Kept C Fp0 w W):=fun b hb => ⟨fun hf => (hFp b hf).2 hb,hCW b hb⟩
 have H0:=zh h0
 have HCV:Hid (∀ A:World,(∀ b,C b->b<A.heap.size/\A.heap[b]? = w.heap[b]?)->∀ (j:Nat) (s:Sess),ls[j]? = some s->∃ g o,p=some ⟨g,o,none⟩/\A.rangeAt g (o+j * 12) s.cells):=fun A hA j s hjs => by
  obtain ⟨h2,p2,c2,e,hc⟩:=HC.out A hA
  obtain ⟨g,o,k1,k2⟩:=hc j s hjs
  injection e with e1 e2 e3
  exact ⟨g,o,e1.trans k1,k2⟩
 clear hC hJ hJx hY hCW hFp h0
 refine callsIn_of_wp Tryz.func127 rfl trivial ?_ rfl
 simp only [Tryz.ntmps127,List.size_toArray,List.length_cons,List.length_nil,Nat.reduceAdd,Nat.reduceSub,Array.replicate_succ,Array.replicate_zero,List.push_toArray,List.append_toArray,List.nil_append,List.cons_append]
 gi_wp2
 gi_loopw [7] (fun i wr => ∃ (k:Nat) (Fp:Nat->Prop),k<=ls.length/\i = .int .i64 k/\J (ls.take k) Fp wr/\W.heap.size<=wr.heap.size/\Kept C Fp w wr) (fun i _ => ls.length-(intOf i).toNat)
 case atStart => exact ⟨0,Fp0,Nat.zero_le _,rfl,H0.out,Nat.le_refl _,HK0.out⟩
 case round =>
  obtain ⟨k,Fp,hk,rfl,hj,hsz,hkp⟩:=hrel
  have b0:(0:Int)<=(k:Int):=by omega
  by_cases hlt:k<ls.length
  ·have b1:(k:Int)<(ls.length:Int):=by omega
   obtain ⟨s,hs⟩:∃ s,ls[k]? = some s:=⟨_,List.getElem?_eq_getElem hlt⟩
   obtain ⟨ga,oa,rfl,hrg⟩:=HCV.out wr hkp.agree k s hs
   have htk:ls.take (k+1)=ls.take k ++ [s]:=by rw [List.take_add_one,hs];rfl
   obtain ⟨cs,hcs⟩:∃ cs,cs=s.cells:=⟨_,rfl⟩
   have HCL:Hid (cs.length=12):=by show _=_;rw [hcs];rfl
   have HC1:Hid (∀ u ∈ cs,u.oneCell'=true):=by show ∀ _,_;rw [hcs];exact sess_one' s
   obtain ⟨W3,hW3⟩:∃ W3,W3=wr.alloc (.cells cs.toArray 30):=⟨_,rfl⟩
   have hj3:J (ls.take k) Fp W3:=HJ.out _ _ _ _ none hj hsz (by rw [hW3];exact World.grownBy_alloc _ _ none) (fun r e => by cases e)
   have hsz3:W.heap.size<=W3.heap.size:=Nat.le_trans hsz (by rw [hW3];simp)
   have hkp3:Kept C Fp w W3:=fun b hb => by
    obtain ⟨h1,h2,h3⟩:=hkp b hb
    rw [hW3]
    exact ⟨h1,by rw [World.size_alloc];omega,(Below.heap_alloc _ _ _ h2).trans h3⟩
   have HRN:Hid (W3.rangeAt wr.heap.size 0 cs):=by
    show World.rangeAt _ _ _ _
    intro j u hu
    rw [hW3,Nat.zero_add,zc (Ut.alloc_at _ _)]
    simpa using hu
   obtain ⟨fn,tmps,assign,body,hy,hR⟩:=HY.out (ls.take k) s Fp W3 hj3 hsz3 (by
    show _ <+: _
    rw [<- htk];exact List.take_prefix _ _)
   unfold encZ at hy
   rw [<- hcs] at hy hrg
   have HR:=zh hR;have HI:=zh hs;have HLT:=zh hlt;have HKP:=zh hkp3
   have HTK:=zh htk;have HSZ:=zh hsz3;have HRG:=zh hrg;have HW3:=zh hW3
   clear hR hs hlt hj hkp htk hsz hrg hcs hj3 hsz3 hkp3
   rw [hW3] at hy
   clear hW3
   gi_wp2_with (first
    | (refine Ag.wpListIn_load (by rfl) 30 _ (by rfl) _ _ (by rfl) cs _ HRG.out Tryz.underlying30 rfl (by rw [HCL.out];kernel_rfl) ?_)
    | (refine Ag.wpListIn_store_new (by rfl) 30 (.tmp 4) (.tmp 10) (by rfl) cs (by rfl) (by rfl) (by rw [HCL.out];kernel_rfl) (by rw [HCL.out];rfl) HC1.out ?_)
    | (refine Ag.wpListIn_load (by rfl) 30 _ (by rfl) _ _ (by rfl) cs _ (by rw [<- HW3.out];exact HRN.out) Tryz.underlying30 rfl (by rw [HCL.out];kernel_rfl) ?_))
   rw [<- HW3.out]
   refine ⟨fun h => by simp [Fence.wide] at h,HR.out.mono ?_⟩
   rintro e W4 (⟨rfl,Fp',hJ3,ho3,hn3⟩ | ⟨rfl,Fp',hJx3,-,-⟩)
   ·have HU:Hid (J (ls.take (k+1)) Fp' W4):=by show J _ _ _;rw [HTK.out];exact hJ3
    have HS3:Hid (W.heap.size<=W4.heap.size):=Nat.le_trans HSZ.out ho3.size
    have HK3:=zh (HKP.out.yield ho3 hn3)
    clear hJ3 ho3 hn3
    gi_wp2
    go_roundw
    case rel => have:=HLT.out;exact ⟨k+1,Fp',by omega,rfl,HU.out,HS3.out,HK3.out⟩
    case measure => have:=HLT.out;simp [intOf];omega
   ·have HU:Hid (Jx (ls.take (k+1)) Fp' W4):=by show Jx _ _ _;rw [HTK.out];exact hJx3
    clear hJx3
    gi_wp2
    refine bodyPost_ret (results_none rfl _ _ _) rfl ?_
    exact ⟨⟨_,rfl⟩,.inr ⟨_,Fp',List.take_prefix _ _,HU.out⟩⟩
  ·have b1:(ls.length:Int)<=(k:Int):=by omega
   have e:ls.take k=ls:=List.take_of_length_le (by omega)
   rw [e] at hj
   clear hlt
   gi_wp2
   go_end0
   exact ⟨⟨_,rfl⟩,.inl ⟨_,Fp,rfl,hj⟩⟩
end Fr
end
section
open Go.RowKit Go.Maps
namespace Fr
structure GR (t e:TypeId) (size:Nat) (cs:Value->Array Value) (B D:Nat) (w:World) (d:Value) (n:Nat) (xs:List Value) (Fp:Nat->Prop) (A:World):Prop where
 row:A.heap[B]? = some (.cells (cs d) t (0,0))
 r1:A.ownsRow D e size d n xs
 fp:∀ b,Fp b↔b=B\/d.ownBlock=some b
 lt:B<D
 bel:Below B w A
section
variable {t e:TypeId} {size:Nat} {cs:Value->Array Value} {B D n m:Nat} {w A A' w1:World} {d v:Value} {xs ys:List Value} {Fp F:Nat->Prop}
theorem GR.blt (h:GR t e size cs B D w d n xs Fp A):B<A.heap.size:=(zx h.row)
theorem GR.cell (h:GR t e size cs B D w d n xs Fp A) (k:Nat):A.cell? ⟨B,k,none⟩=(cs d)[k]?:=zc h.row
theorem GR.far (h:GR t e size cs B D w d n xs Fp A) {b:Nat} (hb:Fp b):B<=b:=by
 rcases (h.fp b).1 hb with h1 | h1
 ·omega
 ·have:=(h.r1.lt b h1).1;have:=h.lt;omega
theorem GR.turn {row:Option Nat} (h:GR t e size cs B D w d n xs Fp A) (hg:A.grownBy A' row) (hrow:∀ r,row=some r->B<r/\¬ Fp r):GR t e size cs B D w d n xs Fp A' :=
 ⟨(hg.block _ h.blt (fun e2 => by have:=(hrow _ e2.symm).1;omega)).trans h.row,own_stay h.r1 (fun b e2 => hg.block b (h.r1.lt b e2).2 (fun e3 => (hrow b e3.symm).2 ((h.fp b).2 (.inr e2)))),h.fp,h.lt,h.bel.grown hg (Nat.le_of_lt h.blt) (fun k e2 => Nat.le_of_lt (hrow k e2).1)⟩
theorem GR.start (w:World):GR t e size cs w.heap.size (w.heap.size+1) w (.slice none 0 0) 0 [] (fun b => b=w.heap.size) (w.alloc (.cells (cs (.slice none 0 0)) t)) :=
 ⟨World.alloc_heap_new w _,World.ownsRow_nil _ _ _ _,fun b => ⟨.inl,fun h => h.elim id (fun h => by cases h)⟩,Nat.lt_succ_self _,(Below.refl _ _).alloc (Nat.le_refl _) _⟩
theorem GR.other (h:GR t e size cs B D w d n xs Fp A) (ho:Only F A A') (hF:∀ b,F b->B<b/\¬ Fp b):GR t e size cs B D w d n xs Fp A' :=
 ⟨(ho.block _ h.blt (fun hf => by have:=(hF _ hf).1;omega)).trans h.row,own_stay h.r1 (fun b e => ho.block b (h.r1.lt b e).2 (fun hf => (hF b hf).2 ((h.fp b).2 (.inr e)))),h.fp,h.lt,h.bel.trans (ho.below (Nat.le_of_lt h.blt) (fun i hi hf => by have:=(hF i hf).1;omega))⟩
theorem GR.after (h:GR t e size cs B D w d n xs Fp A) (hb:Below A.heap.size A A'):GR t e size cs B D w d n xs Fp A' :=
 h.other (Only.of_below (F:=fun _ => False) hb) (fun _ h => h.elim)
theorem GR.push {o1:Obj} (h:GR t e size cs B D w d n xs Fp A) (j:Nat) (hcs:(cs d).setIfInBounds j v=cs v)
  (hown':w1.ownsRow D e size v m ys) (hgrow:(A.alloc o1).grownBy w1 d.ownBlock) (hat:v.ownBlock=d.ownBlock\/v.ownBlock=some (A.alloc o1).heap.size) :
  w1.heap[B]? = some (.cells (cs d) t (0,0))/\Below B w w1/\∃ Fp',GR t e size cs B D w v m ys Fp' (w1.setCell ⟨B,j,none⟩ v)/\Only Fp A (w1.setCell ⟨B,j,none⟩ v)/\∀ b,Fp' b->Fp b\/A.heap.size<=b:=by
 have hlt:=h.blt
 have hnb:∀ b,d.ownBlock=some b->D<=b:=fun b e => (h.r1.lt b e).1
 have ho:Only Fp A w1:=((Only.refl _ A).alloc o1).grown hgrow (fun k hk e => (h.fp k).2 (.inr e))
 have hb1:w1.heap[B]? = some (.cells (cs d) t (0,0)):=(hgrow.block B (by rw [World.size_alloc];omega) (fun e2 => by have:=hnb _ e2.symm;have:=h.lt;omega)).trans ((Below.heap_alloc _ _ _ hlt).trans h.row)
 have hB:Fp B:=(h.fp B).2 (.inl rfl)
 have ho2:Only Fp A (w1.setCell ⟨B,j,none⟩ v):=ho.setCell (p:=⟨B,j,none⟩) (fun _ => hB) _
 refine ⟨hb1,(h.bel.alloc (Nat.le_of_lt hlt) o1).grown hgrow (by simp;omega) (fun k e2 => by have:=hnb k e2;have:=h.lt;omega),fun b => b=B\/v.ownBlock=some b,⟨?_,own_stay hown' (fun b e2 => Below.heap_setCell _ _ _ _ ?_),fun b => Iff.rfl,h.lt,h.bel.trans (ho2.below (Nat.le_of_lt hlt) (fun i hi hf => by have:=h.far hf;omega))⟩,ho2,?_⟩
 ·rw [heap_setCell_same _ _ _ _ _ _ hb1,hcs]
 ·have:=(hown'.lt b e2).1
  have:=h.lt
  show b≠B
  omega
 ·rintro b (h6 | h6)
  ·exact .inl ((h.fp b).2 (.inl h6))
  ·rcases hat with h7 | h7
   ·exact .inl ((h.fp b).2 (.inr (h7.symm.trans h6)))
   ·have e2:b=(A.alloc o1).heap.size:=Option.some.inj (h6.symm.trans h7)
    exact .inr (by rw [e2];simp)
end
theorem only_normal {c:Code} {K:Act->World->Prop} {Q:Exit->Act->World->Prop} {a:Act} {w:World} (h:c.wp Tryz.prog (Exit.then K fun _ _ _ => False) a w):c.wp Tryz.prog (Exit.then K Q) a w :=
 Code.wp_mono (fun e a w h => by cases e <;> first | exact h | exact h.elim) h
end Fr
end
section
open Go.RowKit Go.Maps Go.Shelf
namespace Fr
open Vw (Sess)
open Ex (Ent wo ExpAt)
attribute [local go_sem] Oper.semAt_some
theorem finfo_sess:(Tryz.prog.info? 30).map (fun i => (i.zero,i.size,i.bytes))=some (some (.agg #[.int .i64 0,.int .i64 0,.int .i64 0,.int .i64 0,.int .i64 0,.string ByteArray.empty,.string ByteArray.empty,.int .u64 0,.int .i64 0,.int .i64 0,.int .i64 0,.int .i64 0]),12,112):=by kernel_rfl
structure GS (t:TypeId) (B D:Nat) (w:World) (d:Value) (ls:List Sess) (Fp:Nat->Prop) (A:World):Prop where
 b1:Boxed A B t d
 r1:A.ownsRow D 30 12 d ls.length (allC ls)
 fp:∀ b,Fp b↔b=B\/d.ownBlock=some b
 lt:B<D
 bel:Below B w A
theorem GS.far {t:TypeId} {B D:Nat} {w A:World} {d:Value} {ls:List Sess} {Fp:Nat->Prop} (h:GS t B D w d ls Fp A) {b:Nat} (hb:Fp b):B<=b:=by
 rcases (h.fp b).1 hb with h1 | h1
 ·omega
 ·have:=(h.r1.lt b h1).1;have:=h.lt;omega
theorem GS.turn {t:TypeId} {B D:Nat} {w A A':World} {d:Value} {ls:List Sess} {Fp:Nat->Prop} {row:Option Nat} (h:GS t B D w d ls Fp A) (hg:A.grownBy A' row) (hrow:∀ r,row=some r->B<r/\¬ Fp r):GS t B D w d ls Fp A' :=
 ⟨h.b1.kept hg (fun e => by have:=(hrow _ e.symm).1;omega),own_stay h.r1 (fun b e => hg.block b (h.r1.lt b e).2 (fun e2 => (hrow b e2.symm).2 ((h.fp b).2 (.inr e)))),h.fp,h.lt,h.bel.grown hg (Nat.le_of_lt h.b1.lt) (fun k e => Nat.le_of_lt (hrow k e).1)⟩
theorem GS.start {t:TypeId} (w:World):GS t w.heap.size (w.heap.size+1) w (.slice none 0 0) [] (fun b => b=w.heap.size) (w.alloc (.cells #[.slice none 0 0] t)) :=
 ⟨Boxed.new w t _,World.ownsRow_nil _ _ _ _,fun b => ⟨.inl,fun h => h.elim id (fun h => by cases h)⟩,Nat.lt_succ_self _,(Below.refl _ _).alloc (Nat.le_refl _) _⟩
theorem GS.push {t:TypeId} {B D:Nat} {w A w1:World} {d v:Value} {ls:List Sess} {x:Sess} {Fp:Nat->Prop} {o1:Obj} (h:GS t B D w d ls Fp A)
  (hown':w1.ownsRow D 30 12 v (ls.length+1) (allC ls ++ x.cells)) (hgrow:(A.alloc o1).grownBy w1 d.ownBlock) (hat:v.ownBlock=d.ownBlock\/v.ownBlock=some (A.alloc o1).heap.size) :
  Boxed w1 B t d/\Below B w w1/\∃ Fp',GS t B D w v (ls ++ [x]) Fp' (w1.setCell ⟨B,0,none⟩ v)/\Only Fp A (w1.setCell ⟨B,0,none⟩ v)/\∀ b,Fp' b->Fp b\/A.heap.size<=b:=by
 obtain ⟨h1,h2,h3,h4,h5⟩:=push_in_box h.b1 h.lt h.r1 hown' hgrow hat
 have ho:Only Fp A (w1.setCell ⟨B,0,none⟩ v):=h4.mono (fun i _ hi => (h.fp i).2 hi)
 refine ⟨h1,(h.bel.alloc (Nat.le_of_lt h.b1.lt) o1).grown hgrow (by have:=h.b1.lt;simp;omega) (fun k e => by have:=(h.r1.lt k e).1;have:=h.lt;omega),fun b => b=B\/v.ownBlock=some b,⟨h2,?_,fun b => Iff.rfl,h.lt,h.bel.trans (ho.below (Nat.le_of_lt h.b1.lt) (fun i hi hf => by have:=h.far hf;omega))⟩,ho,?_⟩
 ·rw [List.length_append,allC_snoc];exact h3
 ·rintro b (h6 | h6)
  ·exact .inl ((h.fp b).2 (.inl h6))
  ·exact (h5 b h6).imp (fun h7 => (h.fp b).2 (.inr h7)) id
theorem GS.other {t:TypeId} {B D:Nat} {w A A':World} {d:Value} {ls:List Sess} {Fp F:Nat->Prop} (h:GS t B D w d ls Fp A) (ho:Only F A A') (hF:∀ b,F b->B<b/\¬ Fp b):GS t B D w d ls Fp A' :=
 ⟨(ho.block _ h.b1.lt (fun hf => by have:=(hF _ hf).1;omega)).trans h.b1,own_stay h.r1 (fun b e => ho.block b (h.r1.lt b e).2 (fun hf => (hF b hf).2 ((h.fp b).2 (.inr e)))),h.fp,h.lt,h.bel.trans (ho.below (Nat.le_of_lt h.b1.lt) (fun i hi hf => by have:=(hF i hf).1;omega))⟩
theorem GS.after {t:TypeId} {B D:Nat} {w A A':World} {d:Value} {ls:List Sess} {Fp:Nat->Prop} (h:GS t B D w d ls Fp A) (hb:Below A.heap.size A A'):GS t B D w d ls Fp A' :=
 h.other (Only.of_below (F:=fun _ => False) hb) (fun _ h => h.elim)
def FUndPost (L:List Sess) (w:World) (e:Ending) (w':World):Prop:=(∃ bx v,e = .returned (.func (.func 127) #[] #[.pointer (some ⟨bx,0,none⟩)])/\w.heap.size<=bx/\Boxed w' bx 22 v/\w'.ownsRow w.heap.size 30 12 v L.length (allC L))/\Below w.heap.size w w'
section
variable {lo:Nat} {P:Pa} {st st1 st2:FS} {nw c d:Nat} {Fe:Nat->Prop} {w w' w'':World}
theorem und_end {B:Nat} {t:TypeId} {W:World} {v:Value} {L:List Sess} {w A:World} {Fp:Nat->Prop} (h:GS t B (B+1) W v L Fp A) (hw:w.heap.size<=B) (hb:Below w.heap.size w W) (o:Obj) (t2:TypeId) (ho:o = .cells #[v] t2) :
  Boxed (A.alloc o) A.heap.size t2 v/\(A.alloc o).ownsRow w.heap.size 30 12 v L.length (allC L)/\Below w.heap.size w (A.alloc o)/\w.heap.size<=A.heap.size:=by
 have h1:w.heap.size<=A.heap.size:=by have:=h.b1.lt;omega
 subst ho
 exact ⟨Boxed.new _ _ _,own_down (own_stay h.r1 (fun b e => Below.heap_alloc _ _ _ (h.r1.lt b e).2)) (by omega),(hb.trans (h.bel.mono hw)).alloc h1 _,h1⟩
theorem funder_no (h:ForAt lo P st nw Fe w) (us ub:Int) (hl:lives st.S us ub=false) :
  Calls Tryz.prog 20 #[.pointer (some ⟨P.f,0,none⟩),.agg #[.int .i64 us,.int .i64 ub]] w (FUndPost (underF st us ub) w):=by
 have hund:underF st us ub=[]:=by unfold underF;rw [hl];rfl
 rw [hund]
 obtain ⟨W2,hW2⟩:∃ W2,W2=(w.alloc (.cells #[.pointer (some ⟨P.f,0,none⟩)] 35)).alloc (.cells #[.int .i64 us,.int .i64 ub] 26):=⟨_,rfl⟩
 have hs2:W2.heap.size=w.heap.size+2:=by rw [hW2,World.size_alloc,World.size_alloc]
 have hb2:Below w.heap.size w W2:=by rw [hW2];exact ((Below.refl _ _).alloc (Nat.le_refl _) _).alloc (by simp) _
 have hx0:Boxed W2 w.heap.size 35 (.pointer (some ⟨P.f,0,none⟩)):=by rw [hW2];exact (Boxed.new _ _ _).alloc _
 have hx1:W2.heap[w.heap.size+1]? = some (.cells #[.int .i64 us,.int .i64 ub] 26 (0,0)):=by
  have:=World.alloc_heap_new (w.alloc (.cells #[.pointer (some ⟨P.f,0,none⟩)] 35)) (.cells #[.int .i64 us,.int .i64 ub] 26)
  rw [World.size_alloc] at this
  rw [hW2];exact this
 obtain ⟨W3,hW3⟩:∃ W3,W3=W2.alloc (.cells #[.slice none 0 0] 22):=⟨_,rfl⟩
 have hu3:GS 22 (w.heap.size+2) (w.heap.size+3) W2 (.slice none 0 0) [] (fun b => b=w.heap.size+2) W3:=by
  have:=GS.start (t:=22) W2
  rw [hs2] at this
  rw [hW3];exact this
 have hs3:W3.heap.size=w.heap.size+3:=by rw [hW3,World.size_alloc,hs2]
 have hb23:Below W2.heap.size W2 W3:=by rw [hW3];exact (Below.refl _ _).alloc (Nat.le_refl _) _
 have hb3:Below w.heap.size w W3:=hb2.trans (hb23.mono (by omega))
 have HSES:=zh (fsession (h.below hb3) us ub)
 have HSK:Hid (∀ W',Below W3.heap.size W3 W'->W'.cell? ⟨w.heap.size,0,none⟩=some (.pointer (some ⟨P.f,0,none⟩))/\W'.cell? ⟨P.f,3,none⟩=some (.pointer (some ⟨P.t,0,none⟩))/\W'.cell? ⟨w.heap.size+1,0,none⟩=some (.int .i64 us)):=fun W' hb => by
  have hb4:Below W2.heap.size W2 W':=hb23.trans (hb.mono hb23.size)
  exact ⟨Boxed.cell (t:=35) ((hb4.block _ hx0.lt).trans hx0),(h.below (hb3.trans (hb.mono hb3.size))).ptrs.2.1,by rw [zc ((hb4.block _ (zx hx1)).trans hx1)];rfl⟩
 have HW3:Hid (W3=((w.alloc (.cells #[.pointer (some ⟨P.f,0,none⟩)] 35)).alloc (.cells #[.int .i64 us,.int .i64 ub] 26)).alloc (.cells #[.slice none 0 0] 22)):=by show _=_;rw [hW3,hW2]
 have HU3:=zh hu3;have HS2:=zh hs2;have HS3:=zh hs3;have HB2:=zh hb2;have HB3:=zh hb3
 obtain ⟨cs,hcs⟩:∃ cs,cs=(sessionF st us ub).1.cells:=⟨_,rfl⟩
 have HCL:Hid (cs.length=12):=by show _=_;rw [hcs];rfl
 have HC1:Hid (∀ u ∈ cs,u.oneCell'=true):=by show ∀ _,_;rw [hcs];exact sess_one' _
 obtain ⟨no,hno⟩:∃ no,no=(sessionF st us ub).2:=⟨_,rfl⟩
 rw [<- hcs,<- hno] at HSES
 have hev:erV no = .iface 101 (.int .i64 16):=by
  rw [hno];unfold sessionF;rw [hl];rfl
 rw [hev] at HSES
 clear h hl hund hW2 hs2 hb2 hx0 hx1 hW3 hu3 hs3 hb23 hb3 hcs hno hev
 go_enter Tryz.func20,Tryz.ntmps20
 go_wp2_with fail
 rw [<- HW3.out]
 refine HSES.out.mono ?_
 rintro e w4 ⟨rfl,hb4⟩
 obtain ⟨W5,hW5⟩:∃ W5,W5=w4.alloc (.cells cs.toArray 30):=⟨_,rfl⟩
 have hb5:Below W3.heap.size W3 W5:=by rw [hW5];exact hb4.alloc hb4.size _
 have hu5:=HU3.out.after hb5
 have c5:=hu5.b1.cell
 have HU5:=zh hu5;have HW5:=zh hW5
 clear hb4 hb5 hu5 hW5
 go_upto_region 3 with (first
  | (refine Ag.wpList_store_new (by rfl) 30 (.tmp 6) (.tmp 15) (by rfl) cs (by rfl) (by rfl) (by rw [HCL.out];kernel_rfl) (by rw [HCL.out];rfl) HC1.out ?_))
 rw [<- HW5.out]
 have HV:=zh (values_any none 0 0 W5)
 go_wp2_with fail
 refine HV.out.mono ?_
 rintro e w6 ⟨rfl,h6⟩
 obtain ⟨k1,k2,k3,k4⟩:=und_end HU5.out (by omega) HB2.out _ 22 rfl
 rw [<- h6] at k1 k2 k3
 have HK:=zh (And.intro k1 (And.intro k2 (And.intro k3 k4)))
 clear h6 k1 k2 k3 k4
 go_wp2
 go_ret
 exact ⟨⟨_,_,rfl,HK.out.2.2.2,HK.out.1,HK.out.2.1⟩,HK.out.2.2.1⟩
end
end Fr
end
end Go.Proofs.YtimhglmfckfclaaGreatDoor
