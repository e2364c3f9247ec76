/- Parts of the proof. -/
import Derived.Test.YtimhglmfckfclaaGreatM10
import Derived.Deep.CutRange
import Derived.Sort.LoopGhostIn
import Derived.Maps.OwnIn
set_option linter.unusedVariables false
set_option linter.unusedSimpArgs false
set_option maxRecDepth 100000
set_option maxHeartbeats 16000000
namespace Go.Proofs.YtimhglmfckfclaaGreat
section
open Go.RowKit
namespace Fr
open Vw (Sess)
def FrL (nx:List Int):Int->List Int->Prop
 | fi,[] => fi = -1
 | fi,i :: r => fi=i/\thr i=true/\FrL nx (nx.getD i.toNat 0) r
structure ArAt (a:Nat) (S:List Slt) (fr:List Int) (nw:Nat) (w:World):Prop where
 ex:∃ nx fi,ArW a S nx fi nw w/\FrL nx fi fr/\∀ i,thr i=true->i ∉ fr->nx.getD i.toNat 0 = -2
 nd:fr.Nodup
theorem FrL.thr {nx:List Int}:∀ {fr:List Int} {fi:Int},FrL nx fi fr->∀ i ∈ fr,Fr.thr i=true
 | [],_,_,i,hi => by cases hi
 | j :: r,fi,h,i,hi => by
  rcases List.mem_cons.1 hi with rfl | hi
  ·exact h.2.1
  ·exact FrL.thr h.2.2 i hi
theorem getD_set (nx:List Int) (i j:Nat) (v:Int) (hi:i<nx.length):(nx.set i v).getD j 0=if i=j then v else nx.getD j 0:=by
 rw [List.getD_eq_getElem?_getD,List.getD_eq_getElem?_getD,List.getElem?_set]
 by_cases e:i=j
 ·subst e;simp [hi]
 ·rw [if_neg e,if_neg e]
theorem FrL.set {nx:List Int} {k:Nat} (hk:k<nx.length) (v:Int):∀ {fr:List Int} {fi:Int},FrL nx fi fr->(k:Int) ∉ fr->FrL (nx.set k v) fi fr
 | [],_,h,_ => h
 | i :: r,fi,h,hn => by
  refine ⟨h.1,h.2.1,?_⟩
  have h0:=thr_iff.1 h.2.1
  rw [getD_set nx k i.toNat v hk,if_neg (fun e => hn (by simp;left;omega))]
  exact FrL.set hk v h.2.2 (fun e => hn (List.mem_cons_of_mem _ e))
section
variable {a:Nat} {S:List Slt} {fr:List Int} {nw:Nat} {w:World}
theorem ArAt.below {w':World} (h:ArAt a S fr nw w) (hb:Below w.heap.size w w'):ArAt a S fr nw w':=by
 obtain ⟨⟨nx,fi,h1,h2,h3⟩,h4⟩:=h
 exact ⟨⟨nx,fi,h1.below hb,h2,h3⟩,h4⟩
theorem ArAt.keep {w':World} (h:ArAt a S fr nw w) (e:w'.heap[a]? = w.heap[a]?):ArAt a S fr nw w':=by
 obtain ⟨⟨nx,fi,h1,h2,h3⟩,h4⟩:=h
 exact ⟨⟨nx,fi,h1.keep e,h2,h3⟩,h4⟩
theorem ArAt.lt (h:ArAt a S fr nw w):a<w.heap.size:=by obtain ⟨⟨nx,fi,h1,h2,h3⟩,h4⟩:=h;exact h1.lt
theorem free_ok (h:ArAt a S fr nw w) (hw:nw+1<=4611686018427387904) (i:Int) (hi:thr i=true) (hn:i ∉ fr) :
  Calls Tryz.prog 103 #[.pointer (some ⟨a,0,none⟩),.int .i64 i] w fun e w' => e = .returned .nilIface/\ArAt a (put S i bare) (i :: fr) (nw+1) w'/\Only (fun b => b=a) w w':=by
 obtain ⟨⟨nx,fi,hA,hF,hT⟩,hd⟩:=h
 obtain ⟨h0,h1⟩:=thr_iff.1 hi
 have hv:=hT i hi hn
 obtain ⟨k,rfl⟩:=Int.eq_ofNat_of_zero_le h0
 have hk:k<32:=by omega
 rw [Int.toNat_natCast] at hv
 have c5:=hA.next hk
 rw [hv] at c5
 obtain ⟨cs,hcs⟩:∃ cs,cs=bare.cells:=⟨_,rfl⟩
 have HCL:Hid (cs.length=17):=by show _=_;rw [hcs];rfl
 have HC1:Hid (∀ u ∈ cs,u.oneCell'=true):=by show ∀ _,_;rw [hcs];exact bare.one
 have HTY:=zh (fun w => there_yes (k:Int) hi w)
 have HB:=zh (bare_any w.drew)
 rw [<- hcs] at HB
 obtain ⟨W,hW⟩:∃ W,W=w.drew.alloc (.cells cs.toArray 61):=⟨_,rfl⟩
 have hb:Below w.heap.size w W:=by rw [hW];exact ((Below.refl _ _).drew).alloc (Nat.le_refl _) _
 have hA1:=hA.below hb
 have HTH:Hid (W.there a (k * 17) cs.toArray.size):=by
  show W.there _ _ _
  rw [List.size_toArray,HCL.out];exact hA1.there hk
 have hA2:ArW a (put S (k:Int) bare) nx fi nw (W.setCells a (k * 17) cs):=by rw [hcs];exact hA1.put hk bare
 have hO2:Only (fun b => b=a) w (W.setCells a (k * 17) cs):=by
  have:∀ (vs:List Value) (o:Nat) (w1:World),Only (fun b => b=a) w w1->Only (fun b => b=a) w (w1.setCells a o vs):=by
   intro vs
   induction vs with
   | nil => intro o w1 h;exact h
   | cons v r ih => intro o w1 h;rw [World.setCells];exact ih _ _ (h.setCell (p:=⟨a,o,none⟩) (fun _ => rfl) v)
  exact this _ _ _ (Only.of_below hb)
 obtain ⟨W2,hW2⟩:∃ W2,W2=W.setCells a (k * 17) cs:=⟨_,rfl⟩
 rw [<- hW2] at hA2 hO2
 have c1:W2.cell? ⟨a,576,none⟩=some (.int .i64 fi):=hA2.first
 have c2:W2.cell? ⟨a,544+k,none⟩=some (.int .i64 (nx.getD k 0)):=hA2.next hk
 have f1:=hA2.free 576
 have f2:=hA2.free (544+k)
 have hA4:=(hA2.setF (k:Int)).setN hk fi
 obtain ⟨W4,hW4⟩:∃ W4,W4=(W2.setCell ⟨a,576,none⟩ (.int .i64 (k:Int))).setCell ⟨a,544+k,none⟩ (.int .i64 fi):=⟨_,rfl⟩
 have hO4:Only (fun b => b=a) w W4:=by rw [hW4];exact (hO2.setCell (p:=⟨a,576,none⟩) (fun _ => rfl) _).setCell (p:=⟨a,544+k,none⟩) (fun _ => rfl) _
 rw [<- hW4] at hA4
 have c3:W2.cell? ⟨a,577,none⟩=some (.int .i64 (nw:Int)):=hA2.writes
 have f3:W2.frozen? ⟨a,577,none⟩=false:=hA2.free 577
 have e1:((nw:Int)+1)=((nw+1:Nat):Int):=by omega
 have HR:Hid (∀ V:World,V.heap=(W4.setCell ⟨a,577,none⟩ (.int .i64 ((nw:Int)+1))).heap->V.os=w.os->V.tape=w.tape->V.output=w.output->ArAt a (put S (k:Int) bare) ((k:Int) :: fr) (nw+1) V/\Only (fun b => b=a) w V):=fun V hV v1 v2 v3 => by
  have hA5:ArW a (put S (k:Int) bare) (nx.set k fi) (k:Int) (nw+1) (W4.setCell ⟨a,577,none⟩ (.int .i64 ((nw:Int)+1))):=by rw [e1];exact hA4.setW (nw+1)
  have hO5:=hO4.setCell (p:=⟨a,577,none⟩) (fun _ => rfl) (.int .i64 ((nw:Int)+1))
  have hl:k<nx.length:=by rw [hA.ln];exact hk
  refine ⟨⟨⟨_,_,⟨by rw [hV];exact hA5.row,hA5.ls,hA5.ln⟩,⟨rfl,hi,?_⟩,fun j hj hjn => ?_⟩,List.nodup_cons.2 ⟨hn,hd⟩⟩,⟨v1,v2,v3,by rw [hV];exact hO5.size,fun b hb h => by rw [hV];exact hO5.block b hb h⟩⟩
  ·rw [Int.toNat_natCast,getD_set nx k k fi hl,if_pos rfl]
   exact hF.set hl fi hn
  ·have hj0:=thr_iff.1 hj
   rw [getD_set nx k j.toNat fi hl,if_neg (fun e => hjn (by simp;left;omega))]
   exact hT j hj (fun e => hjn (List.mem_cons_of_mem _ e))
 have HW2:=zh hW2;have HW4:=zh hW4;have HWW:=zh hW
 have n1:(0:Int)<=(nw:Int):=by omega
 have n2:(nw:Int)<=4611686018427387903:=by omega
 have HOS:Hid (W2.os=w.os/\W2.tape=w.tape/\W2.output=w.output):=⟨hO2.os,hO2.tape,hO2.output⟩
 clear hcs hb hA hA1 hA2 hA4 hO2 hO4 hF hT hd hn hi h0 e1 hW2 hW4 hW hv hw
 go_enter Tryz.func103,Tryz.ntmps103
 go_wp2_with (go_at_call 68;(with_reducible refine (HTY.out _).mono ?_);rintro e w' ⟨rfl,rfl⟩)
 refine wp_region_held_drew (S:=fun _ => True) (by kernel_rfl) trivial (fun _ => ?_)
 refine tk 0 rfl (.pointer (some ⟨a,0,none⟩)) (fun w _ => by go_simp) trivial ?_
 try simp only [zq]
 refine tk 1 rfl (.int .i64 (k:Int)) (fun w _ => by go_simp) trivial ?_
 try simp only [zq]
 refine tk 3 rfl (.pointer (some ⟨a,0,none⟩)) (fun w _ => by go_simp) trivial ?_
 try simp only [zq]
 refine tk 4 rfl (.pointer (some ⟨a,0,none⟩)) (fun w _ => by go_simp) trivial ?_
 try simp only [zq]
 refine zr 2 rfl (fun K hK => ?_)
 go_simp
 refine HB.out.mono ?_
 rintro e w3 ⟨rfl,hw3⟩
 rw [hw3]
 clear hw3 HB
 rw [<- HWW.out]
 refine hK.out _ _ trivial (fun _ => ?_)
 clear hK K
 try simp only [zq]
 refine tk 5 rfl (.pointer (some ⟨a,k * 17,none⟩)) (fun w _ => by go_simp) trivial ?_
 try simp only [zq]
 refine zr 6 rfl (fun K hK => ?_)
 rw [if_pos (by rfl)]
 refine wp_store_mid 61 (.tmp 24) (.tmp 21) (by rfl) a (k * 17) cs.toArray (by rfl) (by rfl) HTH.out (by rw [List.size_toArray,HCL.out];kernel_rfl) (all_oneCell_toArray HC1.out) ?_
 rw [List.toList_toArray,<- HW2.out]
 refine hK.out _ _ trivial (fun _ => ?_)
 clear hK K
 refine wpAnyH_done (by kernel_rfl) ?_ _
 try simp only [zq]
 go_wp2_with fail
 go_region
 go_wp2_with fail
 go_ret
 exact ⟨rfl,HR.out _ (by rw [HW4.out];rfl) HOS.out.1 HOS.out.2.1 HOS.out.2.2⟩
end
end Fr
end
section
open Go.RowKit
namespace Fr
open Vw (Sess)
theorem rthere_yes (i:Int) (h:thr i=true) (w:World):Calls Tryz.prog 119 #[.int .i64 i] w fun e w' => e = .returned (.bool true)/\w=w':=by
 obtain ⟨h0,h1⟩:=thr_iff.1 h
 clear h
 go_enter Tryz.func119,Tryz.ntmps119
 go_wp2
 go_ret
 exact ⟨rfl,rfl⟩
theorem rthere_no (i:Int) (h:thr i=false) (w:World):Calls Tryz.prog 119 #[.int .i64 i] w fun e w' => e = .returned (.bool false)/\w=w':=by
 have h2:=thr_no.1 h
 clear h
 by_cases h0:0<=i
 ·have h1:32<=i:=by omega
  clear h2
  go_enter Tryz.func119,Tryz.ntmps119
  go_wp2
  go_ret
  exact ⟨by simp;omega,rfl⟩
 ·have h1:i<0:=by omega
  clear h2 h0
  go_enter Tryz.func119,Tryz.ntmps119
  go_wp2
  go_ret
  exact ⟨by simp,rfl⟩
theorem lk_prev (p n:Int) (w:World):(Instr.field 200 (.agg #[.int .i64 p,.int .i64 n]) 0).run Tryz.prog w = .ok (.int .i64 p) w:=by kernel_rfl
theorem lk_next (p n:Int) (w:World):(Instr.field 200 (.agg #[.int .i64 p,.int .i64 n]) 1).run Tryz.prog w = .ok (.int .i64 n) w:=by kernel_rfl
section
variable {a:Nat} {S:List Slt} {nx:List Int} {fi:Int} {wr:Nat}
theorem of_ok {w:World} (h:ArW a S nx fi wr w) (i:Int) (hi:thr i=true) :
  Calls Tryz.prog 121 #[.pointer (some ⟨a,0,none⟩),.int .i64 i] w fun e w' => e = .returned (.agg #[.int .i64 (sl S i).prev,.int .i64 (sl S i).next])/\Below w.heap.size w w':=by
 obtain ⟨x,hx⟩:∃ x,x=sl S i:=⟨_,rfl⟩
 obtain ⟨cs,hcs⟩:∃ cs,cs=x.cells:=⟨_,rfl⟩
 obtain ⟨W,hW⟩:∃ W,W=w.alloc (.cells #[.int .i64 0,.int .i64 0] 200):=⟨_,rfl⟩
 have hb:Below w.heap.size w W:=by rw [hW];exact (Below.refl _ _).alloc (Nat.le_refl _) _
 have hsz:w.heap.size<W.heap.size:=by rw [hW];simp
 have hg:=get_ok (h.below hb) i hi
 rw [<- hx,<- hcs] at hg
 have HG:=zh hg
 have HB:=zh hb
 have c0:∀ v,(W.alloc v).cell? ⟨w.heap.size,0,none⟩=some (.int .i64 0)/\(W.alloc v).cell? ⟨w.heap.size,1,none⟩=some (.int .i64 0):=fun v => by rw [hW];simp
 have HR0:Hid (W.heap[w.heap.size]? = some (.cells #[.int .i64 0,.int .i64 0] 200 (0,0))):=by show _=_;rw [hW];exact Ut.alloc_at _ _
 have HCL:Hid (cs.length=17):=by show _=_;rw [hcs];rfl
 have HC1:Hid (∀ u ∈ cs,u.oneCell'=true):=by show ∀ _,_;rw [hcs];exact x.one
 have HCS:=zh hcs
 rw [<- hx]
 have hlt:=hsz
 clear hx hcs hb hg h hi c0
 go_enter Tryz.func121,Tryz.ntmps121
 go_wp2_with fail
 rw [<- hW]
 clear hW
 refine HG.out.mono ?_
 rintro e w1 ⟨rfl,hb1⟩
 have r0:w1.heap[w.heap.size]? = some (.cells #[.int .i64 0,.int .i64 0] 200 (0,0)):=(hb1.block _ hlt).trans HR0.out
 have hne:w.heap.size≠w1.heap.size:=by have:=hb1.size;omega
 have r1:(w1.alloc (.cells cs.toArray 61)).heap[w.heap.size]? = some (.cells #[.int .i64 0,.int .i64 0] 200 (0,0)):=(Below.heap_alloc _ _ _ (by have:=hb1.size;omega)).trans r0
 have r2:(w1.alloc (.cells cs.toArray 61)).heap[w1.heap.size]? = some (.cells cs.toArray 61 (0,0)):=Ut.alloc_at _ _
 have d3:(w1.alloc (.cells cs.toArray 61)).cell? ⟨w1.heap.size,3,none⟩=some (.int .i64 x.prev):=by rw [zc r2,HCS.out];rfl
 have d4:(w1.alloc (.cells cs.toArray 61)).cell? ⟨w1.heap.size,4,none⟩=some (.int .i64 x.next):=by rw [zc r2,HCS.out];rfl
 obtain ⟨W2,hW2⟩:∃ W2,W2=w1.alloc (.cells cs.toArray 61):=⟨_,rfl⟩
 have hb2:Below w.heap.size w W2:=by rw [hW2];exact (HB.out.trans (hb1.mono HB.out.size)).alloc (by have:=hb1.size;omega) _
 rw [<- hW2] at r1 r2 d3 d4
 have HW2:=zh hW2
 have HB2:=zh hb2
 have e0:W2.cell? ⟨w.heap.size,0,none⟩=some (.int .i64 0):=zl r1 rfl
 have e1:W2.cell? ⟨w.heap.size,1,none⟩=some (.int .i64 0):=zl r1 rfl
 have f0:W2.frozen? ⟨w.heap.size,0,none⟩=false:=by unfold World.frozen?;rw [r1];rfl
 have f1:W2.frozen? ⟨w.heap.size,1,none⟩=false:=by unfold World.frozen?;rw [r1];rfl
 have HE:Hid (((W2.setCell ⟨w.heap.size,0,none⟩ (.int .i64 x.prev)).setCell ⟨w.heap.size,1,none⟩ (.int .i64 x.next)).heap[w.heap.size]? = some (.cells #[.int .i64 x.prev,.int .i64 x.next] 200 (0,0))):=by
  show _=_
  rw [heap_setCell_same _ _ _ _ _ _ (heap_setCell_same _ _ _ _ _ _ r1)];rfl
 have HBE:Hid (Below w.heap.size w ((W2.setCell ⟨w.heap.size,0,none⟩ (.int .i64 x.prev)).setCell ⟨w.heap.size,1,none⟩ (.int .i64 x.next))):=(HB2.out.setCell (p:=⟨w.heap.size,0,none⟩) (Nat.le_refl _) _).setCell (p:=⟨w.heap.size,1,none⟩) (Nat.le_refl _) _
 clear hb1 r0 hne r1 r2 hW2 hb2
 go_upto_region 4 with (first
  | (refine Ag.wpList_store_new (by rfl) 61 (.tmp 5) (.tmp 11) (by rfl) cs (by rfl) (by rfl) (by rw [HCL.out];kernel_rfl) (by rw [HCL.out];rfl) HC1.out ?_))
 rw [<- HW2.out]
 go_wp2
 refine bodyPost_ret (results_cell_row rfl _ _ w.heap.size _ #[.int .i64 x.prev,.int .i64 x.next] (0,0) _ rfl HE.out Tryz.underlying200 rfl (by kernel_rfl)) rfl ?_
 exact ⟨rfl,HBE.out⟩
theorem set_ok {w:World} (h:ArW a S nx fi wr w) (hw:wr+1<=4611686018427387904) (i p n:Int) (hi:thr i=true) :
  Calls Tryz.prog 143 #[.pointer (some ⟨a,0,none⟩),.int .i64 i,.agg #[.int .i64 p,.int .i64 n]] w fun e w' => e = .returned (.tuple #[])/\(∃ wr',wr<=wr'/\wr'<=wr+1/\ArW a (setS S i p n) nx fi wr' w')/\Only (fun b => b=a) w w':=by
 obtain ⟨x,hx⟩:∃ x,x=sl S i:=⟨_,rfl⟩
 obtain ⟨cs,hcs⟩:∃ cs,cs=x.cells:=⟨_,rfl⟩
 obtain ⟨W,hW⟩:∃ W,W=w.alloc (.cells #[.int .i64 p,.int .i64 n] 200):=⟨_,rfl⟩
 have hb:Below w.heap.size w W:=by rw [hW];exact (Below.refl _ _).alloc (Nat.le_refl _) _
 have hsz:w.heap.size<W.heap.size:=by rw [hW];simp
 have hg:=get_ok (h.below hb) i hi
 rw [<- hx,<- hcs] at hg
 have HG:=zh hg
 have HB:=zh hb
 have HA:=zh h
 have HR0:Hid (W.heap[w.heap.size]? = some (.cells #[.int .i64 p,.int .i64 n] 200 (0,0))):=by show _=_;rw [hW];exact Ut.alloc_at _ _
 have HCL:Hid (cs.length=17):=by show _=_;rw [hcs];rfl
 have HC1:Hid (∀ u ∈ cs,u.oneCell'=true):=by show ∀ _,_;rw [hcs];exact x.one
 have HCS:=zh hcs
 have HX:=zh hx
 have HI:=zh hi;have HWR:=zh hw
 have hlt:=hsz
 clear hx hcs hb hg h hi hw
 go_enter Tryz.func143,Tryz.ntmps143
 go_wp2_with fail
 rw [<- hW]
 clear hW
 refine HG.out.mono ?_
 rintro e w1 ⟨rfl,hb1⟩
 have r0:w1.heap[w.heap.size]? = some (.cells #[.int .i64 p,.int .i64 n] 200 (0,0)):=(hb1.block _ hlt).trans HR0.out
 have r1:(w1.alloc (.cells cs.toArray 61)).heap[w.heap.size]? = some (.cells #[.int .i64 p,.int .i64 n] 200 (0,0)):=(Below.heap_alloc _ _ _ (by have:=hb1.size;omega)).trans r0
 have r2:(w1.alloc (.cells cs.toArray 61)).heap[w1.heap.size]? = some (.cells cs.toArray 61 (0,0)):=Ut.alloc_at _ _
 obtain ⟨N,hN⟩:∃ N,N=w1.heap.size:=⟨_,rfl⟩
 have hNw:w.heap.size<N:=by have:=hb1.size;omega
 obtain ⟨W2,hW2⟩:∃ W2,W2=w1.alloc (.cells cs.toArray 61):=⟨_,rfl⟩
 have hb2:Below w.heap.size w W2:=by rw [hW2];exact (HB.out.trans (hb1.mono HB.out.size)).alloc (by have:=hb1.size;omega) _
 rw [<- hW2] at r1 r2
 rw [<- hN] at r2
 have hA2:=HA.out.below hb2
 have HW2:=zh hW2
 have HB2:=zh hb2
 have HA2:=zh hA2
 have HN:=zh hN
 have d3:W2.cell? ⟨N,3,none⟩=some (.int .i64 x.prev):=by rw [zc r2,HCS.out];rfl
 have d4:W2.cell? ⟨N,4,none⟩=some (.int .i64 x.next):=by rw [zc r2,HCS.out];rfl
 have e0:W2.cell? ⟨w.heap.size,0,none⟩=some (.int .i64 p):=zl r1 rfl
 have e1:W2.cell? ⟨w.heap.size,1,none⟩=some (.int .i64 n):=zl r1 rfl
 have R2:=zh r2
 clear hb1 r0 r1 r2 hb2 hA2 hW2 hN
 go_upto_region 2 with (first
  | (refine Ag.wpList_store_new (by rfl) 61 (.tmp 6) (.tmp 12) (by rfl) cs (by rfl) (by rfl) (by rw [HCL.out];kernel_rfl) (by rw [HCL.out];rfl) HC1.out ?_))
 rw [<- HW2.out,<- HN.out]
 by_cases hc:x.prev=p/\x.next=n
 ·obtain ⟨hp,hn⟩:=hc
  have HR:Hid (setS S i p n=S):=setS_same S HA.out.ls i HI.out (by rw [<- HX.out];exact hp) (by rw [<- HX.out];exact hn)
  subst hp hn
  go_wp2
  go_end0
  exact ⟨rfl,⟨wr,Nat.le_refl _,by omega,by rw [HR.out];exact HA2.out⟩,Only.of_below HB2.out⟩
 ·have f3:W2.frozen? ⟨N,3,none⟩=false:=by unfold World.frozen?;rw [R2.out];rfl
  have f4:W2.frozen? ⟨N,4,none⟩=false:=by unfold World.frozen?;rw [R2.out];rfl
  obtain ⟨y,hy⟩:∃ y:Slt,y={ x with prev:=p,next:=n }:=⟨_,rfl⟩
  obtain ⟨ds,hds⟩:∃ ds,ds=y.cells:=⟨_,rfl⟩
  have r3:(((W2.setCell ⟨N,3,none⟩ (.int .i64 p)).setCell ⟨N,4,none⟩ (.int .i64 n)).drew).heap[N]? = some (.cells ds.toArray 61 (0,0)):=by
   show ((W2.setCell ⟨N,3,none⟩ (.int .i64 p)).setCell ⟨N,4,none⟩ (.int .i64 n)).heap[N]? = _
   rw [heap_setCell_same _ _ _ _ _ _ (heap_setCell_same _ _ _ _ _ _ R2.out),HCS.out,hds,hy];rfl
  have HRG:Hid ((((W2.setCell ⟨N,3,none⟩ (.int .i64 p)).setCell ⟨N,4,none⟩ (.int .i64 n)).drew).rangeAt N 0 ds):=fun j u hu => by
   rw [zc r3,Nat.zero_add];simpa using hu
  have hb3:Below w.heap.size w (((W2.setCell ⟨N,3,none⟩ (.int .i64 p)).setCell ⟨N,4,none⟩ (.int .i64 n)).drew):=((HB2.out.setCell (p:=⟨N,3,none⟩) (Nat.le_of_lt hNw) _).setCell (p:=⟨N,4,none⟩) (Nat.le_of_lt hNw) _).drew
  have HDL:Hid (ds.length=17):=by show _=_;rw [hds];rfl
  have hput:=put_ok (HA.out.below hb3) HWR.out i HI.out y
  rw [<- hds] at hput
  have HP:=zh hput
  have HPS:Hid (put S i y=setS S i p n):=by show _=_;unfold setS;rw [hy,HX.out]
  have HB3:=zh hb3
  clear hds hy r3 hb3 hput
  go_wp2_with fail
  all_goals go_region
  all_goals go_wp2_with (refine wpList_load_mid (by rfl) 61 _ (by rfl) _ _ (by rfl) ds _ HRG.out Tryz.underlying61 rfl (by rw [HDL.out];kernel_rfl) ?_)
  all_goals (
   refine HP.out.mono ?_
   rintro e w5 ⟨rfl,hA5,hO5⟩
   have HR:Hid ((∃ wr',wr<=wr'/\wr'<=wr+1/\ArW a (setS S i p n) nx fi wr' w5)/\Only (fun b => b=a) w w5):=⟨⟨wr+1,by omega,Nat.le_refl _,by rw [<- HPS.out];exact hA5⟩,(Only.of_below HB3.out).trans hO5 (fun _ _ h => h)⟩
   clear hA5 hO5
   go_wp2
   go_end0
   exact ⟨rfl,HR.out⟩)
end
end Fr
end
section
open Go.RowKit Go.Maps Go.Shelf
namespace Fr
open Vw (Sess)
attribute [local go_sem] Oper.semAt_some
def FromI (a bA bI:Nat) (S:List Slt) (fr:List Int) (nw:Nat) (L:List Int) (pre:List Int) (A:World):Prop :=
 pre <+: L/\pre.length<L.length/\ArAt a S fr nw A/\A.cell? ⟨bA,0,none⟩=some (.pointer (some ⟨a,0,none⟩))/\Boxed A bI 3 (.int .i64 (pre.getLastD (L.headD (-1))))
def FromStep (bI:Nat) (L:List Int) (pre:List Int) (x:Int) (A B:World):Prop :=
 L[pre.length]? = some x/\Boxed B bI 3 (.int .i64 x)/\Only (fun b => b=bI) A B
theorem from_any (a:Nat) (i:Int) (w:World):Calls Tryz.prog 120 #[.pointer (some ⟨a,0,none⟩),.int .i64 i] w fun e w' =>
  e = .returned (.func (.func 148) #[] #[.pointer (some ⟨w.heap.size+1,0,none⟩),.pointer (some ⟨w.heap.size,0,none⟩)]) /\
  w'=(w.alloc (.cells #[.pointer (some ⟨a,0,none⟩)] 73)).alloc (.cells #[.int .i64 i] 3):=by
 go_enter Tryz.func120,Tryz.ntmps120
 go_wp2
 go_ret
 exact ⟨rfl,rfl⟩
theorem ring_next {S:List Slt} {last:Int} {L pre:List Int} {x:Int} (hR:RingAt S last L) (hp:pre <+: L) (hne:pre≠[]) (hx:L[pre.length]? = some x):(sl S (pre.getLastD (-1))).next=x:=by
 obtain ⟨t,rfl⟩:=hp
 rcases List.eq_nil_or_concat pre with rfl | ⟨p,y,rfl⟩
 ·exact absurd rfl hne
 rw [List.getElem?_append_right (Nat.le_refl _),Nat.sub_self] at hx
 cases t with
 | nil => simp at hx
 | cons z r =>
  simp only [List.getElem?_cons_zero,Option.some.injEq] at hx
  subst hx
  rcases hR with ⟨h,_⟩ | ⟨q,hq,h⟩
  ·simp at h
  ·have h2:Path S ((last :: p) ++ y :: z :: r):=by
    have e:last :: (p.concat y ++ z :: r)=(last :: p) ++ y :: z :: r:=by simp
    rwa [e] at h
   have:=path_nx h2
   simp only [List.concat_eq_append,List.getLastD_concat]
   exact this.1
theorem from_seq (n:Nat) (hn:6<=n) (a bA bI:Nat) (S:List Slt) (fr:List Int) (nw:Nat) (last:Int) (L:List Int) (hR:RingAt S last L) (ht:∀ x ∈ L,thr x=true) (hl:L.length<=32) (hab:a≠bI) (hbb:bA≠bI) :
  Mq.Seq Fence.wide n Tryz.prog 148 #[.pointer (some ⟨bI,0,none⟩),.pointer (some ⟨bA,0,none⟩)] encI (FromI a bA bI S fr nw L) (FromStep bI L) (fun _ _ _ => False) 31:=by
 intro l J Jx Done W hJ h0
 refine callsIn_of_wp Tryz.func148 rfl trivial ?_ rfl
 simp only [Tryz.ntmps148,List.size_toArray,List.length_cons,List.length_nil,Nat.reduceAdd,Nat.reduceSub,Array.replicate_succ,Array.replicate_zero,List.push_toArray,List.append_toArray,List.nil_append,List.cons_append]
 have HJ:=zh hJ;have HT:=zh ht;have HL:=zh hl;have HR:=zh hR
 have HNX:=zh (fun (pre:List Int) (x:Int) => ring_next (pre:=pre) (x:=x) hR)
 have h0':=(hJ [] W h0).1
 have hfirst:∃ x,L[0]? = some x:=⟨L[0]'h0'.2.1,List.getElem?_eq_getElem h0'.2.1⟩
 obtain ⟨x0,hx0⟩:=hfirst
 have hhd:L.headD (-1)=x0:=by
  cases L with
  | nil => simp at hx0
  | cons y r => simpa using hx0
 have hb0:=h0'.2.2.2.2
 simp only [List.getLastD_nil] at hb0
 rw [hhd] at hb0
 have HY0:=zh ((hJ [] W h0).2.2.1 x0 W ⟨hx0,hb0,Only.refl _ _⟩)
 have HX0:=zh hx0;have HB0:=zh hb0;have HC0:=zh h0'.2.2.2.1
 have HA0:=zh h0'.2.2.1
 clear hJ ht hl hR h0 h0' hx0 hhd hb0
 gi_wp2
 gi_loopg [4] (L.length) (fun g i wr => ∃ (pre:List Int) (x:Int),g=L.length-pre.length/\i = .int .i64 pre.length/\L[pre.length]? = some x/\wr.cell? ⟨bA,0,none⟩=some (.pointer (some ⟨a,0,none⟩))/\Boxed wr bI 3 (.int .i64 x) /\
  YieldAt Fence.wide (n-1) Tryz.prog l (encI x) wr fun e W' => (e = .returned (.bool true)/\J (pre ++ [x]) W')\/(e = .returned (.bool false)/\Jx (pre ++ [x]) W'))
 case atStart => exact ⟨[],x0,by simp,rfl,HX0.out,HC0.out,HB0.out,HY0.out⟩
 case round =>
  obtain ⟨pre,x,rfl,rfl,hx,cA,hbI,hy⟩:=hrel
  have hlt:pre.length<L.length:=(List.getElem?_eq_some_iff.1 hx).1
  have htx:=HT.out x (List.mem_of_getElem? hx)
  obtain ⟨K,hK⟩:∃ K,K=pre.length:=⟨_,rfl⟩
  have k32:(K:Int)<32:=by have:=HL.out;omega
  have cI:=hbI.cell
  have HTX:=zh (fun w => rthere_yes x htx w)
  obtain ⟨fn,tmps,assign,body,hy1,hR⟩:=hy
  unfold encI at hy1
  have HRO:=zh hR;have HLT:=zh hlt;have HK:=zh hK;have HBI:=zh hbI
  rw [<- hK]
  clear hR hlt hK hx hbI htx
  gi_wp2_with fail
  refine ⟨trivial,fun _ => by omega,(callsIn_wide.2 (HTX.out _)).mono ?_⟩
  rintro e w2 ⟨rfl,rfl⟩
  gi_wp2_with fail
  refine ⟨fun _ => by omega,HRO.out.mono ?_⟩
  rintro e W3 (⟨rfl,hJ3⟩ | ⟨rfl,hX3⟩)
  ·obtain ⟨⟨i1,i2,i3,i4,i5⟩,h31,hst,-⟩:=HJ.out (pre ++ [x]) W3 hJ3
   have hx':∃ y,L[(pre ++ [x]).length]? = some y:=⟨_,List.getElem?_eq_getElem i2⟩
   obtain ⟨y,hy'⟩:=hx'
   have hnx:=HNX.out (pre ++ [x]) y i1 (by simp) hy'
   have e5:(pre ++ [x]).getLastD (L.headD (-1))=x:=by simp
   have e6:(pre ++ [x]).getLastD (-1)=x:=by simp
   rw [e5] at i5
   rw [e6] at hnx
   have ht3:=HT.out x (i1.subset (by simp))
   have cA3:=i4
   have cI3:=i5.cell
   have hof:Calls Tryz.prog 121 #[.pointer (some ⟨a,0,none⟩),.int .i64 x] W3 fun e w' => e = .returned (.agg #[.int .i64 (sl S x).prev,.int .i64 (sl S x).next])/\Below W3.heap.size W3 w':=by
    obtain ⟨⟨nx,fi,hA,-⟩,-⟩:=i3
    exact of_ok hA x ht3
   rw [hnx] at hof
   obtain ⟨pv,hpv⟩:∃ pv,pv=(sl S x).prev:=⟨_,rfl⟩
   rw [<- hpv] at hof
   have HOF:=zh hof
   have HST:=zh (fun B => hst y B)
   have HY:=zh hy';have I5:=zh i5;have I2:=zh i2;have I4:=zh i4
   have HF:=lk_next pv y
   have e7:IntKind.i64.wrap ((K:Int)+1)=((K+1:Nat):Int):=by rw [IntWalk.i64_in _ (by omega)];rfl
   clear i1 i2 i3 i4 i5 hst hy' hnx e5 e6 ht3 hof hpv hJ3 cA cI hy1
   gi_wp2_with fail
   refine ⟨trivial,fun _ => by omega,(callsIn_wide.2 HOF.out).mono ?_⟩
   rintro e W4 ⟨rfl,hb4⟩
   have hBI4:Boxed W4 bI 3 (.int .i64 x):=(hb4.block bI I5.out.lt).trans I5.out
   have c4:=hBI4.cell
   have f4:=hBI4.frozen
   have hBI5:=hBI4.set (.int .i64 y)
   have hO5:Only (fun b => b=bI) W3 (W4.setCell ⟨bI,0,none⟩ (.int .i64 y)):=(Only.of_below (F:=fun b => b=bI) hb4).setCell (p:=⟨bI,0,none⟩) (fun _ => rfl) _
   have cA5:(W4.setCell ⟨bI,0,none⟩ (.int .i64 y)).cell? ⟨bA,0,none⟩=some (.pointer (some ⟨a,0,none⟩)):=(hO5.cell (p:=⟨bA,0,none⟩) (World.block_lt_of_cell? W3 _ I4.out) (fun h => hbb h)).trans I4.out
   have HY5:=zh (HST.out (W4.setCell ⟨bI,0,none⟩ (.int .i64 y)) ⟨HY.out,hBI5,hO5⟩)
   have HB5:=zh hBI5;have HA5:=zh cA5
   clear hb4 hBI4 hBI5 hO5 cA5 cA3 cI3
   gi_wp2
   gi_roundg (L.length-(pre ++ [x]).length)
   case rel => exact ⟨pre ++ [x],y,rfl,by have:=HK.out;simp;omega,HY.out,HA5.out,HB5.out,HY5.out⟩
   case measure => have:=HLT.out;simp;omega
  ·have HU:=zh hX3
   clear hX3
   gi_wp2
   go_end0
   exact ⟨⟨_,rfl⟩,.inr ⟨_,HU.out⟩⟩
end Fr
end
section
open Go.RowKit Go.Maps Go.Shelf
namespace Fr
open Vw (Sess)
attribute [local go_sem] Oper.semAt_some
theorem FrL.head {nx:List Int}:∀ {post:List Int} {fi:Int},FrL nx fi post->fi=post.headD (-1)
 | [],_,h => h
 | i :: r,_,h => h.1
theorem FrL.behind {nx:List Int}:∀ {pre:List Int} {fi i:Int} {post:List Int},FrL nx fi (pre ++ i :: post)->nx.getD i.toNat 0=post.headD (-1)
 | [],_,_,_,h => h.2.2.head
 | _ :: t,_,_,_,h => FrL.behind (pre:=t) h.2.2
theorem nodup_len32 {L:List Int} (hd:L.Nodup) (ht:∀ x ∈ L,thr x=true):L.length<=32:=by
 have:=nodup_le (m:=ids) hd (fun x hx => mem_ids.2 (ht x hx))
 rwa [ids_len] at this
theorem now_seq (n:Nat) (a bx:Nat) (S:List Slt) (fr:List Int) (nw:Nat) (w:World) (h:ArAt a S fr nw w) (hbx:w.heap[bx]? = some (.cells #[.pointer (some ⟨a,0,none⟩)] 73 (0,0))) :
  Fo.SeqF Fence.wide n Tryz.prog 104 #[.pointer (some ⟨bx,0,none⟩)] encI (fun ys => ys=fr) (fun p => p <+: fr) (fun b => b=a\/b=bx) w:=by
 intro l J Jx W Fp0 hCW hFp hJ hJx hY h0
 obtain ⟨⟨nx,fi,hA,hF,-⟩,-⟩:=h
 have HC:Hid (∀ A:World,(∀ b,(b=a\/b=bx)->b<A.heap.size/\A.heap[b]? = w.heap[b]?)->ArW a S nx fi nw A/\A.cell? ⟨bx,0,none⟩=some (.pointer (some ⟨a,0,none⟩))):=fun A hA2 => by
  refine ⟨hA.keep (hA2 a (.inl rfl)).2,?_⟩
  rw [zc ((hA2 bx (.inr rfl)).2.trans hbx)];rfl
 obtain ⟨hAW,cb⟩:=HC.out W hCW
 have c1:=hAW.first
 have HF:=zh hF
 have HY:=zh hY
 have HK0:Hid (Kept (fun b => b=a\/b=bx) Fp0 w W):=fun b hb => ⟨fun hf => (hFp b hf).2 hb,hCW b hb⟩
 have H0:=zh h0
 have hhd:=hF.head
 have HHD:=zh hhd
 clear hY hCW hFp h0 hA hF hAW hJ hJx hbx hhd
 refine callsIn_of_wp Tryz.func104 rfl trivial ?_ rfl
 simp only [Tryz.ntmps104,List.size_toArray,List.length_cons,List.length_nil,Nat.reduceAdd,Nat.reduceSub,Array.replicate_succ,Array.replicate_zero,List.push_toArray,List.append_toArray,List.nil_append,List.cons_append]
 gi_wp2
 gi_loopg [3] fr.length (fun g i wr => ∃ (pre post:List Int) (Fp:Nat->Prop),fr=pre ++ post/\g=post.length/\i = .int .i64 (post.headD (-1))/\J pre Fp wr/\W.heap.size<=wr.heap.size/\Kept (fun b => b=a\/b=bx) Fp w wr)
 case atStart => exact ⟨[],fr,Fp0,rfl,rfl,by rw [HHD.out],H0.out,Nat.le_refl _,HK0.out⟩
 case round =>
  obtain ⟨pre,post,Fp,hfr,rfl,rfl,hj,hsz,hkp⟩:=hrel
  obtain ⟨hAr,cbx⟩:=HC.out wr hkp.agree
  cases post with
  | nil =>
   rw [List.append_nil] at hfr
   rw [<- hfr] at hj
   clear hfr hAr
   simp only [List.headD_nil]
   gi_wp2
   go_end0
   exact ⟨⟨_,rfl⟩,.inl ⟨_,Fp,rfl,hj⟩⟩
  | cons i post =>
   simp only [List.headD_cons]
   have hFF:=HF.out
   rw [hfr] at hFF
   have ti:=thr_iff.1 (hFF.thr i (by simp))
   have hbe:=FrL.behind hFF
   obtain ⟨m,rfl⟩:=Int.eq_ofNat_of_zero_le ti.1
   have m32:(m:Int)<32:=ti.2
   have mne:((m:Int) != -1)=true:=by rw [bne_iff_ne];omega
   obtain ⟨fn,tmps,assign,body,hy,hR⟩:=HY.out pre (m:Int) Fp wr hj hsz (by
    show _ <+: _
    rw [hfr];exact ⟨post,by simp⟩)
   unfold encI at hy
   have HR:=zh hR;have HKP:=zh hkp;have HSZ:=zh hsz;have HFR:=zh hfr;have HBE:=zh hbe;have HM:=zh m32
   have HAR:=zh hAr
   clear hR hj hkp hsz hfr hFF hbe ti hAr
   gi_wp2_with fail
   refine ⟨fun h => by simp [Fence.wide] at h,HR.out.mono ?_⟩
   rintro e W3 (⟨rfl,Fp',hJ3,ho3,hn3⟩ | ⟨rfl,Fp',hJx3,-,-⟩)
   ·have HK3:=zh (HKP.out.yield ho3 hn3)
    have HS3:Hid (W.heap.size<=W3.heap.size):=Nat.le_trans HSZ.out ho3.size
    have HJ3:=zh hJ3
    obtain ⟨hA3,cb3⟩:=HC.out W3 HK3.out.agree
    have c3:=hA3.next (k:=m) (by have:=HM.out;omega)
    have hbe':=HBE.out
    rw [Int.toNat_natCast] at hbe'
    rw [hbe'] at c3
    clear hJ3 ho3 hn3 hA3 hbe' cbx
    gi_wp2
    gi_roundg post.length
    case rel => exact ⟨pre ++ [(m:Int)],post,Fp',by rw [HFR.out];simp,rfl,by simp,HJ3.out,HS3.out,HK3.out⟩
    case measure => simp
   ·have HU:=zh hJx3
    clear hJx3
    gi_wp2
    refine bodyPost_ret (results_none rfl _ _ _) rfl ?_
    exact ⟨⟨_,rfl⟩,.inr ⟨_,Fp',by rw [HFR.out];exact ⟨post,by simp⟩,HU.out⟩⟩
theorem now_any (a:Nat) (w:World):Calls Tryz.prog 58 #[.pointer (some ⟨a,0,none⟩)] w fun e w' => e = .returned (.func (.func 104) #[] #[.pointer (some ⟨w.heap.size,0,none⟩)])/\w'=w.alloc (.cells #[.pointer (some ⟨a,0,none⟩)] 73):=by
 go_enter Tryz.func58,Tryz.ntmps58
 go_wp2
 go_ret
 exact ⟨rfl,rfl⟩
end Fr
end
section
open Go.RowKit Go.Maps
namespace Fr
theorem finfo_int:(Tryz.prog.info? 3).map (fun i => (i.zero,i.size,i.bytes))=some (some (.int .i64 0),1,8):=by kernel_rfl
theorem own_shape {w:World} {base e size n:Nat} {v:Value} {xs:List Value} (h:w.ownsRow base e size v n xs):∃ q r,v = .slice q n r/\n<=r:=by
 rcases h.2 with ⟨rfl,rfl⟩ | ⟨g,cap,cur,rfl,h2,h3,h4,h5⟩
 ·exact ⟨_,_,rfl,Nat.le_refl _⟩
 ·exact ⟨_,_,rfl,h4⟩
theorem own_stay {w w':World} {base e size n:Nat} {v:Value} {xs:List Value} (h:w.ownsRow base e size v n xs) (hk:∀ b,v.ownBlock=some b->w'.heap[b]? = w.heap[b]?):w'.ownsRow base e size v n xs:=by
 refine ⟨h.1,?_⟩
 rcases h.2 with h2 | ⟨g,cap,cur,rfl,h2,h3,h4⟩
 ·exact .inl h2
 ·exact .inr ⟨g,cap,cur,rfl,h2,(hk g rfl).trans h3,h4⟩
theorem own_down {w:World} {base base' e size n:Nat} {v:Value} {xs:List Value} (h:w.ownsRow base e size v n xs) (hb:base'<=base):w.ownsRow base' e size v n xs:=by
 refine ⟨h.1,?_⟩
 rcases h.2 with h2 | ⟨g,cap,cur,rfl,h2,h3,h4⟩
 ·exact .inl h2
 ·exact .inr ⟨g,cap,cur,rfl,Nat.le_trans hb h2,h3,h4⟩
theorem push_in_box {A w1:World} {o1:Obj} {t e:TypeId} {size n m base b1:Nat} {d v':Value} {xs ys:List Value} (h1:Boxed A b1 t d) (hb:b1<base) (h2:A.ownsRow base e size d n xs)
  (hown':w1.ownsRow base e size v' m ys) (hgrow:(A.alloc o1).grownBy w1 d.ownBlock) (hat:v'.ownBlock=d.ownBlock\/v'.ownBlock=some (A.alloc o1).heap.size) :
  Boxed w1 b1 t d/\Boxed (w1.setCell ⟨b1,0,none⟩ v') b1 t v'/\(w1.setCell ⟨b1,0,none⟩ v').ownsRow base e size v' m ys/\Only (fun b => b=b1\/d.ownBlock=some b) A (w1.setCell ⟨b1,0,none⟩ v')/\∀ b,v'.ownBlock=some b->d.ownBlock=some b\/A.heap.size<=b:=by
 have hlt:=h1.lt
 have hnb:∀ b,d.ownBlock=some b->base<=b:=fun b e => (h2.lt b e).1
 have ho:Only (fun b => b=b1\/d.ownBlock=some b) A w1:=((Only.refl _ A).alloc o1).grown hgrow (fun k hk e => .inr e)
 have hb1:Boxed w1 b1 t d:=(h1.alloc o1).kept hgrow (fun e => by have:=hnb _ e.symm;omega)
 refine ⟨hb1,hb1.set v',own_stay hown' (fun b e => Below.heap_setCell _ _ _ _ ?_),ho.setCell (fun _ => .inl rfl) _,fun b e => ?_⟩
 ·have:=(hown'.lt b e).1
  show b≠b1
  omega
 ·rcases hat with h | h
  ·exact .inl (h.symm.trans e)
  ·have e2:b=(A.alloc o1).heap.size:=Option.some.inj (e.symm.trans h)
   exact .inr (by rw [e2];simp)
structure GL (t:TypeId) (B D:Nat) (w:World) (d:Value) (pre:List Int) (Fp:Nat->Prop) (A:World):Prop where
 b1:Boxed A B t d
 r1:A.ownsRow D 3 1 d pre.length (pre.map (Value.int .i64))
 fp:∀ b,Fp b↔b=B\/d.ownBlock=some b
 lt:B<D
 bel:Below B w A
theorem GL.far {t:TypeId} {B D:Nat} {w A:World} {d:Value} {pre:List Int} {Fp:Nat->Prop} (h:GL t B D w d pre Fp A) {b:Nat} (hb:Fp b):B<=b:=by
 rcases (h.fp b).1 hb with h1 | h1
 ·omega
 ·have:=(h.r1.lt b h1).1;have:=h.lt;omega
theorem GL.turn {t:TypeId} {B D:Nat} {w A A':World} {d:Value} {pre:List Int} {Fp:Nat->Prop} {row:Option Nat} (h:GL t B D w d pre Fp A) (hg:A.grownBy A' row) (hrow:∀ r,row=some r->B<r/\¬ Fp r):GL t B D w d pre Fp A' :=
 ⟨h.b1.kept hg (fun e => by have:=(hrow _ e.symm).1;omega),own_stay h.r1 (fun b e => hg.block b (h.r1.lt b e).2 (fun e2 => (hrow b e2.symm).2 ((h.fp b).2 (.inr e)))),h.fp,h.lt,h.bel.grown hg (Nat.le_of_lt h.b1.lt) (fun k e => Nat.le_of_lt (hrow k e).1)⟩
theorem GL.start {t:TypeId} (w:World):GL t w.heap.size (w.heap.size+1) w (.slice none 0 0) [] (fun b => b=w.heap.size) (w.alloc (.cells #[.slice none 0 0] t)) :=
 ⟨Boxed.new w t _,World.ownsRow_nil _ _ _ _,fun b => ⟨.inl,fun h => h.elim id (fun h => by cases h)⟩,Nat.lt_succ_self _,(Below.refl _ _).alloc (Nat.le_refl _) _⟩
theorem GL.push {t:TypeId} {B D:Nat} {w A w1:World} {d v:Value} {pre:List Int} {x:Int} {Fp:Nat->Prop} {o1:Obj} (h:GL t B D w d pre Fp A)
  (hown':w1.ownsRow D 3 1 v (pre.length+1) (pre.map (Value.int .i64) ++ [Value.int .i64 x])) (hgrow:(A.alloc o1).grownBy w1 d.ownBlock) (hat:v.ownBlock=d.ownBlock\/v.ownBlock=some (A.alloc o1).heap.size) :
  Boxed w1 B t d/\Below B w w1/\∃ Fp',GL t B D w v (pre ++ [x]) Fp' (w1.setCell ⟨B,0,none⟩ v)/\Only Fp A (w1.setCell ⟨B,0,none⟩ v)/\∀ b,Fp' b->Fp b\/A.heap.size<=b:=by
 obtain ⟨h1,h2,h3,h4,h5⟩:=push_in_box h.b1 h.lt h.r1 hown' hgrow hat
 have ho:Only Fp A (w1.setCell ⟨B,0,none⟩ v):=h4.mono (fun i _ hi => (h.fp i).2 hi)
 refine ⟨h1,(h.bel.alloc (Nat.le_of_lt h.b1.lt) o1).grown hgrow (by have:=h.b1.lt;simp;omega) (fun k e => by have:=(h.r1.lt k e).1;have:=h.lt;omega),fun b => b=B\/v.ownBlock=some b,⟨h2,?_,fun b => Iff.rfl,h.lt,h.bel.trans (ho.below (Nat.le_of_lt h.b1.lt) (fun i hi hf => by have:=h.far hf;omega))⟩,ho,?_⟩
 ·rw [List.length_append,List.map_append];exact h3
 ·rintro b (h6 | h6)
  ·exact .inl ((h.fp b).2 (.inl h6))
  ·exact (h5 b h6).imp (fun h7 => (h.fp b).2 (.inr h7)) id
theorem GL.cells {t:TypeId} {B D:Nat} {w A:World} {d:Value} {pre:List Int} {Fp:Nat->Prop} (h:GL t B D w d pre Fp A) {b:Nat} (hb:Fp b):∃ o:Obj,A.heap[b]? = some o/\o.isCells=true:=by
 rcases (h.fp b).1 hb with rfl | h1
 ·exact ⟨_,h.b1,rfl⟩
 ·rcases h.r1.2 with ⟨e,_⟩ | ⟨g,cap,cur,e,h2,h3,h4⟩
  ·rw [e] at h1;cases h1
  ·rw [e] at h1;cases h1;exact ⟨_,h3,rfl⟩
theorem GL.other {t:TypeId} {B D:Nat} {w A A':World} {d:Value} {pre:List Int} {Fp F:Nat->Prop} (h:GL t B D w d pre Fp A) (ho:Only F A A') (hF:∀ b,F b->B<b/\¬ Fp b):GL t B D w d pre Fp A' :=
 ⟨(ho.block _ h.b1.lt (fun hf => by have:=(hF _ hf).1;omega)).trans h.b1,own_stay h.r1 (fun b e => ho.block b (h.r1.lt b e).2 (fun hf => (hF b hf).2 ((h.fp b).2 (.inr e)))),h.fp,h.lt,h.bel.trans (ho.below (Nat.le_of_lt h.b1.lt) (fun i hi hf => by have:=(hF i hf).1;omega))⟩
theorem keeps_only {F:Nat->Prop} {A B:World} (ho:Only F A B) (hc:∀ b,F b->∃ o:Obj,A.heap[b]? = some o/\o.isCells=true) (n:Nat):KeepsFrom n A B :=
 ⟨ho.size,fun k o _ hk he => (ho.block k (zx hk) (fun hf => by
  obtain ⟨o2,h2,h3⟩:=hc k hf
  rw [hk] at h2
  cases h2
  rw [he] at h3
  cases h3)).trans hk⟩
theorem gathered {t:TypeId} {bx D:Nat} {v:Value} {L:List Int} {w:World} (hb:Boxed w bx t v) (hr:w.ownsRow D 3 1 v L.length (L.map (Value.int .i64))) :
  ∀ W:World,(∀ b,(b=bx\/v.ownBlock=some b)->b<W.heap.size/\W.heap[b]? = w.heap[b]?)->W.cell? ⟨bx,0,none⟩=some v/\In.IntArg W v L:=fun W hW =>
 ⟨Boxed.cell (t:=t) (show Boxed W bx t v from (hW bx (.inl rfl)).2.trans hb),In.own_ints (fun _ => rfl) rfl (own_stay hr (fun b e => (hW b (.inr e)).2))⟩
end Fr
end
section
open Go.RowKit Go.Maps Go.Shelf
namespace Fr
open Vw (Sess)
attribute [local go_sem] Oper.semAt_some
theorem frees_any (a:Nat) (S:List Slt) (fr:List Int) (nw:Nat) (w:World) (h:ArAt a S fr nw w) :
  Calls Tryz.prog 32 #[.pointer (some ⟨a,0,none⟩)] w fun e w' => (∃ v,e = .returned (.func (.func 59) #[] #[.pointer (some ⟨w.heap.size,0,none⟩)])/\Boxed w' w.heap.size 22 v/\w'.ownsRow (w.heap.size+1) 3 1 v fr.length (fr.map (Value.int .i64)))/\Below w.heap.size w w':=by
 obtain ⟨i0,hi,hz0,hz1,hz2⟩:=info_parts finfo_int
 have hfl:fr.length<=32:=by obtain ⟨⟨nx,fi,hA,hF,-⟩,hnd⟩:=h;exact nodup_len32 hnd hF.thr
 have halt:a<w.heap.size:=by obtain ⟨⟨nx,fi,hA,-⟩,-⟩:=h;exact hA.lt
 obtain ⟨W1,hW1⟩:∃ W1,W1=w.alloc (.cells #[.slice none 0 0] 22):=⟨_,rfl⟩
 obtain ⟨W2,hW2⟩:∃ W2,W2=W1.alloc (.cells #[.pointer (some ⟨a,0,none⟩)] 73):=⟨_,rfl⟩
 have hs1:W1.heap.size=w.heap.size+1:=by rw [hW1,World.size_alloc]
 have hs2:W2.heap.size=w.heap.size+2:=by rw [hW2,World.size_alloc,hs1]
 have hU1:GL 22 w.heap.size (w.heap.size+1) w (.slice none 0 0) [] (fun b => b=w.heap.size) W1:=by rw [hW1];exact GL.start w
 have hU0:GL 22 w.heap.size (w.heap.size+1) w (.slice none 0 0) [] (fun b => b=w.heap.size) W2:=hU1.turn (by rw [hW2];exact World.grownBy_alloc _ _ none) (fun r e => by cases e)
 have hb2:Below w.heap.size w W2:=hU0.bel
 have hA2:ArAt a S fr nw W2:=h.below hb2
 have hbx:W2.heap[W1.heap.size]? = some (.cells #[.pointer (some ⟨a,0,none⟩)] 73 (0,0)):=by rw [hW2];exact Ut.alloc_at _ _
 have hseq:=fun n => now_seq n a W1.heap.size S fr nw W2 hA2 hbx
 rw [hs1] at hseq hbx
 have HNOW:=zh (now_any a W1)
 have HSEQ:=zh (hseq 8);have HS1:=zh hs1;have HS2:=zh hs2;have HU0:=zh hU0;have HW1:=zh hW1;have HW2:=zh hW2;have HFL:=zh hfl
 have HA:=zh halt
 clear hseq hs1 hs2 hU0 hU1 hb2 hA2 hbx hW1 hW2 h hfl halt
 refine (callsIn_wide (n:=9)).1 ?_
 refine callsIn_of_wp_marks Tryz.func32 rfl trivial ?_ rfl
 simp only [Tryz.ntmps32,List.size_toArray,List.length_cons,List.length_nil,Nat.reduceAdd,Nat.reduceSub,Array.replicate_succ,Array.replicate_zero,List.push_toArray,List.append_toArray,List.nil_append,List.cons_append]
 refine wpIn_wide.2 ?_
 go_wp2_with fail
 rw [<- HW1.out]
 refine HNOW.out.mono ?_
 rintro e w3 ⟨rfl,hw3⟩
 rw [<- HW2.out] at hw3
 subst hw3
 rw [HS1.out]
 go_wp2_with fail
 refine (wpIn_wide (n:=9)).1 ?_
 refine Fo.range_foot (F:=Fence.wide) (n:=9) rfl (by omega) (gf:=104) (lb:=#[.pointer (some ⟨w.heap.size+1,0,none⟩)]) rfl trivial (enters_of Tryz.func104 (by kernel_rfl) rfl)
  HSEQ.out (fun _ => rfl) (fun b hb => ⟨by have:=HS2.out;have:=HA.out;rcases hb with rfl | rfl <;> omega,rfl⟩)
  (fun pre Fp A => ∃ d,GL 22 w.heap.size (w.heap.size+1) w d pre Fp A) (fun c pre Fp A => False) (fun b => b=w.heap.size) (fun b hb => ⟨by have:=HS2.out;omega,fun h => by have:=HA.out;rcases h with h | h <;> omega⟩)
  ?hU ?hUx ⟨_,HU0.out⟩
  (fun x => { tmps:=#[.pointer (some ⟨a,0,none⟩),undef,.nilFunc,.pointer (some ⟨w.heap.size,0,none⟩),.int .i64 x,.pointer (some ⟨a,0,none⟩),.func (.func 104) #[] #[.pointer (some ⟨w.heap.size+1,0,none⟩)],.int .i64 x,undef,undef,undef,undef,undef],defers:=[] })
  ?assign ?body ?done ?stop
 case hU =>
  rintro pre Fp A A' row ⟨d,h1⟩ hsz hg hrow
  exact ⟨d,h1.turn hg (fun r e => ⟨by have:=(hrow r e).1;have:=HS2.out;omega,(hrow r e).2⟩)⟩
 case hUx => intro c pre Fp A A' row h1;exact h1.elim
 case assign =>
  intro l2 x A K hK
  unfold encI
  gi_wp2
  exact hK
 case body =>
  rintro l2 pre x Fp A ⟨d,hu⟩ hszA hpre
  obtain ⟨q1,r1,rfl,-⟩:=own_shape hu.r1
  have hc1:=hu.b1.cell
  have hlen:pre.length+1<=32:=by
   have h1:=hpre.length_le
   simp only [List.length_append,List.length_singleton] at h1
   exact Nat.le_trans h1 HFL.out
  obtain ⟨K,hK⟩:∃ K,K=pre.length:=⟨_,rfl⟩
  have am1:K+1<=maxLen:=by unfold maxLen;omega
  have am3:(K+1) * 8<=140737488355328:=by omega
  have k3:w.heap.size+1<=(A.alloc (.cells #[.int .i64 x] 3)).heap.size:=by have:=hu.b1.lt;simp;omega
  have hr1:=hu.r1
  have HP1:=zh (fun (v1:Value) (w1:World) (o1:Obj) => GL.push (v:=v1) (w1:=w1) (o1:=o1) (x:=x) hu)
  rw [<- hK] at hc1 hr1 HP1
  have H1K:=zh hr1
  clear hu hszA hpre hlen hr1 hK
  gi_wp2_with (gi_at_builtin;(refine wpListIn_append_own_at _ rfl _ _ 22 rfl (w.heap.size+1) 3 i0 (.int .i64 0) 1 8 Tryz.underlying22 hi hz0 hz1 hz2 rfl (by decide) _ _ _ rfl (H1K.out.alloc _) ⟨A.heap.size,0,none⟩ 1 1 [.int .i64 x] rfl rfl (World.news_of_block (Ut.alloc_at _ _)) (by intro u hu;rw [List.mem_singleton.1 hu];rfl) am1 am3 k3 ?_);(intro v1 w1 hown' hgrow hnil hat;obtain ⟨q',r',rfl,-⟩:=own_shape hown';obtain ⟨hb1,-,Fp',hn1⟩:=HP1.out _ _ _ hown' hgrow hat;(have hc1':=hb1.cell);(have hf1:=hb1.frozen);(have HN:=zh hn1);clear hown' hgrow hat hn1 hb1 hnil))
  exact ⟨Fp',⟨_,HN.out.1⟩,HN.out.2.1,HN.out.2.2⟩
 case done =>
  rintro D ys Fp A rfl hD ⟨d,hu⟩ hnf hK
  gi_wp2
  go_wp2_with fail
  refine ⟨by simp,.inl ⟨_,_,rfl,run_takeDeferred (show A.heap[D]? = _ from hK),?_⟩⟩
  have h2:=hu.turn (grownBy_putObj' A D (.deferred none)) (fun r e => by cases e;exact ⟨by have:=HS2.out;omega,hnf⟩)
  exact ⟨_,results_tmp rfl _ _ _,⟨d,rfl,h2.b1,h2.r1⟩,h2.bel⟩
 case stop => intro D c pre Fp A hSp hD h1;exact h1.elim
end Fr
end
end Go.Proofs.YtimhglmfckfclaaGreat
