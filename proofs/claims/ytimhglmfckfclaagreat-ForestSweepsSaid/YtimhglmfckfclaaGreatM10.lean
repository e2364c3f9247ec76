/- Several texts in one: what each proves its own first comment says. -/
import Derived.Test.YtimhglmfckfclaaGreatQq
import Derived.Test.YtimhglmfckfclaaGreatM9
import Derived.WalkKit
import Derived.RegionTactic
import Derived.Deep.RegionHeld3
import Derived.Deep.QuietTactic
import Derived.BigQuiet
import Derived.Deep.CutRange
import Derived.Test.YtimhglmfckfclaaGreatM1
import Derived.Test.YtimhglmfckfclaaGreatM2
import Derived.Sort.LoopGhostIn
import Derived.Maps.OwnIn
set_option linter.unusedVariables false
set_option linter.unusedSimpArgs false
namespace Go.Proofs.YtimhglmfckfclaaGreat
open Go.RowKit
namespace Fr
open Vw (Sess)
theorem there_yes (i:Int) (h:thr i=true) (w:World):Calls Tryz.prog 68 #[.int .i64 i] w fun e w' => e = .returned (.bool true)∧w=w':=by
 obtain ⟨h0,h1⟩:=thr_iff.1 h
 clear h
 go_enter Tryz.func68,Tryz.ntmps68
 go_wp2
 go_ret
 exact ⟨rfl,rfl⟩
theorem there_no (i:Int) (h:thr i=false) (w:World):Calls Tryz.prog 68 #[.int .i64 i] w fun e w' => e = .returned (.bool false)∧w=w':=by
 have h2:=thr_no.1 h
 clear h
 by_cases h0:0≤i
 ·have h1:32≤i:=by omega
  clear h2
  go_enter Tryz.func68,Tryz.ntmps68
  go_wp2
  go_ret
  exact ⟨by simp;omega,rfl⟩
 ·have h1:i<0:=by omega
  clear h2 h0
  go_enter Tryz.func68,Tryz.ntmps68
  go_wp2
  go_ret
  exact ⟨by simp,rfl⟩
set_option maxRecDepth 100000 in
theorem get_ok {a:Nat} {S:List Slt} {nx:List Int} {fi:Int} {wr:Nat} {w:World} (h:ArW a S nx fi wr w) (i:Int) (hi:thr i=true) :
  Calls Tryz.prog 39 #[.pointer (some ⟨a,0,none⟩),.int .i64 i] w fun e w' => e = .returned (.tuple #[.agg (sl S i).cells.toArray,.nilIface])∧Below w.heap.size w w':=by
 obtain ⟨h0,h1⟩:=thr_iff.1 hi
 obtain ⟨k,rfl⟩:=Int.eq_ofNat_of_zero_le h0
 have hk:k<32:=by omega
 obtain ⟨cs,hcs⟩:∃ cs,cs=(sl S (k:Int)).cells:=⟨_,rfl⟩
 have hb:Below w.heap.size w (w.alloc (.cells cs.toArray 61)):=(Below.refl _ _).alloc (Nat.le_refl _) _
 have hrg:∀ o:Obj,(w.alloc o).rangeAt a (k * 17) cs:=fun o => by rw [hcs];exact (h.below ((Below.refl _ _).alloc (Nat.le_refl _) _)).slot hk
 have HRG:=Lib.hid hrg
 have HCL:Hid (cs.length=17):=by show _=_;rw [hcs];rfl
 have HC1:Hid (∀ u ∈ cs,u.oneCell'=true):=by show ∀ _,_;rw [hcs];exact (sl S (k:Int)).one
 have HT:=Lib.hid (fun w => there_yes (k:Int) hi w)
 have HB:=Lib.hid hb
 have hlt:=h.lt
 have HE:Hid ((w.alloc (.cells cs.toArray 61)).heap[w.heap.size]? = some (.cells cs.toArray 61 (0,0))):=Ut.alloc_at _ _
 rw [← hcs]
 clear hcs hrg hb h hi h0
 go_enter Tryz.func39,Tryz.ntmps39
 go_wp2_with (first
  | (go_at_call 68;(with_reducible refine (HT.out _).mono ?_);rintro e w' ⟨rfl,rfl⟩)
  | (refine wpList_load_mid (by rfl) 61 _ (by rfl) _ _ (by rfl) cs _ (HRG.out _) Tryz.underlying61 rfl (by rw [HCL.out];kernel_rfl) ?_)
  | (refine Ag.wpList_store_new (by rfl) 61 (.tmp 4) (.tmp 16) (by rfl) cs (by rfl) (by rfl) (by rw [HCL.out];kernel_rfl) (by rw [HCL.out];rfl) HC1.out ?_))
 refine bodyPost_ret (results_cell_tmp rfl _ _ w.heap.size _ cs.toArray (0,0) _ rfl HE.out Tryz.underlying61 rfl (by rw [List.size_toArray,HCL.out];kernel_rfl)) rfl ?_
 exact ⟨rfl,HB.out⟩
set_option maxRecDepth 100000 in
theorem get_no {a:Nat} (i:Int) (hi:thr i=false) (w:World) :
  Calls Tryz.prog 39 #[.pointer (some ⟨a,0,none⟩),.int .i64 i] w fun e w' => e = .returned (.tuple #[.agg zeroS.cells.toArray,.iface 83 (.int .i64 1)])∧Below w.heap.size w w':=by
 obtain ⟨cs,hcs⟩:∃ cs,cs=zeroS.cells:=⟨_,rfl⟩
 have hb:Below w.heap.size w (w.alloc (.cells cs.toArray 61)):=(Below.refl _ _).alloc (Nat.le_refl _) _
 have HCS:=Lib.hid hcs
 have HCL:Hid (cs.length=17):=by show _=_;rw [hcs];rfl
 have HC1:Hid (∀ u ∈ cs,u.oneCell'=true):=by show ∀ _,_;rw [hcs];exact zeroS.one
 have HT:=Lib.hid (fun w => there_no i hi w)
 have HB:=Lib.hid hb
 have HE:Hid ((w.alloc (.cells cs.toArray 61)).heap[w.heap.size]? = some (.cells cs.toArray 61 (0,0))):=Ut.alloc_at _ _
 rw [← hcs]
 clear hcs hb hi
 go_enter Tryz.func39,Tryz.ntmps39
 go_wp2_with (first
  | (go_at_call 68;(with_reducible refine (HT.out _).mono ?_);rintro e w' ⟨rfl,rfl⟩)
  | (refine Ag.wpList_store_new (by rfl) 61 (.tmp 4) (.tmp 9) (by rfl) cs (by rfl) (by rw [HCS.out];rfl) (by rw [HCL.out];kernel_rfl) (by rw [HCL.out];rfl) HC1.out ?_))
 refine bodyPost_ret (results_cell_tmp rfl _ _ w.heap.size _ cs.toArray (0,0) _ rfl HE.out Tryz.underlying61 rfl (by rw [List.size_toArray,HCL.out];kernel_rfl)) rfl ?_
 exact ⟨rfl,HB.out⟩
set_option maxRecDepth 100000 in
theorem put_ok {a:Nat} {S:List Slt} {nx:List Int} {fi:Int} {wr:Nat} {w:World} (h:ArW a S nx fi wr w) (hw:wr+1≤4611686018427387904) (i:Int) (hi:thr i=true) (x:Slt) :
  Calls Tryz.prog 65 #[.pointer (some ⟨a,0,none⟩),.int .i64 i,.agg x.cells.toArray] w fun e w' => e = .returned .nilIface∧ArW a (put S i x) nx fi (wr+1) w'∧Only (fun b => b=a) w w':=by
 obtain ⟨h0,h1⟩:=thr_iff.1 hi
 obtain ⟨k,rfl⟩:=Int.eq_ofNat_of_zero_le h0
 have hk:k<32:=by omega
 obtain ⟨cs,hcs⟩:∃ cs,cs=x.cells:=⟨_,rfl⟩
 obtain ⟨W,hW⟩:∃ W,W=w.alloc (.cells cs.toArray 61):=⟨_,rfl⟩
 have hb:Below w.heap.size w W:=by rw [hW];exact (Below.refl _ _).alloc (Nat.le_refl _) _
 have hA:=h.below hb
 have hrow:W.heap[w.heap.size]? = some (.cells cs.toArray 61 (0,0)):=by rw [hW];exact Ut.alloc_at _ _
 have hrg:W.drew.rangeAt w.heap.size 0 cs:=fun j u hu => by
  have hrow':W.drew.heap[w.heap.size]? = some (.cells cs.toArray 61 (0,0)):=hrow
  rw [cell_of_row _ _ _ _ _ _ hrow',Nat.zero_add];simpa using hu
 have HRG:=Lib.hid hrg
 have HCL:Hid (cs.length=17):=by show _=_;rw [hcs];rfl
 have HC1:Hid (∀ u ∈ cs,u.oneCell'=true):=by show ∀ _,_;rw [hcs];exact x.one
 have HT:=Lib.hid (fun w => there_yes (k:Int) hi w)
 have hA1:ArW a S nx fi wr W.drew:=hA.below ((Below.refl _ _).drew)
 have HTH:Hid (W.drew.there a (k * 17) cs.toArray.size):=by
  show W.drew.there _ _ _
  rw [List.size_toArray,HCL.out];exact hA1.there hk
 have hA2:ArW a (put S (k:Int) x) nx fi wr (W.drew.setCells a (k * 17) cs):=by rw [hcs];exact hA1.put hk x
 have hO2:Only (fun b => b=a) w (W.drew.setCells a (k * 17) cs):=by
  have:∀ (vs:List Value) (o:Nat) (w1:World),Only (fun b => b=a) w w1→Only (fun b => b=a) w (w1.setCells a o vs):=by
   intro vs
   induction vs with
   | nil => intro o w1 h;exact h
   | cons v r ih => intro o w1 h;rw [World.setCells];exact ih _ _ (h.setCell (p:=⟨a,o,none⟩) (fun _ => rfl) v)
  exact this _ _ _ (Only.of_below hb).drew
 obtain ⟨W2,hW2⟩:∃ W2,W2=W.drew.setCells a (k * 17) cs:=⟨_,rfl⟩
 rw [← hW2] at hA2 hO2
 have c1:=hA2.writes
 have f1:=hA2.free 577
 have e1:((wr:Int)+1)=((wr+1:Nat):Int):=by omega
 have HF:Hid (ArW a (put S (k:Int) x) nx fi (wr+1) (W2.setCell ⟨a,577,none⟩ (.int .i64 ((wr:Int)+1)))∧Only (fun b => b=a) w (W2.setCell ⟨a,577,none⟩ (.int .i64 ((wr:Int)+1)))):=by
  rw [e1];exact ⟨hA2.setW (wr+1),hO2.setCell (p:=⟨a,577,none⟩) (fun _ => rfl) _⟩
 have HW2:=Lib.hid hW2
 have n1:(0:Int)≤(wr:Int):=by omega
 have n2:(wr:Int)≤4611686018427387903:=by omega
 rw [← hcs]
 clear hcs hrg hb h hA hA1 hA2 hO2 hrow hi h0 e1 hW2 hw
 go_enter Tryz.func65,Tryz.ntmps65
 go_wp2_with (go_at_call 68;(with_reducible refine (HT.out _).mono ?_);rintro e w' ⟨rfl,rfl⟩)
 rw [← hW]
 clear hW
 refine wp_region_still_tail 6 (by kernel_rfl) (by kernel_rfl) ?_
 simp only [List.take_succ_cons,List.take_zero,List.drop_succ_cons,List.drop_zero]
 still_step
 still_step
 refine St.load (by rfl) 61 _ (by rfl) w.heap.size 0 (by rfl) cs _ HRG.out Tryz.underlying61 rfl (by rw [HCL.out];kernel_rfl) ?_
 still_step
 still_step
 still_step
 refine wpStill_nil ?_
 change wpList _ _ _ _ _ W.drew
 refine wpList_store_mid (by rfl) 61 (.tmp 16) (.tmp 13) (by rfl) a (k * 17) cs.toArray (by rfl) (by rfl) HTH.out (by rw [List.size_toArray,HCL.out];kernel_rfl) (all_oneCell_toArray HC1.out) ?_
 rw [List.toList_toArray,← HW2.out]
 clear HW2 HTH HRG HC1 HCL
 go_wp2
 go_ret
 exact ⟨rfl,HF.out⟩
theorem writes_any {a:Nat} {S:List Slt} {nx:List Int} {fi:Int} {wr:Nat} {w:World} (h:ArW a S nx fi wr w) :
  Calls Tryz.prog 40 #[.pointer (some ⟨a,0,none⟩)] w fun e w' => e = .returned (.int .i64 (wr:Int))∧w=w':=by
 have c1:=h.writes
 clear h
 go_enter Tryz.func40,Tryz.ntmps40
 go_wp2
 go_ret
 exact ⟨rfl,rfl⟩
set_option maxRecDepth 100000 in
theorem bare_any (w:World):Calls Tryz.prog 52 #[] w fun e w' => e = .returned (.agg bare.cells.toArray)∧w'=w.alloc (.cells bare.cells.toArray 61):=by
 obtain ⟨cs,hcs⟩:∃ cs,cs=bare.cells:=⟨_,rfl⟩
 have HCS:=Lib.hid hcs
 have HCL:Hid (cs.length=17):=by show _=_;rw [hcs];rfl
 have HC1:Hid (∀ u ∈ cs,u.oneCell'=true):=by show ∀ _,_;rw [hcs];exact bare.one
 have HE:Hid ((w.alloc (.cells cs.toArray 61)).heap[w.heap.size]? = some (.cells cs.toArray 61 (0,0))):=Ut.alloc_at _ _
 rw [← hcs]
 clear hcs
 go_enter Tryz.func52,Tryz.ntmps52
 go_wp2_with (first
  | (refine Ag.wpList_store_new (by rfl) 61 (.tmp 0) (.tmp 1) (by rfl) cs (by rfl) (by rw [HCS.out];rfl) (by rw [HCL.out];kernel_rfl) (by rw [HCL.out];rfl) HC1.out ?_))
 refine bodyPost_ret (results_cell_row rfl _ _ w.heap.size _ cs.toArray (0,0) _ rfl HE.out Tryz.underlying61 rfl (by rw [List.size_toArray,HCL.out];kernel_rfl)) rfl ?_
 exact ⟨rfl,rfl⟩
end Fr
end Go.Proofs.YtimhglmfckfclaaGreat
namespace Go.Proofs.YtimhglmfckfclaaGreat
open Go.RowKit
namespace Fr
open Vw (Sess)
def FrL (nx:List Int):Int→List Int→Prop
 | fi,[] => fi = -1
 | fi,i :: r => fi=i∧thr i=true∧FrL nx (nx.getD i.toNat 0) r
structure ArAt (a:Nat) (S:List Slt) (fr:List Int) (nw:Nat) (w:World):Prop where
 ex:∃ nx fi,ArW a S nx fi nw w∧FrL nx fi fr∧∀ i,thr i=true→i ∉ fr→nx.getD i.toNat 0 = -2
 nd:fr.Nodup
theorem FrL.thr {nx:List Int}:∀ {fr:List Int} {fi:Int},FrL nx fi fr→∀ i ∈ fr,Fr.thr i=true
 | [],_,_,i,hi => by cases hi
 | j :: r,fi,h,i,hi => by
  rcases List.mem_cons.1 hi with rfl | hi
  ·exact h.2.1
  ·exact FrL.thr h.2.2 i hi
theorem getD_set (nx:List Int) (i j:Nat) (v:Int) (hi:i<nx.length):(nx.set i v).getD j 0=if i=j then v else nx.getD j 0:=by
 rw [List.getD_eq_getElem?_getD,List.getD_eq_getElem?_getD,List.getElem?_set]
 by_cases e:i=j
 ·subst e;simp [hi]
 ·rw [if_neg e,if_neg e]
theorem FrL.set {nx:List Int} {k:Nat} (hk:k<nx.length) (v:Int):∀ {fr:List Int} {fi:Int},FrL nx fi fr→(k:Int) ∉ fr→FrL (nx.set k v) fi fr
 | [],_,h,_ => h
 | i :: r,fi,h,hn => by
  refine ⟨h.1,h.2.1,?_⟩
  have h0:=thr_iff.1 h.2.1
  rw [getD_set nx k i.toNat v hk,if_neg (fun e => hn (by simp;left;omega))]
  exact FrL.set hk v h.2.2 (fun e => hn (List.mem_cons_of_mem _ e))
section
variable {a:Nat} {S:List Slt} {fr:List Int} {nw:Nat} {w:World}
theorem ArAt.below {w':World} (h:ArAt a S fr nw w) (hb:Below w.heap.size w w'):ArAt a S fr nw w':=by
 obtain ⟨⟨nx,fi,h1,h2,h3⟩,h4⟩:=h
 exact ⟨⟨nx,fi,h1.below hb,h2,h3⟩,h4⟩
theorem ArAt.keep {w':World} (h:ArAt a S fr nw w) (e:w'.heap[a]? = w.heap[a]?):ArAt a S fr nw w':=by
 obtain ⟨⟨nx,fi,h1,h2,h3⟩,h4⟩:=h
 exact ⟨⟨nx,fi,h1.keep e,h2,h3⟩,h4⟩
theorem ArAt.lt (h:ArAt a S fr nw w):a<w.heap.size:=by obtain ⟨⟨nx,fi,h1,h2,h3⟩,h4⟩:=h;exact h1.lt
set_option maxRecDepth 100000 in
set_option maxHeartbeats 4000000 in
theorem free_ok (h:ArAt a S fr nw w) (hw:nw+1≤4611686018427387904) (i:Int) (hi:thr i=true) (hn:i ∉ fr) :
  Calls Tryz.prog 103 #[.pointer (some ⟨a,0,none⟩),.int .i64 i] w fun e w' => e = .returned .nilIface∧ArAt a (put S i bare) (i :: fr) (nw+1) w'∧Only (fun b => b=a) w w':=by
 obtain ⟨⟨nx,fi,hA,hF,hT⟩,hd⟩:=h
 obtain ⟨h0,h1⟩:=thr_iff.1 hi
 have hv:=hT i hi hn
 obtain ⟨k,rfl⟩:=Int.eq_ofNat_of_zero_le h0
 have hk:k<32:=by omega
 rw [Int.toNat_natCast] at hv
 have c5:=hA.next hk
 rw [hv] at c5
 obtain ⟨cs,hcs⟩:∃ cs,cs=bare.cells:=⟨_,rfl⟩
 have HCL:Hid (cs.length=17):=by show _=_;rw [hcs];rfl
 have HC1:Hid (∀ u ∈ cs,u.oneCell'=true):=by show ∀ _,_;rw [hcs];exact bare.one
 have HTY:=Lib.hid (fun w => there_yes (k:Int) hi w)
 have HB:=Lib.hid (bare_any w.drew)
 rw [← hcs] at HB
 obtain ⟨W,hW⟩:∃ W,W=w.drew.alloc (.cells cs.toArray 61):=⟨_,rfl⟩
 have hb:Below w.heap.size w W:=by rw [hW];exact ((Below.refl _ _).drew).alloc (Nat.le_refl _) _
 have hA1:=hA.below hb
 have HTH:Hid (W.there a (k * 17) cs.toArray.size):=by
  show W.there _ _ _
  rw [List.size_toArray,HCL.out];exact hA1.there hk
 have hA2:ArW a (put S (k:Int) bare) nx fi nw (W.setCells a (k * 17) cs):=by rw [hcs];exact hA1.put hk bare
 have hO2:Only (fun b => b=a) w (W.setCells a (k * 17) cs):=by
  have:∀ (vs:List Value) (o:Nat) (w1:World),Only (fun b => b=a) w w1→Only (fun b => b=a) w (w1.setCells a o vs):=by
   intro vs
   induction vs with
   | nil => intro o w1 h;exact h
   | cons v r ih => intro o w1 h;rw [World.setCells];exact ih _ _ (h.setCell (p:=⟨a,o,none⟩) (fun _ => rfl) v)
  exact this _ _ _ (Only.of_below hb)
 obtain ⟨W2,hW2⟩:∃ W2,W2=W.setCells a (k * 17) cs:=⟨_,rfl⟩
 rw [← hW2] at hA2 hO2
 have c1:W2.cell? ⟨a,576,none⟩=some (.int .i64 fi):=hA2.first
 have c2:W2.cell? ⟨a,544+k,none⟩=some (.int .i64 (nx.getD k 0)):=hA2.next hk
 have f1:=hA2.free 576
 have f2:=hA2.free (544+k)
 have hA4:=(hA2.setF (k:Int)).setN hk fi
 obtain ⟨W4,hW4⟩:∃ W4,W4=(W2.setCell ⟨a,576,none⟩ (.int .i64 (k:Int))).setCell ⟨a,544+k,none⟩ (.int .i64 fi):=⟨_,rfl⟩
 have hO4:Only (fun b => b=a) w W4:=by rw [hW4];exact (hO2.setCell (p:=⟨a,576,none⟩) (fun _ => rfl) _).setCell (p:=⟨a,544+k,none⟩) (fun _ => rfl) _
 rw [← hW4] at hA4
 have c3:W2.cell? ⟨a,577,none⟩=some (.int .i64 (nw:Int)):=hA2.writes
 have f3:W2.frozen? ⟨a,577,none⟩=false:=hA2.free 577
 have e1:((nw:Int)+1)=((nw+1:Nat):Int):=by omega
 have HR:Hid (∀ V:World,V.heap=(W4.setCell ⟨a,577,none⟩ (.int .i64 ((nw:Int)+1))).heap→V.os=w.os→V.tape=w.tape→V.output=w.output→ArAt a (put S (k:Int) bare) ((k:Int) :: fr) (nw+1) V∧Only (fun b => b=a) w V):=fun V hV v1 v2 v3 => by
  have hA5:ArW a (put S (k:Int) bare) (nx.set k fi) (k:Int) (nw+1) (W4.setCell ⟨a,577,none⟩ (.int .i64 ((nw:Int)+1))):=by rw [e1];exact hA4.setW (nw+1)
  have hO5:=hO4.setCell (p:=⟨a,577,none⟩) (fun _ => rfl) (.int .i64 ((nw:Int)+1))
  have hl:k<nx.length:=by rw [hA.ln];exact hk
  refine ⟨⟨⟨_,_,⟨by rw [hV];exact hA5.row,hA5.ls,hA5.ln⟩,⟨rfl,hi,?_⟩,fun j hj hjn => ?_⟩,List.nodup_cons.2 ⟨hn,hd⟩⟩,⟨v1,v2,v3,by rw [hV];exact hO5.size,fun b hb h => by rw [hV];exact hO5.block b hb h⟩⟩
  ·rw [Int.toNat_natCast,getD_set nx k k fi hl,if_pos rfl]
   exact hF.set hl fi hn
  ·have hj0:=thr_iff.1 hj
   rw [getD_set nx k j.toNat fi hl,if_neg (fun e => hjn (by simp;left;omega))]
   exact hT j hj (fun e => hjn (List.mem_cons_of_mem _ e))
 have HW2:=Lib.hid hW2;have HW4:=Lib.hid hW4;have HWW:=Lib.hid hW
 have n1:(0:Int)≤(nw:Int):=by omega
 have n2:(nw:Int)≤4611686018427387903:=by omega
 have HOS:Hid (W2.os=w.os∧W2.tape=w.tape∧W2.output=w.output):=⟨hO2.os,hO2.tape,hO2.output⟩
 clear hcs hb hA hA1 hA2 hA4 hO2 hO4 hF hT hd hn hi h0 e1 hW2 hW4 hW hv hw
 go_enter Tryz.func103,Tryz.ntmps103
 go_wp2_with (go_at_call 68;(with_reducible refine (HTY.out _).mono ?_);rintro e w' ⟨rfl,rfl⟩)
 refine wp_region_held_drew (S:=fun _ => True) (by kernel_rfl) trivial (fun _ => ?_)
 refine wpAnyH_take (i:=0) (v:=.pointer (some ⟨a,0,none⟩)) rfl (by kernel_rfl) (by kernel_rfl) (by kernel_rfl) (fun _ _ _ h => h) (Or.inl ⟨by rfl,fun w _ => by go_simp⟩) trivial ?_
 (try simp only [Act.put,q1,q2,q3,q4,q5,q6])
 refine wpAnyH_take (i:=1) (v:=.int .i64 (k:Int)) rfl (by kernel_rfl) (by kernel_rfl) (by kernel_rfl) (fun _ _ _ h => h) (Or.inl ⟨by rfl,fun w _ => by go_simp⟩) trivial ?_
 (try simp only [Act.put,q1,q2,q3,q4,q5,q6])
 refine wpAnyH_take (i:=3) (v:=.pointer (some ⟨a,0,none⟩)) rfl (by kernel_rfl) (by kernel_rfl) (by kernel_rfl) (fun _ _ _ h => h) (Or.inl ⟨by rfl,fun w _ => by go_simp⟩) trivial ?_
 (try simp only [Act.put,q1,q2,q3,q4,q5,q6])
 refine wpAnyH_take (i:=4) (v:=.pointer (some ⟨a,0,none⟩)) rfl (by kernel_rfl) (by kernel_rfl) (by kernel_rfl) (fun _ _ _ h => h) (Or.inl ⟨by rfl,fun w _ => by go_simp⟩) trivial ?_
 (try simp only [Act.put,q1,q2,q3,q4,q5,q6])
 refine wpAnyH_ready (rs:=[2]) (by kernel_rfl) (by simp) (AllReadyH.cons rfl (fun K hK => ?_) AllReadyH.nil)
 go_simp
 refine HB.out.mono ?_
 rintro e w3 ⟨rfl,hw3⟩
 rw [hw3]
 clear hw3 HB
 rw [← HWW.out]
 refine hK.out _ _ trivial (fun _ => ?_)
 clear hK K
 (try simp only [Act.put,q1,q2,q3,q4,q5,q6])
 refine wpAnyH_take (i:=5) (v:=.pointer (some ⟨a,k * 17,none⟩)) rfl (by kernel_rfl) (by kernel_rfl) (by kernel_rfl) (fun _ _ _ h => h) (Or.inl ⟨by rfl,fun w _ => by go_simp⟩) trivial ?_
 (try simp only [Act.put,q1,q2,q3,q4,q5,q6])
 refine wpAnyH_ready (rs:=[6]) (by kernel_rfl) (by simp) (AllReadyH.cons rfl (fun K hK => ?_) AllReadyH.nil)
 rw [if_pos (by rfl)]
 refine wp_store_mid 61 (.tmp 24) (.tmp 21) (by rfl) a (k * 17) cs.toArray (by rfl) (by rfl) HTH.out (by rw [List.size_toArray,HCL.out];kernel_rfl) (all_oneCell_toArray HC1.out) ?_
 rw [List.toList_toArray,← HW2.out]
 refine hK.out _ _ trivial (fun _ => ?_)
 clear hK K
 refine wpAnyH_done (by kernel_rfl) ?_ _
 (try simp only [Act.put,q1,q2,q3,q4,q5,q6])
 go_wp2_with fail
 go_region
 go_wp2_with fail
 go_ret
 exact ⟨rfl,HR.out _ (by rw [HW4.out];rfl) HOS.out.1 HOS.out.2.1 HOS.out.2.2⟩
end
end Fr
end Go.Proofs.YtimhglmfckfclaaGreat
namespace Go.Proofs.YtimhglmfckfclaaGreat
open Go.RowKit
namespace Fr
open Vw (Sess)
theorem rthere_yes (i:Int) (h:thr i=true) (w:World):Calls Tryz.prog 119 #[.int .i64 i] w fun e w' => e = .returned (.bool true)∧w=w':=by
 obtain ⟨h0,h1⟩:=thr_iff.1 h
 clear h
 go_enter Tryz.func119,Tryz.ntmps119
 go_wp2
 go_ret
 exact ⟨rfl,rfl⟩
theorem rthere_no (i:Int) (h:thr i=false) (w:World):Calls Tryz.prog 119 #[.int .i64 i] w fun e w' => e = .returned (.bool false)∧w=w':=by
 have h2:=thr_no.1 h
 clear h
 by_cases h0:0≤i
 ·have h1:32≤i:=by omega
  clear h2
  go_enter Tryz.func119,Tryz.ntmps119
  go_wp2
  go_ret
  exact ⟨by simp;omega,rfl⟩
 ·have h1:i<0:=by omega
  clear h2 h0
  go_enter Tryz.func119,Tryz.ntmps119
  go_wp2
  go_ret
  exact ⟨by simp,rfl⟩
theorem lk_prev (p n:Int) (w:World):(Instr.field 200 (.agg #[.int .i64 p,.int .i64 n]) 0).run Tryz.prog w = .ok (.int .i64 p) w:=by kernel_rfl
theorem lk_next (p n:Int) (w:World):(Instr.field 200 (.agg #[.int .i64 p,.int .i64 n]) 1).run Tryz.prog w = .ok (.int .i64 n) w:=by kernel_rfl
section
variable {a:Nat} {S:List Slt} {nx:List Int} {fi:Int} {wr:Nat}
set_option maxRecDepth 100000 in
theorem of_ok {w:World} (h:ArW a S nx fi wr w) (i:Int) (hi:thr i=true) :
  Calls Tryz.prog 121 #[.pointer (some ⟨a,0,none⟩),.int .i64 i] w fun e w' => e = .returned (.agg #[.int .i64 (sl S i).prev,.int .i64 (sl S i).next])∧Below w.heap.size w w':=by
 obtain ⟨x,hx⟩:∃ x,x=sl S i:=⟨_,rfl⟩
 obtain ⟨cs,hcs⟩:∃ cs,cs=x.cells:=⟨_,rfl⟩
 obtain ⟨W,hW⟩:∃ W,W=w.alloc (.cells #[.int .i64 0,.int .i64 0] 200):=⟨_,rfl⟩
 have hb:Below w.heap.size w W:=by rw [hW];exact (Below.refl _ _).alloc (Nat.le_refl _) _
 have hsz:w.heap.size<W.heap.size:=by rw [hW];simp
 have hg:=get_ok (h.below hb) i hi
 rw [← hx,← hcs] at hg
 have HG:=Lib.hid hg
 have HB:=Lib.hid hb
 have c0:∀ v,(W.alloc v).cell? ⟨w.heap.size,0,none⟩=some (.int .i64 0)∧(W.alloc v).cell? ⟨w.heap.size,1,none⟩=some (.int .i64 0):=fun v => by rw [hW];simp
 have HR0:Hid (W.heap[w.heap.size]? = some (.cells #[.int .i64 0,.int .i64 0] 200 (0,0))):=by show _=_;rw [hW];exact Ut.alloc_at _ _
 have HCL:Hid (cs.length=17):=by show _=_;rw [hcs];rfl
 have HC1:Hid (∀ u ∈ cs,u.oneCell'=true):=by show ∀ _,_;rw [hcs];exact x.one
 have HCS:=Lib.hid hcs
 rw [← hx]
 have hlt:=hsz
 clear hx hcs hb hg h hi c0
 go_enter Tryz.func121,Tryz.ntmps121
 go_wp2_with fail
 rw [← hW]
 clear hW
 refine HG.out.mono ?_
 rintro e w1 ⟨rfl,hb1⟩
 have r0:w1.heap[w.heap.size]? = some (.cells #[.int .i64 0,.int .i64 0] 200 (0,0)):=(hb1.block _ hlt).trans HR0.out
 have hne:w.heap.size≠w1.heap.size:=by have:=hb1.size;omega
 have r1:(w1.alloc (.cells cs.toArray 61)).heap[w.heap.size]? = some (.cells #[.int .i64 0,.int .i64 0] 200 (0,0)):=(Below.heap_alloc _ _ _ (by have:=hb1.size;omega)).trans r0
 have r2:(w1.alloc (.cells cs.toArray 61)).heap[w1.heap.size]? = some (.cells cs.toArray 61 (0,0)):=Ut.alloc_at _ _
 have d3:(w1.alloc (.cells cs.toArray 61)).cell? ⟨w1.heap.size,3,none⟩=some (.int .i64 x.prev):=by rw [cell_of_row _ _ _ _ _ _ r2,HCS.out];rfl
 have d4:(w1.alloc (.cells cs.toArray 61)).cell? ⟨w1.heap.size,4,none⟩=some (.int .i64 x.next):=by rw [cell_of_row _ _ _ _ _ _ r2,HCS.out];rfl
 obtain ⟨W2,hW2⟩:∃ W2,W2=w1.alloc (.cells cs.toArray 61):=⟨_,rfl⟩
 have hb2:Below w.heap.size w W2:=by rw [hW2];exact (HB.out.trans (hb1.mono HB.out.size)).alloc (by have:=hb1.size;omega) _
 rw [← hW2] at r1 r2 d3 d4
 have HW2:=Lib.hid hW2
 have HB2:=Lib.hid hb2
 have e0:W2.cell? ⟨w.heap.size,0,none⟩=some (.int .i64 0):=by rw [cell_of_row _ _ _ _ _ _ r1];rfl
 have e1:W2.cell? ⟨w.heap.size,1,none⟩=some (.int .i64 0):=by rw [cell_of_row _ _ _ _ _ _ r1];rfl
 have f0:W2.frozen? ⟨w.heap.size,0,none⟩=false:=by unfold World.frozen?;rw [r1];rfl
 have f1:W2.frozen? ⟨w.heap.size,1,none⟩=false:=by unfold World.frozen?;rw [r1];rfl
 have HE:Hid (((W2.setCell ⟨w.heap.size,0,none⟩ (.int .i64 x.prev)).setCell ⟨w.heap.size,1,none⟩ (.int .i64 x.next)).heap[w.heap.size]? = some (.cells #[.int .i64 x.prev,.int .i64 x.next] 200 (0,0))):=by
  show _=_
  rw [heap_setCell_same _ _ _ _ _ _ (heap_setCell_same _ _ _ _ _ _ r1)];rfl
 have HBE:Hid (Below w.heap.size w ((W2.setCell ⟨w.heap.size,0,none⟩ (.int .i64 x.prev)).setCell ⟨w.heap.size,1,none⟩ (.int .i64 x.next))):=(HB2.out.setCell (p:=⟨w.heap.size,0,none⟩) (Nat.le_refl _) _).setCell (p:=⟨w.heap.size,1,none⟩) (Nat.le_refl _) _
 clear hb1 r0 hne r1 r2 hW2 hb2
 go_upto_region 4 with (first
  | (refine Ag.wpList_store_new (by rfl) 61 (.tmp 5) (.tmp 11) (by rfl) cs (by rfl) (by rfl) (by rw [HCL.out];kernel_rfl) (by rw [HCL.out];rfl) HC1.out ?_))
 rw [← HW2.out]
 go_wp2
 refine bodyPost_ret (results_cell_row rfl _ _ w.heap.size _ #[.int .i64 x.prev,.int .i64 x.next] (0,0) _ rfl HE.out Tryz.underlying200 rfl (by kernel_rfl)) rfl ?_
 exact ⟨rfl,HBE.out⟩
set_option maxRecDepth 100000 in
theorem set_ok {w:World} (h:ArW a S nx fi wr w) (hw:wr+1≤4611686018427387904) (i p n:Int) (hi:thr i=true) :
  Calls Tryz.prog 143 #[.pointer (some ⟨a,0,none⟩),.int .i64 i,.agg #[.int .i64 p,.int .i64 n]] w fun e w' => e = .returned (.tuple #[])∧(∃ wr',wr≤wr'∧wr'≤wr+1∧ArW a (setS S i p n) nx fi wr' w')∧Only (fun b => b=a) w w':=by
 obtain ⟨x,hx⟩:∃ x,x=sl S i:=⟨_,rfl⟩
 obtain ⟨cs,hcs⟩:∃ cs,cs=x.cells:=⟨_,rfl⟩
 obtain ⟨W,hW⟩:∃ W,W=w.alloc (.cells #[.int .i64 p,.int .i64 n] 200):=⟨_,rfl⟩
 have hb:Below w.heap.size w W:=by rw [hW];exact (Below.refl _ _).alloc (Nat.le_refl _) _
 have hsz:w.heap.size<W.heap.size:=by rw [hW];simp
 have hg:=get_ok (h.below hb) i hi
 rw [← hx,← hcs] at hg
 have HG:=Lib.hid hg
 have HB:=Lib.hid hb
 have HA:=Lib.hid h
 have HR0:Hid (W.heap[w.heap.size]? = some (.cells #[.int .i64 p,.int .i64 n] 200 (0,0))):=by show _=_;rw [hW];exact Ut.alloc_at _ _
 have HCL:Hid (cs.length=17):=by show _=_;rw [hcs];rfl
 have HC1:Hid (∀ u ∈ cs,u.oneCell'=true):=by show ∀ _,_;rw [hcs];exact x.one
 have HCS:=Lib.hid hcs
 have HX:=Lib.hid hx
 have HI:=Lib.hid hi;have HWR:=Lib.hid hw
 have hlt:=hsz
 clear hx hcs hb hg h hi hw
 go_enter Tryz.func143,Tryz.ntmps143
 go_wp2_with fail
 rw [← hW]
 clear hW
 refine HG.out.mono ?_
 rintro e w1 ⟨rfl,hb1⟩
 have r0:w1.heap[w.heap.size]? = some (.cells #[.int .i64 p,.int .i64 n] 200 (0,0)):=(hb1.block _ hlt).trans HR0.out
 have r1:(w1.alloc (.cells cs.toArray 61)).heap[w.heap.size]? = some (.cells #[.int .i64 p,.int .i64 n] 200 (0,0)):=(Below.heap_alloc _ _ _ (by have:=hb1.size;omega)).trans r0
 have r2:(w1.alloc (.cells cs.toArray 61)).heap[w1.heap.size]? = some (.cells cs.toArray 61 (0,0)):=Ut.alloc_at _ _
 obtain ⟨N,hN⟩:∃ N,N=w1.heap.size:=⟨_,rfl⟩
 have hNw:w.heap.size<N:=by have:=hb1.size;omega
 obtain ⟨W2,hW2⟩:∃ W2,W2=w1.alloc (.cells cs.toArray 61):=⟨_,rfl⟩
 have hb2:Below w.heap.size w W2:=by rw [hW2];exact (HB.out.trans (hb1.mono HB.out.size)).alloc (by have:=hb1.size;omega) _
 rw [← hW2] at r1 r2
 rw [← hN] at r2
 have hA2:=HA.out.below hb2
 have HW2:=Lib.hid hW2
 have HB2:=Lib.hid hb2
 have HA2:=Lib.hid hA2
 have HN:=Lib.hid hN
 have d3:W2.cell? ⟨N,3,none⟩=some (.int .i64 x.prev):=by rw [cell_of_row _ _ _ _ _ _ r2,HCS.out];rfl
 have d4:W2.cell? ⟨N,4,none⟩=some (.int .i64 x.next):=by rw [cell_of_row _ _ _ _ _ _ r2,HCS.out];rfl
 have e0:W2.cell? ⟨w.heap.size,0,none⟩=some (.int .i64 p):=by rw [cell_of_row _ _ _ _ _ _ r1];rfl
 have e1:W2.cell? ⟨w.heap.size,1,none⟩=some (.int .i64 n):=by rw [cell_of_row _ _ _ _ _ _ r1];rfl
 have R2:=Lib.hid r2
 clear hb1 r0 r1 r2 hb2 hA2 hW2 hN
 go_upto_region 2 with (first
  | (refine Ag.wpList_store_new (by rfl) 61 (.tmp 6) (.tmp 12) (by rfl) cs (by rfl) (by rfl) (by rw [HCL.out];kernel_rfl) (by rw [HCL.out];rfl) HC1.out ?_))
 rw [← HW2.out,← HN.out]
 by_cases hc:x.prev=p∧x.next=n
 ·obtain ⟨hp,hn⟩:=hc
  have HR:Hid (setS S i p n=S):=setS_same S HA.out.ls i HI.out (by rw [← HX.out];exact hp) (by rw [← HX.out];exact hn)
  subst hp hn
  go_wp2
  go_end0
  exact ⟨rfl,⟨wr,Nat.le_refl _,by omega,by rw [HR.out];exact HA2.out⟩,Only.of_below HB2.out⟩
 ·have f3:W2.frozen? ⟨N,3,none⟩=false:=by unfold World.frozen?;rw [R2.out];rfl
  have f4:W2.frozen? ⟨N,4,none⟩=false:=by unfold World.frozen?;rw [R2.out];rfl
  obtain ⟨y,hy⟩:∃ y:Slt,y={ x with prev:=p,next:=n }:=⟨_,rfl⟩
  obtain ⟨ds,hds⟩:∃ ds,ds=y.cells:=⟨_,rfl⟩
  have r3:(((W2.setCell ⟨N,3,none⟩ (.int .i64 p)).setCell ⟨N,4,none⟩ (.int .i64 n)).drew).heap[N]? = some (.cells ds.toArray 61 (0,0)):=by
   show ((W2.setCell ⟨N,3,none⟩ (.int .i64 p)).setCell ⟨N,4,none⟩ (.int .i64 n)).heap[N]? = _
   rw [heap_setCell_same _ _ _ _ _ _ (heap_setCell_same _ _ _ _ _ _ R2.out),HCS.out,hds,hy];rfl
  have HRG:Hid ((((W2.setCell ⟨N,3,none⟩ (.int .i64 p)).setCell ⟨N,4,none⟩ (.int .i64 n)).drew).rangeAt N 0 ds):=fun j u hu => by
   rw [cell_of_row _ _ _ _ _ _ r3,Nat.zero_add];simpa using hu
  have hb3:Below w.heap.size w (((W2.setCell ⟨N,3,none⟩ (.int .i64 p)).setCell ⟨N,4,none⟩ (.int .i64 n)).drew):=((HB2.out.setCell (p:=⟨N,3,none⟩) (Nat.le_of_lt hNw) _).setCell (p:=⟨N,4,none⟩) (Nat.le_of_lt hNw) _).drew
  have HDL:Hid (ds.length=17):=by show _=_;rw [hds];rfl
  have hput:=put_ok (HA.out.below hb3) HWR.out i HI.out y
  rw [← hds] at hput
  have HP:=Lib.hid hput
  have HPS:Hid (put S i y=setS S i p n):=by show _=_;unfold setS;rw [hy,HX.out]
  have HB3:=Lib.hid hb3
  clear hds hy r3 hb3 hput
  go_wp2_with fail
  all_goals go_region
  all_goals go_wp2_with (refine wpList_load_mid (by rfl) 61 _ (by rfl) _ _ (by rfl) ds _ HRG.out Tryz.underlying61 rfl (by rw [HDL.out];kernel_rfl) ?_)
  all_goals (
   refine HP.out.mono ?_
   rintro e w5 ⟨rfl,hA5,hO5⟩
   have HR:Hid ((∃ wr',wr≤wr'∧wr'≤wr+1∧ArW a (setS S i p n) nx fi wr' w5)∧Only (fun b => b=a) w w5):=⟨⟨wr+1,by omega,Nat.le_refl _,by rw [← HPS.out];exact hA5⟩,(Only.of_below HB3.out).trans hO5 (fun _ _ h => h)⟩
   clear hA5 hO5
   go_wp2
   go_end0
   exact ⟨rfl,HR.out⟩)
end
end Fr
end Go.Proofs.YtimhglmfckfclaaGreat
namespace Go.Proofs.YtimhglmfckfclaaGreat
open Go.RowKit Go.Maps Go.Shelf
namespace Fr
open Vw (Sess)
attribute [local go_sem] Oper.semAt_some
def FromI (a bA bI:Nat) (S:List Slt) (fr:List Int) (nw:Nat) (L:List Int) (pre:List Int) (A:World):Prop :=
 pre <+: L∧pre.length<L.length∧ArAt a S fr nw A∧A.cell? ⟨bA,0,none⟩=some (.pointer (some ⟨a,0,none⟩))∧Boxed A bI 3 (.int .i64 (pre.getLastD (L.headD (-1))))
def FromStep (bI:Nat) (L:List Int) (pre:List Int) (x:Int) (A B:World):Prop :=
 L[pre.length]? = some x∧Boxed B bI 3 (.int .i64 x)∧Only (fun b => b=bI) A B
theorem from_any (a:Nat) (i:Int) (w:World):Calls Tryz.prog 120 #[.pointer (some ⟨a,0,none⟩),.int .i64 i] w fun e w' =>
  e = .returned (.func (.func 148) #[] #[.pointer (some ⟨w.heap.size+1,0,none⟩),.pointer (some ⟨w.heap.size,0,none⟩)]) ∧
  w'=(w.alloc (.cells #[.pointer (some ⟨a,0,none⟩)] 73)).alloc (.cells #[.int .i64 i] 3):=by
 go_enter Tryz.func120,Tryz.ntmps120
 go_wp2
 go_ret
 exact ⟨rfl,rfl⟩
theorem ring_next {S:List Slt} {last:Int} {L pre:List Int} {x:Int} (hR:RingAt S last L) (hp:pre <+: L) (hne:pre≠[]) (hx:L[pre.length]? = some x):(sl S (pre.getLastD (-1))).next=x:=by
 obtain ⟨t,rfl⟩:=hp
 rcases List.eq_nil_or_concat pre with rfl | ⟨p,y,rfl⟩
 ·exact absurd rfl hne
 rw [List.getElem?_append_right (Nat.le_refl _),Nat.sub_self] at hx
 cases t with
 | nil => simp at hx
 | cons z r =>
  simp only [List.getElem?_cons_zero,Option.some.injEq] at hx
  subst hx
  rcases hR with ⟨h,_⟩ | ⟨q,hq,h⟩
  ·simp at h
  ·have h2:Path S ((last :: p) ++ y :: z :: r):=by
    have e:last :: (p.concat y ++ z :: r)=(last :: p) ++ y :: z :: r:=by simp
    rwa [e] at h
   have:=path_nx h2
   simp only [List.concat_eq_append,List.getLastD_concat]
   exact this.1
set_option maxRecDepth 100000 in
set_option maxHeartbeats 4000000 in
theorem from_seq (n:Nat) (hn:6≤n) (a bA bI:Nat) (S:List Slt) (fr:List Int) (nw:Nat) (last:Int) (L:List Int) (hR:RingAt S last L) (ht:∀ x ∈ L,thr x=true) (hl:L.length≤32) (hab:a≠bI) (hbb:bA≠bI) :
  Mq.Seq Fence.wide n Tryz.prog 148 #[.pointer (some ⟨bI,0,none⟩),.pointer (some ⟨bA,0,none⟩)] encI (FromI a bA bI S fr nw L) (FromStep bI L) (fun _ _ _ => False) 31:=by
 intro l J Jx Done W hJ h0
 refine callsIn_of_wp Tryz.func148 rfl trivial ?_ rfl
 simp only [Tryz.ntmps148,List.size_toArray,List.length_cons,List.length_nil,Nat.reduceAdd,Nat.reduceSub,Array.replicate_succ,Array.replicate_zero,List.push_toArray,List.append_toArray,List.nil_append,List.cons_append]
 have HJ:=Lib.hid hJ;have HT:=Lib.hid ht;have HL:=Lib.hid hl;have HR:=Lib.hid hR
 have HNX:=Lib.hid (fun (pre:List Int) (x:Int) => ring_next (pre:=pre) (x:=x) hR)
 have h0':=(hJ [] W h0).1
 have hfirst:∃ x,L[0]? = some x:=⟨L[0]'h0'.2.1,List.getElem?_eq_getElem h0'.2.1⟩
 obtain ⟨x0,hx0⟩:=hfirst
 have hhd:L.headD (-1)=x0:=by
  cases L with
  | nil => simp at hx0
  | cons y r => simpa using hx0
 have hb0:=h0'.2.2.2.2
 simp only [List.getLastD_nil] at hb0
 rw [hhd] at hb0
 have HY0:=Lib.hid ((hJ [] W h0).2.2.1 x0 W ⟨hx0,hb0,Only.refl _ _⟩)
 have HX0:=Lib.hid hx0;have HB0:=Lib.hid hb0;have HC0:=Lib.hid h0'.2.2.2.1
 have HA0:=Lib.hid h0'.2.2.1
 clear hJ ht hl hR h0 h0' hx0 hhd hb0
 gi_wp2
 gi_loopg [4] (L.length) (fun g i wr => ∃ (pre:List Int) (x:Int),g=L.length-pre.length∧i = .int .i64 pre.length∧L[pre.length]? = some x∧wr.cell? ⟨bA,0,none⟩=some (.pointer (some ⟨a,0,none⟩))∧Boxed wr bI 3 (.int .i64 x) ∧
  YieldAt Fence.wide (n-1) Tryz.prog l (encI x) wr fun e W' => (e = .returned (.bool true)∧J (pre ++ [x]) W')∨(e = .returned (.bool false)∧Jx (pre ++ [x]) W'))
 case atStart => exact ⟨[],x0,by simp,rfl,HX0.out,HC0.out,HB0.out,HY0.out⟩
 case round =>
  obtain ⟨pre,x,rfl,rfl,hx,cA,hbI,hy⟩:=hrel
  have hlt:pre.length<L.length:=(List.getElem?_eq_some_iff.1 hx).1
  have htx:=HT.out x (List.mem_of_getElem? hx)
  obtain ⟨K,hK⟩:∃ K,K=pre.length:=⟨_,rfl⟩
  have k32:(K:Int)<32:=by have:=HL.out;omega
  have cI:=hbI.cell
  have HTX:=Lib.hid (fun w => rthere_yes x htx w)
  obtain ⟨fn,tmps,assign,body,hy1,hR⟩:=hy
  unfold encI at hy1
  have HRO:=Lib.hid hR;have HLT:=Lib.hid hlt;have HK:=Lib.hid hK;have HBI:=Lib.hid hbI
  rw [← hK]
  clear hR hlt hK hx hbI htx
  gi_wp2_with fail
  refine ⟨trivial,fun _ => by omega,(callsIn_wide.2 (HTX.out _)).mono ?_⟩
  rintro e w2 ⟨rfl,rfl⟩
  gi_wp2_with fail
  refine ⟨fun _ => by omega,HRO.out.mono ?_⟩
  rintro e W3 (⟨rfl,hJ3⟩ | ⟨rfl,hX3⟩)
  ·obtain ⟨⟨i1,i2,i3,i4,i5⟩,h31,hst,-⟩:=HJ.out (pre ++ [x]) W3 hJ3
   have hx':∃ y,L[(pre ++ [x]).length]? = some y:=⟨_,List.getElem?_eq_getElem i2⟩
   obtain ⟨y,hy'⟩:=hx'
   have hnx:=HNX.out (pre ++ [x]) y i1 (by simp) hy'
   have e5:(pre ++ [x]).getLastD (L.headD (-1))=x:=by simp
   have e6:(pre ++ [x]).getLastD (-1)=x:=by simp
   rw [e5] at i5
   rw [e6] at hnx
   have ht3:=HT.out x (i1.subset (by simp))
   have cA3:=i4
   have cI3:=i5.cell
   have hof:Calls Tryz.prog 121 #[.pointer (some ⟨a,0,none⟩),.int .i64 x] W3 fun e w' => e = .returned (.agg #[.int .i64 (sl S x).prev,.int .i64 (sl S x).next])∧Below W3.heap.size W3 w':=by
    obtain ⟨⟨nx,fi,hA,-⟩,-⟩:=i3
    exact of_ok hA x ht3
   rw [hnx] at hof
   obtain ⟨pv,hpv⟩:∃ pv,pv=(sl S x).prev:=⟨_,rfl⟩
   rw [← hpv] at hof
   have HOF:=Lib.hid hof
   have HST:=Lib.hid (fun B => hst y B)
   have HY:=Lib.hid hy';have I5:=Lib.hid i5;have I2:=Lib.hid i2;have I4:=Lib.hid i4
   have HF:=lk_next pv y
   have e7:IntKind.i64.wrap ((K:Int)+1)=((K+1:Nat):Int):=by rw [IntWalk.i64_in _ (by omega)];rfl
   clear i1 i2 i3 i4 i5 hst hy' hnx e5 e6 ht3 hof hpv hJ3 cA cI hy1
   gi_wp2_with fail
   refine ⟨trivial,fun _ => by omega,(callsIn_wide.2 HOF.out).mono ?_⟩
   rintro e W4 ⟨rfl,hb4⟩
   have hBI4:Boxed W4 bI 3 (.int .i64 x):=(hb4.block bI I5.out.lt).trans I5.out
   have c4:=hBI4.cell
   have f4:=hBI4.frozen
   have hBI5:=hBI4.set (.int .i64 y)
   have hO5:Only (fun b => b=bI) W3 (W4.setCell ⟨bI,0,none⟩ (.int .i64 y)):=(Only.of_below (F:=fun b => b=bI) hb4).setCell (p:=⟨bI,0,none⟩) (fun _ => rfl) _
   have cA5:(W4.setCell ⟨bI,0,none⟩ (.int .i64 y)).cell? ⟨bA,0,none⟩=some (.pointer (some ⟨a,0,none⟩)):=(hO5.cell (p:=⟨bA,0,none⟩) (World.block_lt_of_cell? W3 _ I4.out) (fun h => hbb h)).trans I4.out
   have HY5:=Lib.hid (HST.out (W4.setCell ⟨bI,0,none⟩ (.int .i64 y)) ⟨HY.out,hBI5,hO5⟩)
   have HB5:=Lib.hid hBI5;have HA5:=Lib.hid cA5
   clear hb4 hBI4 hBI5 hO5 cA5 cA3 cI3
   gi_wp2
   gi_roundg (L.length-(pre ++ [x]).length)
   case rel => exact ⟨pre ++ [x],y,rfl,by have:=HK.out;simp;omega,HY.out,HA5.out,HB5.out,HY5.out⟩
   case measure => have:=HLT.out;simp;omega
  ·have HU:=Lib.hid hX3
   clear hX3
   gi_wp2
   go_end0
   exact ⟨⟨_,rfl⟩,.inr ⟨_,HU.out⟩⟩
end Fr
end Go.Proofs.YtimhglmfckfclaaGreat
namespace Go.Proofs.YtimhglmfckfclaaGreat
open Go.RowKit Go.Maps Go.Shelf
namespace Fr
open Vw (Sess)
attribute [local go_sem] Oper.semAt_some
theorem FrL.head {nx:List Int}:∀ {post:List Int} {fi:Int},FrL nx fi post→fi=post.headD (-1)
 | [],_,h => h
 | i :: r,_,h => h.1
theorem FrL.behind {nx:List Int}:∀ {pre:List Int} {fi i:Int} {post:List Int},FrL nx fi (pre ++ i :: post)→nx.getD i.toNat 0=post.headD (-1)
 | [],_,_,_,h => h.2.2.head
 | _ :: t,_,_,_,h => FrL.behind (pre:=t) h.2.2
theorem nodup_len32 {L:List Int} (hd:L.Nodup) (ht:∀ x ∈ L,thr x=true):L.length≤32:=by
 have:=nodup_le (m:=ids) hd (fun x hx => mem_ids.2 (ht x hx))
 rwa [ids_len] at this
set_option maxRecDepth 100000 in
set_option maxHeartbeats 4000000 in
theorem now_seq (n:Nat) (a bx:Nat) (S:List Slt) (fr:List Int) (nw:Nat) (w:World) (h:ArAt a S fr nw w) (hbx:w.heap[bx]? = some (.cells #[.pointer (some ⟨a,0,none⟩)] 73 (0,0))) :
  Fo.SeqF Fence.wide n Tryz.prog 104 #[.pointer (some ⟨bx,0,none⟩)] encI (fun ys => ys=fr) (fun p => p <+: fr) (fun b => b=a∨b=bx) w:=by
 intro l J Jx W Fp0 hCW hFp hJ hJx hY h0
 obtain ⟨⟨nx,fi,hA,hF,-⟩,-⟩:=h
 have HC:Hid (∀ A:World,(∀ b,(b=a∨b=bx)→b<A.heap.size∧A.heap[b]? = w.heap[b]?)→ArW a S nx fi nw A∧A.cell? ⟨bx,0,none⟩=some (.pointer (some ⟨a,0,none⟩))):=fun A hA2 => by
  refine ⟨hA.keep (hA2 a (.inl rfl)).2,?_⟩
  rw [cell_of_row _ _ _ _ _ _ ((hA2 bx (.inr rfl)).2.trans hbx)];rfl
 obtain ⟨hAW,cb⟩:=HC.out W hCW
 have c1:=hAW.first
 have HF:=Lib.hid hF
 have HY:=Lib.hid hY
 have HK0:Hid (Kept (fun b => b=a∨b=bx) Fp0 w W):=fun b hb => ⟨fun hf => (hFp b hf).2 hb,hCW b hb⟩
 have H0:=Lib.hid h0
 have hhd:=hF.head
 have HHD:=Lib.hid hhd
 clear hY hCW hFp h0 hA hF hAW hJ hJx hbx hhd
 refine callsIn_of_wp Tryz.func104 rfl trivial ?_ rfl
 simp only [Tryz.ntmps104,List.size_toArray,List.length_cons,List.length_nil,Nat.reduceAdd,Nat.reduceSub,Array.replicate_succ,Array.replicate_zero,List.push_toArray,List.append_toArray,List.nil_append,List.cons_append]
 gi_wp2
 gi_loopg [3] fr.length (fun g i wr => ∃ (pre post:List Int) (Fp:Nat→Prop),fr=pre ++ post∧g=post.length∧i = .int .i64 (post.headD (-1))∧J pre Fp wr∧W.heap.size≤wr.heap.size∧Kept (fun b => b=a∨b=bx) Fp w wr)
 case atStart => exact ⟨[],fr,Fp0,rfl,rfl,by rw [HHD.out],H0.out,Nat.le_refl _,HK0.out⟩
 case round =>
  obtain ⟨pre,post,Fp,hfr,rfl,rfl,hj,hsz,hkp⟩:=hrel
  obtain ⟨hAr,cbx⟩:=HC.out wr hkp.agree
  cases post with
  | nil =>
   rw [List.append_nil] at hfr
   rw [← hfr] at hj
   clear hfr hAr
   simp only [List.headD_nil]
   gi_wp2
   go_end0
   exact ⟨⟨_,rfl⟩,.inl ⟨_,Fp,rfl,hj⟩⟩
  | cons i post =>
   simp only [List.headD_cons]
   have hFF:=HF.out
   rw [hfr] at hFF
   have ti:=thr_iff.1 (hFF.thr i (by simp))
   have hbe:=FrL.behind hFF
   obtain ⟨m,rfl⟩:=Int.eq_ofNat_of_zero_le ti.1
   have m32:(m:Int)<32:=ti.2
   have mne:((m:Int) != -1)=true:=by rw [bne_iff_ne];omega
   obtain ⟨fn,tmps,assign,body,hy,hR⟩:=HY.out pre (m:Int) Fp wr hj hsz (by
    show _ <+: _
    rw [hfr];exact ⟨post,by simp⟩)
   unfold encI at hy
   have HR:=Lib.hid hR;have HKP:=Lib.hid hkp;have HSZ:=Lib.hid hsz;have HFR:=Lib.hid hfr;have HBE:=Lib.hid hbe;have HM:=Lib.hid m32
   have HAR:=Lib.hid hAr
   clear hR hj hkp hsz hfr hFF hbe ti hAr
   gi_wp2_with fail
   refine ⟨fun h => by simp [Fence.wide] at h,HR.out.mono ?_⟩
   rintro e W3 (⟨rfl,Fp',hJ3,ho3,hn3⟩ | ⟨rfl,Fp',hJx3,-,-⟩)
   ·have HK3:=Lib.hid (HKP.out.yield ho3 hn3)
    have HS3:Hid (W.heap.size≤W3.heap.size):=Nat.le_trans HSZ.out ho3.size
    have HJ3:=Lib.hid hJ3
    obtain ⟨hA3,cb3⟩:=HC.out W3 HK3.out.agree
    have c3:=hA3.next (k:=m) (by have:=HM.out;omega)
    have hbe':=HBE.out
    rw [Int.toNat_natCast] at hbe'
    rw [hbe'] at c3
    clear hJ3 ho3 hn3 hA3 hbe' cbx
    gi_wp2
    gi_roundg post.length
    case rel => exact ⟨pre ++ [(m:Int)],post,Fp',by rw [HFR.out];simp,rfl,by simp,HJ3.out,HS3.out,HK3.out⟩
    case measure => simp
   ·have HU:=Lib.hid hJx3
    clear hJx3
    gi_wp2
    refine bodyPost_ret (results_none rfl _ _ _) rfl ?_
    exact ⟨⟨_,rfl⟩,.inr ⟨_,Fp',by rw [HFR.out];exact ⟨post,by simp⟩,HU.out⟩⟩
theorem now_any (a:Nat) (w:World):Calls Tryz.prog 58 #[.pointer (some ⟨a,0,none⟩)] w fun e w' => e = .returned (.func (.func 104) #[] #[.pointer (some ⟨w.heap.size,0,none⟩)])∧w'=w.alloc (.cells #[.pointer (some ⟨a,0,none⟩)] 73):=by
 go_enter Tryz.func58,Tryz.ntmps58
 go_wp2
 go_ret
 exact ⟨rfl,rfl⟩
end Fr
end Go.Proofs.YtimhglmfckfclaaGreat
