/- Parts of the proof. -/
import Derived.Test.YtimhglmfckfclaaGreatM36
set_option linter.unusedVariables false
set_option linter.unusedSimpArgs false
set_option maxRecDepth 100000
set_option maxHeartbeats 16000000
namespace Go.Proofs.YtimhglmfckfclaaGreat
section
open Go.RowKit Go.Maps
namespace Fr
structure GR (t e:TypeId) (size:Nat) (cs:Value->Array Value) (B D:Nat) (w:World) (d:Value) (n:Nat) (xs:List Value) (Fp:Nat->Prop) (A:World):Prop where
 row:A.heap[B]? = some (.cells (cs d) t (0,0))
 r1:A.ownsRow D e size d n xs
 fp:∀ b,Fp b↔b=B\/d.ownBlock=some b
 lt:B<D
 bel:Below B w A
section
variable {t e:TypeId} {size:Nat} {cs:Value->Array Value} {B D n m:Nat} {w A A' w1:World} {d v:Value} {xs ys:List Value} {Fp F:Nat->Prop}
theorem GR.blt (h:GR t e size cs B D w d n xs Fp A):B<A.heap.size:=(zx h.row)
theorem GR.cell (h:GR t e size cs B D w d n xs Fp A) (k:Nat):A.cell? ⟨B,k,none⟩=(cs d)[k]?:=zc h.row
theorem GR.far (h:GR t e size cs B D w d n xs Fp A) {b:Nat} (hb:Fp b):B<=b:=by
 rcases (h.fp b).1 hb with h1 | h1
 ·omega
 ·have:=(h.r1.lt b h1).1;have:=h.lt;omega
theorem GR.turn {row:Option Nat} (h:GR t e size cs B D w d n xs Fp A) (hg:A.grownBy A' row) (hrow:∀ r,row=some r->B<r/\¬ Fp r):GR t e size cs B D w d n xs Fp A' :=
 ⟨(hg.block _ h.blt (fun e2 => by have:=(hrow _ e2.symm).1;omega)).trans h.row,own_stay h.r1 (fun b e2 => hg.block b (h.r1.lt b e2).2 (fun e3 => (hrow b e3.symm).2 ((h.fp b).2 (.inr e2)))),h.fp,h.lt,h.bel.grown hg (Nat.le_of_lt h.blt) (fun k e2 => Nat.le_of_lt (hrow k e2).1)⟩
theorem GR.start (w:World):GR t e size cs w.heap.size (w.heap.size+1) w (.slice none 0 0) 0 [] (fun b => b=w.heap.size) (w.alloc (.cells (cs (.slice none 0 0)) t)) :=
 ⟨World.alloc_heap_new w _,World.ownsRow_nil _ _ _ _,fun b => ⟨.inl,fun h => h.elim id (fun h => by cases h)⟩,Nat.lt_succ_self _,(Below.refl _ _).alloc (Nat.le_refl _) _⟩
theorem GR.other (h:GR t e size cs B D w d n xs Fp A) (ho:Only F A A') (hF:∀ b,F b->B<b/\¬ Fp b):GR t e size cs B D w d n xs Fp A' :=
 ⟨(ho.block _ h.blt (fun hf => by have:=(hF _ hf).1;omega)).trans h.row,own_stay h.r1 (fun b e => ho.block b (h.r1.lt b e).2 (fun hf => (hF b hf).2 ((h.fp b).2 (.inr e)))),h.fp,h.lt,h.bel.trans (ho.below (Nat.le_of_lt h.blt) (fun i hi hf => by have:=(hF i hf).1;omega))⟩
theorem GR.after (h:GR t e size cs B D w d n xs Fp A) (hb:Below A.heap.size A A'):GR t e size cs B D w d n xs Fp A' :=
 h.other (Only.of_below (F:=fun _ => False) hb) (fun _ h => h.elim)
theorem GR.push {o1:Obj} (h:GR t e size cs B D w d n xs Fp A) (j:Nat) (hcs:(cs d).setIfInBounds j v=cs v)
  (hown':w1.ownsRow D e size v m ys) (hgrow:(A.alloc o1).grownBy w1 d.ownBlock) (hat:v.ownBlock=d.ownBlock\/v.ownBlock=some (A.alloc o1).heap.size) :
  w1.heap[B]? = some (.cells (cs d) t (0,0))/\Below B w w1/\∃ Fp',GR t e size cs B D w v m ys Fp' (w1.setCell ⟨B,j,none⟩ v)/\Only Fp A (w1.setCell ⟨B,j,none⟩ v)/\∀ b,Fp' b->Fp b\/A.heap.size<=b:=by
 have hlt:=h.blt
 have hnb:∀ b,d.ownBlock=some b->D<=b:=fun b e => (h.r1.lt b e).1
 have ho:Only Fp A w1:=((Only.refl _ A).alloc o1).grown hgrow (fun k hk e => (h.fp k).2 (.inr e))
 have hb1:w1.heap[B]? = some (.cells (cs d) t (0,0)):=(hgrow.block B (by rw [World.size_alloc];omega) (fun e2 => by have:=hnb _ e2.symm;have:=h.lt;omega)).trans ((Below.heap_alloc _ _ _ hlt).trans h.row)
 have hB:Fp B:=(h.fp B).2 (.inl rfl)
 have ho2:Only Fp A (w1.setCell ⟨B,j,none⟩ v):=ho.setCell (p:=⟨B,j,none⟩) (fun _ => hB) _
 refine ⟨hb1,(h.bel.alloc (Nat.le_of_lt hlt) o1).grown hgrow (by simp;omega) (fun k e2 => by have:=hnb k e2;have:=h.lt;omega),fun b => b=B\/v.ownBlock=some b,⟨?_,own_stay hown' (fun b e2 => Below.heap_setCell _ _ _ _ ?_),fun b => Iff.rfl,h.lt,h.bel.trans (ho2.below (Nat.le_of_lt hlt) (fun i hi hf => by have:=h.far hf;omega))⟩,ho2,?_⟩
 ·rw [heap_setCell_same _ _ _ _ _ _ hb1,hcs]
 ·have:=(hown'.lt b e2).1
  have:=h.lt
  show b≠B
  omega
 ·rintro b (h6 | h6)
  ·exact .inl ((h.fp b).2 (.inl h6))
  ·rcases hat with h7 | h7
   ·exact .inl ((h.fp b).2 (.inr (h7.symm.trans h6)))
   ·have e2:b=(A.alloc o1).heap.size:=Option.some.inj (h6.symm.trans h7)
    exact .inr (by rw [e2];simp)
end
theorem only_normal {c:Code} {K:Act->World->Prop} {Q:Exit->Act->World->Prop} {a:Act} {w:World} (h:c.wp Tryz.prog (Exit.then K fun _ _ _ => False) a w):c.wp Tryz.prog (Exit.then K Q) a w :=
 Code.wp_mono (fun e a w h => by cases e <;> first | exact h | exact h.elim) h
end Fr
end
section
open Go.RowKit Go.Maps Go.Shelf
namespace Fr
open Vw (Sess)
open Ex (Ent wo ExpAt)
attribute [local go_sem] Oper.semAt_some
theorem finfo_sess:(Tryz.prog.info? 35).map (fun i => (i.zero,i.size,i.bytes))=some (some (.agg #[.int .i64 0,.int .i64 0,.int .i64 0,.int .i64 0,.int .i64 0,.string ByteArray.empty,.string ByteArray.empty,.int .u64 0,.int .i64 0,.int .i64 0,.int .i64 0,.int .i64 0]),12,112):=by kernel_rfl
structure GS (t:TypeId) (B D:Nat) (w:World) (d:Value) (ls:List Sess) (Fp:Nat->Prop) (A:World):Prop where
 b1:Boxed A B t d
 r1:A.ownsRow D 35 12 d ls.length (allC ls)
 fp:∀ b,Fp b↔b=B\/d.ownBlock=some b
 lt:B<D
 bel:Below B w A
theorem GS.far {t:TypeId} {B D:Nat} {w A:World} {d:Value} {ls:List Sess} {Fp:Nat->Prop} (h:GS t B D w d ls Fp A) {b:Nat} (hb:Fp b):B<=b:=by
 rcases (h.fp b).1 hb with h1 | h1
 ·omega
 ·have:=(h.r1.lt b h1).1;have:=h.lt;omega
theorem GS.turn {t:TypeId} {B D:Nat} {w A A':World} {d:Value} {ls:List Sess} {Fp:Nat->Prop} {row:Option Nat} (h:GS t B D w d ls Fp A) (hg:A.grownBy A' row) (hrow:∀ r,row=some r->B<r/\¬ Fp r):GS t B D w d ls Fp A' :=
 ⟨h.b1.kept hg (fun e => by have:=(hrow _ e.symm).1;omega),own_stay h.r1 (fun b e => hg.block b (h.r1.lt b e).2 (fun e2 => (hrow b e2.symm).2 ((h.fp b).2 (.inr e)))),h.fp,h.lt,h.bel.grown hg (Nat.le_of_lt h.b1.lt) (fun k e => Nat.le_of_lt (hrow k e).1)⟩
theorem GS.start {t:TypeId} (w:World):GS t w.heap.size (w.heap.size+1) w (.slice none 0 0) [] (fun b => b=w.heap.size) (w.alloc (.cells #[.slice none 0 0] t)) :=
 ⟨Boxed.new w t _,World.ownsRow_nil _ _ _ _,fun b => ⟨.inl,fun h => h.elim id (fun h => by cases h)⟩,Nat.lt_succ_self _,(Below.refl _ _).alloc (Nat.le_refl _) _⟩
theorem GS.push {t:TypeId} {B D:Nat} {w A w1:World} {d v:Value} {ls:List Sess} {x:Sess} {Fp:Nat->Prop} {o1:Obj} (h:GS t B D w d ls Fp A)
  (hown':w1.ownsRow D 35 12 v (ls.length+1) (allC ls ++ x.cells)) (hgrow:(A.alloc o1).grownBy w1 d.ownBlock) (hat:v.ownBlock=d.ownBlock\/v.ownBlock=some (A.alloc o1).heap.size) :
  Boxed w1 B t d/\Below B w w1/\∃ Fp',GS t B D w v (ls ++ [x]) Fp' (w1.setCell ⟨B,0,none⟩ v)/\Only Fp A (w1.setCell ⟨B,0,none⟩ v)/\∀ b,Fp' b->Fp b\/A.heap.size<=b:=by
 obtain ⟨h1,h2,h3,h4,h5⟩:=push_in_box h.b1 h.lt h.r1 hown' hgrow hat
 have ho:Only Fp A (w1.setCell ⟨B,0,none⟩ v):=h4.mono (fun i _ hi => (h.fp i).2 hi)
 refine ⟨h1,(h.bel.alloc (Nat.le_of_lt h.b1.lt) o1).grown hgrow (by have:=h.b1.lt;simp;omega) (fun k e => by have:=(h.r1.lt k e).1;have:=h.lt;omega),fun b => b=B\/v.ownBlock=some b,⟨h2,?_,fun b => Iff.rfl,h.lt,h.bel.trans (ho.below (Nat.le_of_lt h.b1.lt) (fun i hi hf => by have:=h.far hf;omega))⟩,ho,?_⟩
 ·rw [List.length_append,allC_snoc];exact h3
 ·rintro b (h6 | h6)
  ·exact .inl ((h.fp b).2 (.inl h6))
  ·exact (h5 b h6).imp (fun h7 => (h.fp b).2 (.inr h7)) id
theorem GS.other {t:TypeId} {B D:Nat} {w A A':World} {d:Value} {ls:List Sess} {Fp F:Nat->Prop} (h:GS t B D w d ls Fp A) (ho:Only F A A') (hF:∀ b,F b->B<b/\¬ Fp b):GS t B D w d ls Fp A' :=
 ⟨(ho.block _ h.b1.lt (fun hf => by have:=(hF _ hf).1;omega)).trans h.b1,own_stay h.r1 (fun b e => ho.block b (h.r1.lt b e).2 (fun hf => (hF b hf).2 ((h.fp b).2 (.inr e)))),h.fp,h.lt,h.bel.trans (ho.below (Nat.le_of_lt h.b1.lt) (fun i hi hf => by have:=(hF i hf).1;omega))⟩
theorem GS.after {t:TypeId} {B D:Nat} {w A A':World} {d:Value} {ls:List Sess} {Fp:Nat->Prop} (h:GS t B D w d ls Fp A) (hb:Below A.heap.size A A'):GS t B D w d ls Fp A' :=
 h.other (Only.of_below (F:=fun _ => False) hb) (fun _ h => h.elim)
def FUndPost (L:List Sess) (w:World) (e:Ending) (w':World):Prop:=(∃ bx v,e = .returned (.func (.func 83) #[] #[.pointer (some ⟨bx,0,none⟩)])/\w.heap.size<=bx/\Boxed w' bx 62 v/\w'.ownsRow w.heap.size 35 12 v L.length (allC L))/\Below w.heap.size w w'
section
variable {lo:Nat} {P:Pa} {st st1 st2:FS} {nw c d:Nat} {Fe:Nat->Prop} {w w' w'':World}
theorem und_end {B:Nat} {t:TypeId} {W:World} {v:Value} {L:List Sess} {w A:World} {Fp:Nat->Prop} (h:GS t B (B+1) W v L Fp A) (hw:w.heap.size<=B) (hb:Below w.heap.size w W) (o:Obj) (t2:TypeId) (ho:o = .cells #[v] t2) :
  Boxed (A.alloc o) A.heap.size t2 v/\(A.alloc o).ownsRow w.heap.size 35 12 v L.length (allC L)/\Below w.heap.size w (A.alloc o)/\w.heap.size<=A.heap.size:=by
 have h1:w.heap.size<=A.heap.size:=by have:=h.b1.lt;omega
 subst ho
 exact ⟨Boxed.new _ _ _,own_down (own_stay h.r1 (fun b e => Below.heap_alloc _ _ _ (h.r1.lt b e).2)) (by omega),(hb.trans (h.bel.mono hw)).alloc h1 _,h1⟩
theorem funder_no (h:ForAt lo P st nw Fe w) (us ub:Int) (hl:lives st.S us ub=false) :
  Calls Tryz.prog 24 #[.pointer (some ⟨P.f,0,none⟩),.agg #[.int .i64 us,.int .i64 ub]] w (FUndPost (underF st us ub) w):=by
 have hund:underF st us ub=[]:=by unfold underF;rw [hl];rfl
 rw [hund]
 obtain ⟨W2,hW2⟩:∃ W2,W2=(w.alloc (.cells #[.pointer (some ⟨P.f,0,none⟩)] 24)).alloc (.cells #[.int .i64 us,.int .i64 ub] 28):=⟨_,rfl⟩
 have hs2:W2.heap.size=w.heap.size+2:=by rw [hW2,World.size_alloc,World.size_alloc]
 have hb2:Below w.heap.size w W2:=by rw [hW2];exact ((Below.refl _ _).alloc (Nat.le_refl _) _).alloc (by simp) _
 have hx0:Boxed W2 w.heap.size 24 (.pointer (some ⟨P.f,0,none⟩)):=by rw [hW2];exact (Boxed.new _ _ _).alloc _
 have hx1:W2.heap[w.heap.size+1]? = some (.cells #[.int .i64 us,.int .i64 ub] 28 (0,0)):=by
  have:=World.alloc_heap_new (w.alloc (.cells #[.pointer (some ⟨P.f,0,none⟩)] 24)) (.cells #[.int .i64 us,.int .i64 ub] 28)
  rw [World.size_alloc] at this
  rw [hW2];exact this
 obtain ⟨W3,hW3⟩:∃ W3,W3=W2.alloc (.cells #[.slice none 0 0] 62):=⟨_,rfl⟩
 have hu3:GS 62 (w.heap.size+2) (w.heap.size+3) W2 (.slice none 0 0) [] (fun b => b=w.heap.size+2) W3:=by
  have:=GS.start (t:=62) W2
  rw [hs2] at this
  rw [hW3];exact this
 have hs3:W3.heap.size=w.heap.size+3:=by rw [hW3,World.size_alloc,hs2]
 have hb23:Below W2.heap.size W2 W3:=by rw [hW3];exact (Below.refl _ _).alloc (Nat.le_refl _) _
 have hb3:Below w.heap.size w W3:=hb2.trans (hb23.mono (by omega))
 have HSES:=zh (fsession (h.below hb3) us ub)
 have HSK:Hid (∀ W',Below W3.heap.size W3 W'->W'.cell? ⟨w.heap.size,0,none⟩=some (.pointer (some ⟨P.f,0,none⟩))/\W'.cell? ⟨P.f,3,none⟩=some (.pointer (some ⟨P.t,0,none⟩))/\W'.cell? ⟨w.heap.size+1,0,none⟩=some (.int .i64 us)):=fun W' hb => by
  have hb4:Below W2.heap.size W2 W':=hb23.trans (hb.mono hb23.size)
  exact ⟨Boxed.cell (t:=24) ((hb4.block _ hx0.lt).trans hx0),(h.below (hb3.trans (hb.mono hb3.size))).ptrs.2.1,by rw [zc ((hb4.block _ (zx hx1)).trans hx1)];rfl⟩
 have HW3:Hid (W3=((w.alloc (.cells #[.pointer (some ⟨P.f,0,none⟩)] 24)).alloc (.cells #[.int .i64 us,.int .i64 ub] 28)).alloc (.cells #[.slice none 0 0] 62)):=by show _=_;rw [hW3,hW2]
 have HU3:=zh hu3;have HS2:=zh hs2;have HS3:=zh hs3;have HB2:=zh hb2;have HB3:=zh hb3
 obtain ⟨cs,hcs⟩:∃ cs,cs=(sessionF st us ub).1.cells:=⟨_,rfl⟩
 have HCL:Hid (cs.length=12):=by show _=_;rw [hcs];rfl
 have HC1:Hid (∀ u ∈ cs,u.oneCell'=true):=by show ∀ _,_;rw [hcs];exact sess_one' _
 obtain ⟨no,hno⟩:∃ no,no=(sessionF st us ub).2:=⟨_,rfl⟩
 rw [<- hcs,<- hno] at HSES
 have hev:erV no = .iface 83 (.int .i64 16):=by
  rw [hno];unfold sessionF;rw [hl];rfl
 rw [hev] at HSES
 clear h hl hund hW2 hs2 hb2 hx0 hx1 hW3 hu3 hs3 hb23 hb3 hcs hno hev
 go_enter Tryz.func24,Tryz.ntmps24
 go_wp2_with fail
 rw [<- HW3.out]
 refine HSES.out.mono ?_
 rintro e w4 ⟨rfl,hb4⟩
 obtain ⟨W5,hW5⟩:∃ W5,W5=w4.alloc (.cells cs.toArray 35):=⟨_,rfl⟩
 have hb5:Below W3.heap.size W3 W5:=by rw [hW5];exact hb4.alloc hb4.size _
 have hu5:=HU3.out.after hb5
 have c5:=hu5.b1.cell
 have HU5:=zh hu5;have HW5:=zh hW5
 clear hb4 hb5 hu5 hW5
 go_upto_region 3 with (first
  | (refine Ag.wpList_store_new (by rfl) 35 (.tmp 6) (.tmp 15) (by rfl) cs (by rfl) (by rfl) (by rw [HCL.out];kernel_rfl) (by rw [HCL.out];rfl) HC1.out ?_))
 rw [<- HW5.out]
 have HV:=zh (values_any none 0 0 W5)
 go_wp2_with fail
 refine HV.out.mono ?_
 rintro e w6 ⟨rfl,h6⟩
 obtain ⟨k1,k2,k3,k4⟩:=und_end HU5.out (by omega) HB2.out _ 62 rfl
 rw [<- h6] at k1 k2 k3
 have HK:=zh (And.intro k1 (And.intro k2 (And.intro k3 k4)))
 clear h6 k1 k2 k3 k4
 go_wp2
 go_ret
 exact ⟨⟨_,_,rfl,HK.out.2.2.2,HK.out.1,HK.out.2.1⟩,HK.out.2.2.1⟩
end
end Fr
end
section
open Go.RowKit Go.Maps Go.Shelf
namespace Fr
open Vw (Sess)
open Ex (Ent wo ExpAt)
attribute [local go_sem] Oper.semAt_some
section
variable {lo:Nat} {P:Pa} {st st1 st2:FS} {nw c d:Nat} {Fe:Nat->Prop} {w w' w'':World}
theorem funder_yes (h:ForAt lo P st nw Fe w) (us ub:Int) (hl:lives st.S us ub=true) {K:Int->List Int} {G:Int->Prop} {d:Int->Nat} (hB:BelOk st.S K G d) (hG:G us) (hd:d us<=33) :
  Calls Tryz.prog 24 #[.pointer (some ⟨P.f,0,none⟩),.agg #[.int .i64 us,.int .i64 ub]] w (FUndPost (underF st us ub) w):=by
 have hund:underF st us ub=(underI st.S us).map fun i => (sl st.S i).s:=by unfold underF;rw [if_pos hl]
 rw [hund]
 obtain ⟨L,hL⟩:∃ L,L=underI st.S us:=⟨_,rfl⟩
 have hnd:SlotsNd L:=by
  rw [hL];unfold underI;rw [if_pos (hB.th us hG)]
  exact hB.slots 33 us [] hG ⟨List.nodup_nil,fun _ h => by cases h⟩
 rw [<- hL]
 obtain ⟨W2,hW2⟩:∃ W2,W2=(w.alloc (.cells #[.pointer (some ⟨P.f,0,none⟩)] 24)).alloc (.cells #[.int .i64 us,.int .i64 ub] 28):=⟨_,rfl⟩
 have hs2:W2.heap.size=w.heap.size+2:=by rw [hW2,World.size_alloc,World.size_alloc]
 have hb2:Below w.heap.size w W2:=by rw [hW2];exact ((Below.refl _ _).alloc (Nat.le_refl _) _).alloc (by simp) _
 have hx0:Boxed W2 w.heap.size 24 (.pointer (some ⟨P.f,0,none⟩)):=by rw [hW2];exact (Boxed.new _ _ _).alloc _
 have hx1:W2.heap[w.heap.size+1]? = some (.cells #[.int .i64 us,.int .i64 ub] 28 (0,0)):=by
  have:=World.alloc_heap_new (w.alloc (.cells #[.pointer (some ⟨P.f,0,none⟩)] 24)) (.cells #[.int .i64 us,.int .i64 ub] 28)
  rw [World.size_alloc] at this
  rw [hW2];exact this
 obtain ⟨W3,hW3⟩:∃ W3,W3=W2.alloc (.cells #[.slice none 0 0] 62):=⟨_,rfl⟩
 have hu3:GS 62 (w.heap.size+2) (w.heap.size+3) W2 (.slice none 0 0) [] (fun b => b=w.heap.size+2) W3:=by
  have:=GS.start (t:=62) W2
  rw [hs2] at this
  rw [hW3];exact this
 have hs3:W3.heap.size=w.heap.size+3:=by rw [hW3,World.size_alloc,hs2]
 have hb23:Below W2.heap.size W2 W3:=by rw [hW3];exact (Below.refl _ _).alloc (Nat.le_refl _) _
 have hb3:Below w.heap.size w W3:=hb2.trans (hb23.mono (by omega))
 have HSES:=zh (fsession (h.below hb3) us ub)
 have HSK:Hid (∀ W',Below W3.heap.size W3 W'->W'.cell? ⟨w.heap.size,0,none⟩=some (.pointer (some ⟨P.f,0,none⟩))/\W'.cell? ⟨P.f,3,none⟩=some (.pointer (some ⟨P.t,0,none⟩))/\W'.cell? ⟨w.heap.size+1,0,none⟩=some (.int .i64 us)):=fun W' hb => by
  have hb4:Below W2.heap.size W2 W':=hb23.trans (hb.mono hb23.size)
  exact ⟨Boxed.cell (t:=24) ((hb4.block _ hx0.lt).trans hx0),(h.below (hb3.trans (hb.mono hb3.size))).ptrs.2.1,by rw [zc ((hb4.block _ (zx hx1)).trans hx1)];rfl⟩
 have HW3:Hid (W3=((w.alloc (.cells #[.pointer (some ⟨P.f,0,none⟩)] 24)).alloc (.cells #[.int .i64 us,.int .i64 ub] 28)).alloc (.cells #[.slice none 0 0] 62)):=by show _=_;rw [hW3,hW2]
 have HU3:=zh hu3;have HS2:=zh hs2;have HS3:=zh hs3;have HB2:=zh hb2;have HB3:=zh hb3
 obtain ⟨cs,hcs⟩:∃ cs,cs=(sessionF st us ub).1.cells:=⟨_,rfl⟩
 have HCL:Hid (cs.length=12):=by show _=_;rw [hcs];rfl
 have HC1:Hid (∀ u ∈ cs,u.oneCell'=true):=by show ∀ _,_;rw [hcs];exact sess_one' _
 obtain ⟨no,hno⟩:∃ no,no=(sessionF st us ub).2:=⟨_,rfl⟩
 rw [<- hcs,<- hno] at HSES
 have hev:erV no = .nilIface:=by
  rw [hno];unfold sessionF;rw [hl];rfl
 rw [hev] at HSES
 have HUND:Hid (∀ W,Below w.heap.size w W->Calls Tryz.prog 50 #[.pointer (some ⟨P.t,0,none⟩),.int .i64 us] W (UndPost L W)):=fun W hb => by
  rw [hL];exact under_any hB (h.below hb).tr (h.below hb).ar us hG hd
 have HH:=zh h;have HND:=zh hnd
 obtain ⟨i0,hi,hz0,hz1,hz2⟩:=info_parts finfo_sess
 have HX0:Hid (∀ A,Below W2.heap.size W2 A->A.cell? ⟨w.heap.size,0,none⟩=some (.pointer (some ⟨P.f,0,none⟩))):=fun A hb => Boxed.cell (t:=24) ((hb.block _ hx0.lt).trans hx0)
 clear h hl hund hL hnd hB hG hd hW2 hs2 hb2 hx0 hx1 hW3 hu3 hs3 hb23 hb3 hcs hno hev
 refine (callsIn_wide (n:=9)).1 ?_
 refine callsIn_of_wp_marks Tryz.func24 rfl trivial ?_ rfl
 simp only [Tryz.ntmps24,List.size_toArray,List.length_cons,List.length_nil,Nat.reduceAdd,Nat.reduceSub,Array.replicate_succ,Array.replicate_zero,List.push_toArray,List.append_toArray,List.nil_append,List.cons_append]
 refine wpIn_wide.2 ?_
 go_wp2_with fail
 rw [<- HW3.out,show w.heap.size+1+1=w.heap.size+2 from rfl]
 refine HSES.out.mono ?_
 rintro e w4 ⟨rfl,hb4⟩
 obtain ⟨W5,hW5⟩:∃ W5,W5=w4.alloc (.cells cs.toArray 35):=⟨_,rfl⟩
 have hb5:Below W3.heap.size W3 W5:=by rw [hW5];exact hb4.alloc hb4.size _
 have HW5:=zh hW5;have HB5:=zh hb5
 clear hb4 hb5 hW5
 go_upto_region 4 with (first
  | (refine Ag.wpList_store_new (by rfl) 35 (.tmp 6) (.tmp 15) (by rfl) cs (by rfl) (by rfl) (by rw [HCL.out];kernel_rfl) (by rw [HCL.out];rfl) HC1.out ?_))
 rw [<- HW5.out]
 have hbk:Below W3.heap.size W3 W5.drew:=HB5.out.drew
 refine only_normal ?_
 refine wp_region_held_drew (S:=fun W' => W'.cell? ⟨w.heap.size,0,none⟩=some (.pointer (some ⟨P.f,0,none⟩))/\W'.cell? ⟨P.f,3,none⟩=some (.pointer (some ⟨P.t,0,none⟩))/\W'.cell? ⟨w.heap.size+1,0,none⟩=some (.int .i64 us)) (by kernel_rfl) (HSK.out _ hbk) (fun _ => ?_)
 refine tq 0 rfl (.pointer (some ⟨P.f,0,none⟩)) (HSK.out _ hbk) ?_
 try simp only [zq]
 refine tq 1 rfl (.pointer (some ⟨P.f,0,none⟩)) (HSK.out _ hbk) ?_
 try simp only [zq]
 refine tq 2 rfl (.pointer (some ⟨P.f,3,none⟩)) (HSK.out _ hbk) ?_
 try simp only [zq]
 refine tq 3 rfl (.pointer (some ⟨P.t,0,none⟩)) (HSK.out _ hbk) ?_
 try simp only [zq]
 refine tq 4 rfl (.pointer (some ⟨w.heap.size+1,0,none⟩)) (HSK.out _ hbk) ?_
 try simp only [zq]
 refine tq 5 rfl (.int .i64 us) (HSK.out _ hbk) ?_
 try simp only [zq]
 refine zr 6 rfl (fun K hK => ?_)
 go_simp
 refine (HUND.out _ (HB3.out.trans (hbk.mono HB3.out.size))).mono ?_
 rintro e w6 ⟨⟨bx,v,rfl,k1,k2,k3⟩,hb6⟩
 replace k1:W5.heap.size<=bx:=k1
 have HB6:Hid (Below W3.heap.size W3 w6):=hbk.trans (hb6.mono hbk.size)
 clear hb6
 refine hK.out _ _ (HSK.out _ HB6.out) (fun _ => ?_)
 clear hK K
 try simp only [zq]
 refine wpAnyH_done (by kernel_rfl) ?_ _
 try simp only [zq]
 obtain ⟨bx',hbx'⟩:∃ bx',bx'=bx:=⟨_,rfl⟩
 have hu6:=HU3.out.after HB6.out
 have HU6:=zh hu6
 have HBX:=zh (And.intro k1 k2.lt)
 have HUX:=zh (fun b (e:v.ownBlock=some b) => k3.lt b e)
 have HSEQ:=zh (und_seq 8 bx v L (by have:=HND.out.len;omega) (fun b => b=bx\/v.ownBlock=some b) w6 (gathered k2 k3))
 clear k1 k2 k3 hu6 hbk hbx'
 go_wp2_with fail
 refine (wpIn_wide (n:=9)).1 ?_
 refine Fo.range_foot_sl (F:=Fence.wide) (n:=9) rfl (by omega) (gf:=82) (lb:=#[.pointer (some ⟨bx,0,none⟩)]) rfl trivial (enters_of Tryz.func82 (by kernel_rfl) rfl)
  HSEQ.out (fun _ => rfl) (fun b hb => ⟨by rcases hb with rfl | hb;exact HBX.out.2;exact (HUX.out b hb).2,rfl⟩)
  (fun pre Fp A => ∃ d,GS 62 (w.heap.size+2) (w.heap.size+3) W2 d (pre.map fun i => (sl st.S i).s) Fp A) (fun c pre Fp A => False)
  (fun b => b=w.heap.size+2)
  (fun b hb => ⟨by have h1:=HBX.out;have h2:=HS3.out;have h3:=HB5.out.size;omega,fun h => by
   have h1:=HBX.out;have h2:=HS3.out;have h3:=HB5.out.size
   rcases h with h | h
   ·omega
   ·have:=(HUX.out _ h).1;omega⟩)
  ?hU (fun _ _ _ _ _ _ h _ _ _ => h) ⟨_,HU6.out⟩ (fun T x => (T.setIfInBounds 26 (.int .i64 x)).setIfInBounds 8 (.int .i64 x)) ?assign ?body ?done (fun _ _ _ _ _ _ _ h _ _ => h.elim)
 case hU =>
  rintro pre Fp A A' row ⟨d,h1⟩ hsz hg hrow
  exact ⟨d,h1.turn hg (fun r e => ⟨by have:=(hrow r e).1;have h1:=HBX.out;have h2:=HS3.out;have h3:=HB5.out.size;omega,(hrow r e).2⟩)⟩
 case assign =>
  intro l2 x A K2 hK
  unfold encI
  gi_wp2
  exact hK
 case body =>
  rintro l2 pre x Fp A ⟨d,hu⟩ hszA hpre
  have hlen:pre.length+1<=32:=by
   have h1:=hpre.length_le
   simp only [List.length_append,List.length_singleton] at h1
   exact Nat.le_trans h1 HND.out.len
  have hx:thr x=true:=HND.out.2 x (hpre.subset (by simp))
  have hbA:Below w.heap.size w A:=HB2.out.trans (hu.bel.mono (by omega))
  have hfA:=HH.out.below hbA
  have HG:=zh (fget hfA x hx)
  have cF:=HX0.out A (by rw [HS2.out];exact hu.bel)
  have cA:=hfA.ptrs.1
  obtain ⟨sx,hsx⟩:∃ sx,sx=sl st.S x:=⟨_,rfl⟩
  obtain ⟨zs,hzs⟩:∃ zs,zs=sx.cells:=⟨_,rfl⟩
  have HZL:Hid (zs.length=17):=by show _=_;rw [hzs];rfl
  have HZ1:Hid (∀ u ∈ zs,u.oneCell'=true):=by show ∀ _,_;rw [hzs];exact sx.one
  rw [<- hsx,<- hzs] at HG
  obtain ⟨ls,hls⟩:∃ ls,ls=pre.map fun i => (sl st.S i).s:=⟨_,rfl⟩
  have hlen2:ls.length+1<=32:=by rw [hls,List.length_map];exact hlen
  have HLS:Hid ((pre ++ [x]).map (fun i => (sl st.S i).s)=ls ++ [sx.s]):=by show _=_;rw [List.map_append,hls,hsx];rfl
  rw [<- hls] at hu
  have HU:=zh hu;have HZS:=zh hzs
  clear hu hszA hpre hlen hx hbA hfA hsx hls hzs
  gi_wp2_with fail
  refine ⟨trivial,(CallsIn.inRound _ (callsIn_wide.2 HG.out)).mono ?_⟩
  rintro e w7 ⟨rfl,hb7⟩
  obtain ⟨W8,hW8⟩:∃ W8,W8=w7.alloc (.cells zs.toArray 61):=⟨_,rfl⟩
  obtain ⟨b,hbq⟩:∃ b,b=w7.heap.size:=⟨_,rfl⟩
  have hb8:Below A.heap.size A W8:=by rw [hW8];exact hb7.alloc hb7.size _
  have hr8:W8.heap[b]? = some (.cells zs.toArray 61 (0,0)):=by rw [hW8,hbq];exact World.alloc_heap_new _ _
  have hu8:=HU.out.after hb8
  obtain ⟨q1,r1,rfl,-⟩:=own_shape hu8.r1
  have hc1:=hu8.b1.cell
  obtain ⟨ys,hys⟩:∃ ys,ys=sx.s.cells:=⟨_,rfl⟩
  have HYL:Hid (ys.length=12):=by show _=_;rw [hys];rfl
  have HY1:Hid (∀ u ∈ ys,u.oneCell'=true):=by show ∀ _,_;rw [hys];exact sess_one' _
  have HRG:Hid (W8.rangeAt b 5 ys):=by show World.rangeAt _ _ _ _;rw [hys];exact slot_sess (by rw [<- HZS.out];exact hr8)
  obtain ⟨K,hK⟩:∃ K,K=ls.length:=⟨_,rfl⟩
  have am1:K+1<=maxLen:=by unfold maxLen;omega
  have am3:(K+1) * 112<=140737488355328:=by omega
  have k3:w.heap.size+3<=(W8.alloc (.cells ys.toArray 35)).heap.size:=by have:=hu8.b1.lt;simp;omega
  have hr1:=hu8.r1
  have HP1:=zh (fun (v1:Value) (w1:World) (o1:Obj) => GS.push (v:=v1) (w1:=w1) (o1:=o1) (x:=sx.s) hu8)
  rw [<- hK] at hc1 hr1 HP1
  rw [<- hys] at HP1
  have H1K:=zh hr1;have HW8:=zh hW8;have HBQ:=zh hbq;have HB8:=zh hb8
  clear hr1 hK hu8 hb7 hb8 hr8 hW8 hbq hys cF cA hlen2
  gi_wp2_with (first
   | (conv in World.alloc _ (Obj.cells #[.bool false,.bool false,_,_,_,_,_,_,_,_,_,_,_,_,_,_,_] _) => skip);(refine Ag.wpListIn_store_new (by rfl) 61 (.tmp 9) (.tmp 34) (by rfl) zs (by rfl) (by rfl) (by rw [HZL.out];kernel_rfl) (by rw [HZL.out];rfl) HZ1.out ?_;rw [<- HW8.out,<- HBQ.out])
   | (refine Ag.wpListIn_load (by rfl) 35 _ (by rfl) _ _ (by rfl) ys _ HRG.out Tryz.underlying35 rfl (by rw [HYL.out];kernel_rfl) ?_)
   | (refine Ag.wpListIn_one (by rfl) 62 35 _ (by rfl) ys (by rfl) i0 _ Tryz.underlying62 hi hz0 (by rw [hz1];exact HYL.out) (by rw [hz1];decide) (by rw [hz1];decide) ?_)
   | (gi_at_builtin;(refine wpListIn_append_own_at _ rfl _ _ 62 rfl (w.heap.size+3) 35 i0 (.agg #[.int .i64 0,.int .i64 0,.int .i64 0,.int .i64 0,.int .i64 0,.string ByteArray.empty,.string ByteArray.empty,.int .u64 0,.int .i64 0,.int .i64 0,.int .i64 0,.int .i64 0]) 12 112 Tryz.underlying62 hi hz0 hz1 hz2 rfl (by decide) _ _ _ rfl (H1K.out.alloc _) ⟨W8.heap.size,0,none⟩ 1 1 ys rfl HYL.out (World.news_of_block (Ut.alloc_at _ _)) HY1.out am1 am3 k3 ?_);(intro v1 w1 hown' hgrow hnil hat;obtain ⟨q',r',rfl,-⟩:=own_shape hown';obtain ⟨hb1,-,Fp',hn1⟩:=HP1.out _ _ _ hown' hgrow hat;(have hc1':=hb1.cell);(have hf1:=hb1.frozen);(have HN:=zh hn1);clear hown' hgrow hat hn1 hb1 hnil)))
  refine ⟨Fp',⟨_,by rw [HLS.out];exact HN.out.1⟩,(Only.of_below (F:=Fp) HB8.out).trans HN.out.2.1 (fun _ _ h => h),fun b hb => (HN.out.2.2 b hb).imp id (fun h => Nat.le_trans HB8.out.size h)⟩
 case done =>
  rintro D2 ys Fp A rfl hD ⟨d,hu⟩ hnf hK
  obtain ⟨q1,r1,rfl,-⟩:=own_shape hu.r1
  have hc1:=hu.b1.cell
  obtain ⟨LS,hLS⟩:∃ LS,LS=ys.map fun i => (sl st.S i).s:=⟨_,rfl⟩
  rw [<- hLS] at hu hc1
  have HLS:=zh hLS
  have HV:=zh (values_any q1 LS.length r1 A)
  have HK:Hid ((A.alloc (.cells #[.slice q1 LS.length r1] 62)).heap[D2]? = some (.deferred (some []))):=(Below.heap_alloc _ _ _ (zx hK)).trans hK
  have hDl:=(zx hK)
  obtain ⟨k1,k2,k3,k4⟩:=und_end hu (by omega) HB2.out _ 62 rfl
  have hge:w.heap.size+3<=D2:=by have h1:=HBX.out;have h2:=HS3.out;have h3:=HB5.out.size;omega
  have e1:Boxed ((A.alloc (.cells #[.slice q1 LS.length r1] 62)).putObj D2 (.deferred none)) A.heap.size 62 (.slice q1 LS.length r1):=Boxed.kept k1 (grownBy_putObj' _ D2 (.deferred none)) (fun e => by have:=Option.some.inj e;omega)
  have e2:((A.alloc (.cells #[.slice q1 LS.length r1] 62)).putObj D2 (.deferred none)).ownsRow w.heap.size 35 12 (.slice q1 LS.length r1) LS.length (allC LS):=own_stay k2 (fun b e => (grownBy_putObj' _ D2 (.deferred none)).block b (k2.lt b e).2 (fun e2 => hnf ((hu.fp D2).2 (.inr (by rw [e,e2])))))
  have e3:Below w.heap.size w ((A.alloc (.cells #[.slice q1 LS.length r1] 62)).putObj D2 (.deferred none)):=k3.grown (grownBy_putObj' _ D2 (.deferred none)) (by simp;omega) (fun k e => by cases e;omega)
  have HE:=zh (And.intro e1 (And.intro e2 (And.intro e3 k4)))
  clear hLS hu hK hnf hDl k1 k2 k3 k4 e1 e2 e3 hge
  gi_wp2
  go_wp2_with fail
  refine HV.out.mono ?_
  rintro e w9 ⟨rfl,h9⟩
  rw [h9]
  clear h9
  go_wp2
  refine ⟨by simp,.inl ⟨_,_,rfl,run_takeDeferred (show _=_ from HK.out),?_⟩⟩
  rw [<- HLS.out]
  exact ⟨_,results_tmp rfl _ _ _,⟨_,_,rfl,HE.out.2.2.2,HE.out.1,HE.out.2.1⟩,HE.out.2.2.1⟩
end
end Fr
end
section
open Go.RowKit Go.Maps
namespace Fr
open Vw (Sess)
theorem IsN.deep {st:FS} {A:List Sess} (h:IsN st A):DeepOk st:=fun i b hl => by
 obtain ⟨R,G,K,pl,hw,_,_⟩:=h
 obtain ⟨h1,h2,_⟩:=(hw.co.lives_iff i b).1 hl
 exact hw.co.depth h1 h2.nf.1
theorem Wf.belOk {st:FS} {R G:List Int} {K:Int->List Int} {pl:Int->Pl} (hw:Wf st R G K pl):BelOk st.S K (fun i => thr i=true/\pl i≠.fr) (far st) where
 ring:=fun p hp => hw.sh.rK p hp.1 hp.2
 nd:=fun p _ => hw.sh.knd p
 th:=fun p hp => hp.1
 kid:=fun p x _ hx => by
  obtain ⟨h1,h2,h3⟩:=hw.far_kid hx
  exact ⟨⟨h1,h2⟩,by omega⟩
 pos:=fun p hp => hw.far_pos hp.1 hp.2
section
variable {lo:Nat} {P:Pa} {st st1 st2:FS} {nw c d:Nat} {Fe:Nat->Prop} {w w' w'':World}
theorem funder_any {A:List Sess} (h:ForAt lo P st nw Fe w) (hI:IsN st A) (us ub:Int) :
  Calls Tryz.prog 24 #[.pointer (some ⟨P.f,0,none⟩),.agg #[.int .i64 us,.int .i64 ub]] w (FUndPost (underF st us ub) w):=by
 cases hl:lives st.S us ub with
 | false => exact funder_no h us ub hl
 | true =>
  obtain ⟨R,G,K,pl,hw,hp,hm⟩:=hI
  obtain ⟨h1,h2,_⟩:=(hw.co.lives_iff us ub).1 hl
  exact funder_yes h us ub hl hw.belOk ⟨h1,h2.nf.1⟩ (by unfold far;have:=(hw.co.depth h1 h2.nf.1).1;have:0<=(sl st.S us).s.depth:=this;omega)
end
end Fr
end
section
open Go.RowKit Go.Maps
namespace Fr
open Vw (Sess)
def Kn.cells (k:Kn):List Value:=[.int .i64 k.slot,.int .i64 k.birth,.int .i64 k.up,.int .i64 k.til,.bool k.ended]
def allK (l:List Kn):List Value:=l.flatMap Kn.cells
theorem allK_snoc (l:List Kn) (k:Kn):allK (l ++ [k])=allK l ++ k.cells:=by simp [allK,List.flatMap_append]
theorem allK_cell {l:List Kn} {k i:Nat} (h:k<l.length) (hi:i<5):(allK l)[k * 5+i]? = l[k].cells[i]?:=by
 induction l generalizing k with
 | nil => simp at h
 | cons s r ih =>
  unfold allK
  rw [List.flatMap_cons]
  have hc:s.cells.length=5:=rfl
  cases k with
  | zero => rw [List.getElem?_append_left (by omega)];simp
  | succ k =>
   rw [List.getElem?_append_right (by rw [hc];omega),hc,show (k+1) * 5+i-5=k * 5+i by omega]
   exact ih (by simpa using h)
theorem kn_one (k:Kn):∀ u ∈ k.cells,u.oneCell'=true:=by
 intro u hu
 simp only [Kn.cells,List.mem_cons,List.not_mem_nil,or_false] at hu
 rcases hu with rfl | rfl | rfl | rfl | rfl <;> rfl
def KIn (W:World) (v:Value) (l:List Kn):Prop :=
 ∃ p cap,v = .slice p l.length cap/\∀ j:Nat,j<l.length->∃ g o,p=some ⟨g,o,none⟩/\g<W.heap.size/\W.rangeAt g (o+j * 5) (kat l j).cells
theorem KIn.below {w w':World} {v:Value} {l:List Kn} (h:KIn w v l) (hb:Below w.heap.size w w'):KIn w' v l:=by
 obtain ⟨p,cap,rfl,h⟩:=h
 refine ⟨p,cap,rfl,fun j hj => ?_⟩
 obtain ⟨g,o,h1,h2,h3⟩:=h j hj
 exact ⟨g,o,h1,Nat.lt_of_lt_of_le h2 hb.size,fun i u hi => (hb.cell (p:=⟨g,o+j * 5+i,none⟩) h2).trans (h3 i u hi)⟩
theorem KIn.at {w:World} {p:Option Addr} {c n:Nat} {l:List Kn} (h:KIn w (.slice p n c) l) {j:Nat} (hj:j<l.length):∃ g o,p=some ⟨g,o,none⟩/\g<w.heap.size /\
  w.cell? ⟨g,o+j * 5,none⟩=some (.int .i64 (kat l j).slot)/\w.cell? ⟨g,o+j * 5+1,none⟩=some (.int .i64 (kat l j).birth)/\w.cell? ⟨g,o+j * 5+2,none⟩=some (.int .i64 (kat l j).up)/\w.cell? ⟨g,o+j * 5+3,none⟩=some (.int .i64 (kat l j).til)/\w.cell? ⟨g,o+j * 5+4,none⟩=some (.bool (kat l j).ended):=by
 obtain ⟨p',c',e,h⟩:=h
 cases e
 obtain ⟨g,o,h1,h2,h3⟩:=h j hj
 exact ⟨g,o,h1,h2,h3 0 _ rfl,h3 1 _ rfl,h3 2 _ rfl,h3 3 _ rfl,h3 4 _ rfl⟩
theorem kIn_own {w:World} {base:Nat} {v:Value} {l:List Kn} (h:w.ownsRow base 31 5 v l.length (allK l)):KIn w v l:=by
 obtain ⟨q,cap,rfl,-⟩:=own_shape h
 refine ⟨q,cap,rfl,fun j hj => ?_⟩
 rcases h.2 with ⟨h1,h2⟩ | ⟨g,c,cur,h1,h2,h3,h4,h5,h6,h7⟩
 ·omega
 ·injection h1 with e1 e2 e3
  subst e1 e3
  refine ⟨g,0,rfl,(zx h3),fun i u hi => ?_⟩
  have hi2:i<5:=(List.getElem?_eq_some_iff.1 hi).1
  rw [Nat.zero_add,World.ownsRow.cellAt (w:=w) h (j * 5+i) (by omega),allK_cell hj hi2,<- kat_lt hj]
  exact hi
theorem llives_any (l:List Kn) (hU:UpK l) (hlen:l.length<=1000) (v:Value) (i:Nat) (hi:i<l.length) (now:Int) (w:World) (h:KIn w v l) :
  Calls Tryz.prog 19 #[v,.int .i64 i,.int .i64 now] w fun e w' => e = .returned (.bool (liveK l i now))/\Below w.heap.size w w':=by
 obtain ⟨p,c,rfl,-⟩:=id h
 obtain ⟨R,hR⟩:∃ R,R=liveK l i now:=⟨_,rfl⟩
 rw [<- hR]
 have HR:Hid (R=liveN l now (l.length+1) i):=hR
 have H:=zh h;have HU:=zh hU;have HI:=zh hi
 clear h hU hR hi
 go_enter Tryz.func19,Tryz.ntmps19
 go_wp2
 go_loopw [1,7] (fun a b wr => ∃ n j:Nat,n<=l.length+1/\j<l.length/\a = .int .i64 j/\b = .int .i64 n/\R=liveN l now (l.length+1-n) j/\Below w.heap.size w wr) (fun _ b _ => l.length+1-(intOf b).toNat)
 case atStart => exact ⟨0,i,Nat.zero_le _,HI.out,rfl,rfl,HR.out,Below.refl _ _⟩
 case round =>
  obtain ⟨n,j,hn,hj,rfl,rfl,he,hb⟩:=hrel
  have b0:(0:Int)<=(n:Int):=by omega
  have b2:(0:Int)<=(j:Int):=by omega
  have b3:(j:Int)<(l.length:Int):=by omega
  by_cases hc:n<=l.length
  ·have b1:(n:Int)<=(l.length:Int):=by omega
   obtain ⟨g,o,rfl,hg,x0,x1,x2,x3,x4⟩:=(H.out.below hb).at hj
   have he2:R=if (kat l j).ended=true\/(kat l j).til<=now then false else if (kat l j).up<0 then true else liveN l now (l.length+1-(n+1)) (kat l j).up:=by
    rw [he,show l.length+1-n=(l.length+1-(n+1))+1 by omega];rfl
   have hup:=(HU.out j hj).1
   obtain ⟨en,hen⟩:∃ en,en=(kat l j).ended:=⟨_,rfl⟩
   obtain ⟨tl,htl⟩:∃ tl,tl=(kat l j).til:=⟨_,rfl⟩
   obtain ⟨up,hupp⟩:∃ up,up=(kat l j).up:=⟨_,rfl⟩
   rw [<- hen,<- htl,<- hupp] at he2
   rw [<- hen] at x4;rw [<- htl] at x3;rw [<- hupp] at x2 hup
   have HE2:=zh he2;have HB:=zh hb;have HJ:=zh hj;have HN:=zh hc
   clear he he2 hb hj hg x0 x1 hen htl hupp hc hn
   cases en with
   | true =>
    have HQ:Hid (R=false):=HE2.out.trans (if_pos (.inl rfl))
    clear HE2
    go_wp2
    go_ret
    exact ⟨by rw [HQ.out];rfl,HB.out⟩
   | false =>
    by_cases ht:tl<=now
    ·have HQ:Hid (R=false):=HE2.out.trans (if_pos (.inr ht))
     clear HE2
     go_wp2
     go_ret
     exact ⟨by rw [HQ.out];rfl,HB.out⟩
    ·have ht2:now<tl:=by omega
     have ht3:decide (tl<=now)=false:=decide_eq_false ht
     have HE3:Hid (R=if up<0 then true else liveN l now (l.length+1-(n+1)) up):=HE2.out.trans (if_neg (by rintro (h | h);cases h;exact ht h))
     clear HE2 ht
     by_cases hz:up<0
     ·have HQ:Hid (R=true):=HE3.out.trans (if_pos hz)
      clear HE3
      go_wp2
      go_ret
      exact ⟨by rw [HQ.out];rfl,HB.out⟩
     ·have HQ:Hid (R=liveN l now (l.length+1-(n+1)) up):=HE3.out.trans (if_neg hz)
      have hz2:decide (up<0)=false:=decide_eq_false hz
      have hz3:0<=up:=by omega
      obtain ⟨u,hu⟩:∃ u:Nat,up=u:=⟨up.toNat,by omega⟩
      subst hu
      have hul:u<l.length:=by have:=HJ.out;omega
      have HUL:=zh hul
      clear HE3 hz hul
      go_wp2
      go_roundw
      case rel => exact ⟨n+1,u,by have:=HN.out;omega,HUL.out,rfl,by go_num,HQ.out,HB.out⟩
      case measure => have:=HN.out;simp [intOf];omega
  ·have b1:(l.length:Int)<(n:Int):=by omega
   have hd:decide ((n:Int)<=(l.length:Int))=false:=decide_eq_false (by omega)
   have HQ:Hid (R=false):=by
    show R=false
    rw [he,show l.length+1-n=0 by omega];rfl
   have HB:=zh hb
   clear he hb hc hn
   go_wp2
   go_ret
   exact ⟨by rw [HQ.out];rfl,HB.out⟩
theorem lcount_any (l:List Kn) (hU:UpK l) (hlen:l.length<=1000) (v:Value) (now:Int) (w:World) (h:KIn w v l) :
  Calls Tryz.prog 15 #[v,.int .i64 now] w fun e w' => e = .returned (.int .i64 (countK l now))/\Below w.heap.size w w':=by
 obtain ⟨p,c,rfl,-⟩:=id h
 have HL:=zh (fun (i:Nat) (hi:i<l.length) (w':World) (hb:Below w.heap.size w w') => llives_any l hU hlen (.slice p l.length c) i hi now w' (h.below hb))
 clear h hU
 go_enter Tryz.func15,Tryz.ntmps15
 go_wp2
 go_loopw [5,6] (fun a b wr => ∃ m n:Nat,n<=l.length/\m<=n/\a = .int .i64 m/\b = .int .i64 n/\m=((List.range n).filter fun i:Nat => liveK l i now).length/\Below w.heap.size w wr) (fun _ b _ => l.length-(intOf b).toNat)
 case atStart => exact ⟨0,0,Nat.zero_le _,Nat.le_refl _,rfl,rfl,rfl,Below.refl _ _⟩
 case round =>
  obtain ⟨m,n,hn,hm,rfl,rfl,he,hb⟩:=hrel
  have b0:(0:Int)<=(n:Int):=by omega
  have b2:(0:Int)<=(m:Int):=by omega
  have b3:(m:Int)<=1000:=by omega
  have b4:(n:Int)<=1000:=by omega
  by_cases hc:n<l.length
  ·have b1:(n:Int)<(l.length:Int):=by omega
   have HC:=zh (HL.out n hc wr hb)
   obtain ⟨q,hq⟩:∃ q,q=liveK l n now:=⟨_,rfl⟩
   rw [<- hq] at HC
   have HE:Hid (((List.range (n+1)).filter fun i:Nat => liveK l i now).length=m+if q then 1 else 0):=by
    show List.length _=_
    rw [List.range_succ,List.filter_append,List.length_append,<- he,hq]
    cases hx:liveK l n now <;> simp [hx]
   have HB:=zh hb;have HN:=zh hc;have HM:=zh hm
   clear he hb hc hn hq hm
   go_wp2_with fail
   refine HC.out.mono ?_
   rintro e w2 ⟨rfl,hb2⟩
   have HB2:Hid (Below w.heap.size w w2):=HB.out.trans (hb2.mono HB.out.size)
   clear hb2
   cases q with
   | true =>
    go_wp2
    go_roundw
    case rel => have:=HM.out;exact ⟨m+1,n+1,by have:=HN.out;omega,by omega,by go_num,by go_num,by rw [HE.out];rfl,HB2.out⟩
    case measure => have:=HN.out;simp [intOf];omega
   | false =>
    go_wp2
    go_roundw
    case rel => have:=HM.out;exact ⟨m,n+1,by have:=HN.out;omega,by omega,rfl,by go_num,by rw [HE.out];rfl,HB2.out⟩
    case measure => have:=HN.out;simp [intOf];omega
  ·have b1:(l.length:Int)<=(n:Int):=by omega
   have e:n=l.length:=by omega
   have HQ:Hid (m=countK l now):=by show m=_;rw [he,e];rfl
   have HB:=zh hb
   clear he hb hc hn hm e
   go_wp2
   go_ret
   exact ⟨by rw [HQ.out];rfl,HB.out⟩
end Fr
end
section
open Go.RowKit
namespace Gd
theorem wpList_wanted {P:Program} {ops:Array Oper} {rest:List Oper} {o:Oper} {a:Act} {w:World} {Q:Exit->Act->World->Prop} (hw:Region.wanted o (yielded ops a.tmps)=true)
  (h:∀ K:Act->World->Prop,(∀ a w,wpList P ops Q rest a w->K a w)->o.wp P a w K Q):wpList P ops Q (o :: rest) a w :=
 wpList_step fun K hK => by rw [if_pos hw];exact h K hK
theorem load_row {P:Program} {ops:Array Oper} {rest:List Oper} {o:Oper} {a:Act} {w:World} {Q:Exit->Act->World->Prop} (hw:Region.wanted o (yielded ops a.tmps)=true) (ty:TypeId) (x:Operand) (ho:o.op = .load ty x)
  (b:Nat) (hx:a.eval x = .pointer (some ⟨b,0,none⟩)) (ty':TypeId) (cells:Array Value) (fr:Nat × Nat) (d:TypeDesc) (hb:w.heap[b]? = some (.cells cells ty' fr)) (hu:P.underlying ty=some d) (hd:d.isRow=true) (hi:(P.info? ty).map (·.size)=some cells.size)
  (h:wpList P ops Q rest (a.put o.dst (.agg cells)) w):wpList P ops Q (o :: rest) a w:=by
 have hr:w.rangeAt b 0 cells.toList:=fun j v hj => by
  rw [zc hb,Nat.zero_add];simpa using hj
 exact wpList_wanted hw fun _ hK => wp_load_mid ty x ho b 0 hx cells.toList d hr hu hd (by simpa using hi) (by simpa using hK _ _ h)
end Gd
end
end Go.Proofs.YtimhglmfckfclaaGreat
