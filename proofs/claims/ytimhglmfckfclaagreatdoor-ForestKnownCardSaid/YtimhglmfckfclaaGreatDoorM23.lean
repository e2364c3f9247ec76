/- Parts of the proof. -/
import Derived.Test.YtimhglmfckfclaaGreatDoorM22
import Derived.Laws.Tables
set_option linter.unusedVariables false
set_option linter.unusedSimpArgs false
set_option maxRecDepth 100000
set_option maxHeartbeats 16000000
namespace Go.Proofs.YtimhglmfckfclaaGreatDoor
section
open Go.RowKit Go.Maps
namespace Fr
open Vw (Sess)
open Ex (Ent wo ExpAt)
structure Pa where
 f:Nat
 a:Nat
 t:Nat
 g:Nat
 E:Nat
def Fo (P:Pa) (Fe:Nat->Prop) (k:Nat):Prop:=k=P.f\/k=P.a\/k=P.t\/k=P.g\/Fe k
def foCells (P:Pa) (c b:Int):Array Value:=#[.int .i64 c,.int .i64 b,.pointer (some ⟨P.a,0,none⟩),.pointer (some ⟨P.t,0,none⟩),.pointer (some ⟨P.g,0,none⟩),.pointer (some ⟨P.E,0,none⟩)]
structure ForAt (lo:Nat) (P:Pa) (st:FS) (nw:Nat) (Fe:Nat->Prop) (w:World):Prop where
 row:w.heap[P.f]? = some (.cells (foCells P st.clock st.births) 107 (0,0))
 ar:ArAt P.a st.S st.free nw w
 tr:TrAt P.t P.a st.roots w
 gb:GbAt P.g P.a st.garb w
 ex:ExpAt lo P.E nw st.exp Fe w
 ne:(P.f≠P.a/\P.f≠P.t/\P.f≠P.g)/\P.a≠P.t/\P.a≠P.g/\P.t≠P.g
 nf:¬ Fe P.f/\¬ Fe P.a/\¬ Fe P.t/\¬ Fe P.g
 lo4:lo<=P.f/\lo<=P.a/\lo<=P.t/\lo<=P.g
 los:lo<=w.heap.size
def FoTo (lo:Nat) (P:Pa) (st':FS) (c nw:Nat) (Fe:Nat->Prop) (w w':World):Prop :=
 ∃ nw' Fe',nw<=nw'/\nw'<=nw+c/\ForAt lo P st' nw' Fe' w'/\Only (Fo P Fe) w w'/\∀ k,Fe' k->Fe k\/w.heap.size<=k
section
variable {lo:Nat} {P:Pa} {st st1 st2:FS} {nw c d:Nat} {Fe:Nat->Prop} {w w' w'':World}
theorem ForAt.lt (h:ForAt lo P st nw Fe w) {k:Nat} (hk:Fo P Fe k):lo<=k/\k<w.heap.size:=by
 rcases hk with rfl | rfl | rfl | rfl | hk
 ·exact ⟨h.lo4.1,(zx h.row)⟩
 ·exact ⟨h.lo4.2.1,h.ar.lt⟩
 ·exact ⟨h.lo4.2.2.1,h.tr.lt⟩
 ·exact ⟨h.lo4.2.2.2,(zx h.gb)⟩
 ·exact h.ex.lt k hk
theorem ForAt.only {G:Nat->Prop} (h:ForAt lo P st nw Fe w) (ho:Only G w w') (hG:∀ k,Fo P Fe k->¬ G k):ForAt lo P st nw Fe w' where
 row:=(ho.block _ (h.lt (.inl rfl)).2 (hG _ (.inl rfl))).trans h.row
 ar:=h.ar.keep (ho.block _ (h.lt (.inr (.inl rfl))).2 (hG _ (.inr (.inl rfl))))
 tr:=h.tr.keep (ho.block _ (h.lt (.inr (.inr (.inl rfl)))).2 (hG _ (.inr (.inr (.inl rfl)))))
 gb:=(ho.block _ (h.lt (.inr (.inr (.inr (.inl rfl))))).2 (hG _ (.inr (.inr (.inr (.inl rfl)))))).trans h.gb
 ex:=h.ex.only ho (fun k hk => hG k (.inr (.inr (.inr (.inr hk)))))
 ne:=h.ne
 nf:=h.nf
 lo4:=h.lo4
 los:=Nat.le_trans h.los ho.size
theorem ForAt.below (h:ForAt lo P st nw Fe w) (hb:Below w.heap.size w w'):ForAt lo P st nw Fe w':=h.only (Only.of_below (F:=fun _ => False) hb) (fun _ _ h => h)
theorem ForAt.drew (h:ForAt lo P st nw Fe w):ForAt lo P st nw Fe w.drew:=h.below ((Below.refl _ _).drew)
theorem ForAt.mono (h:ForAt lo P st nw Fe w):FoTo lo P st c nw Fe w w:=⟨nw,Fe,Nat.le_refl _,Nat.le_add_right _ _,h,Only.refl _ _,fun _ h => .inl h⟩
theorem FoTo.of_below (h:ForAt lo P st nw Fe w) (hb:Below w.heap.size w w'):FoTo lo P st c nw Fe w w':=⟨nw,Fe,Nat.le_refl _,Nat.le_add_right _ _,h.below hb,Only.of_below hb,fun _ h => .inl h⟩
theorem FoTo.cast (h:FoTo lo P st1 c nw Fe w w') (hc:c<=d):FoTo lo P st1 d nw Fe w w':=by
 obtain ⟨nw',Fe',h1,h2,h3⟩:=h
 exact ⟨nw',Fe',h1,by omega,h3⟩
theorem FoTo.below (h:FoTo lo P st1 c nw Fe w w') (hb:Below w'.heap.size w' w''):FoTo lo P st1 c nw Fe w w'':=by
 obtain ⟨nw',Fe',h1,h2,h3,h4,h5⟩:=h
 exact ⟨nw',Fe',h1,h2,h3.below hb,h4.trans (Only.of_below (F:=fun _ => False) hb) (fun _ _ h => h.elim),h5⟩
theorem FoTo.after {nw':Nat} {Fe':Nat->Prop} (h1:nw<=nw') (h2:nw'<=nw+c) (h4:Only (Fo P Fe) w w') (h5:∀ k,Fe' k->Fe k\/w.heap.size<=k) (h:FoTo lo P st2 d nw' Fe' w' w''):FoTo lo P st2 (c+d) nw Fe w w'':=by
 obtain ⟨n2,F2,k1,k2,k3,k4,k5⟩:=h
 refine ⟨n2,F2,by omega,by omega,k3,h4.trans k4 (fun i hi hF => ?_),fun k hk => ?_⟩
 ·rcases hF with hF | hF | hF | hF | hF
  ·exact .inl hF
  ·exact .inr (.inl hF)
  ·exact .inr (.inr (.inl hF))
  ·exact .inr (.inr (.inr (.inl hF)))
  ·rcases h5 i hF with h6 | h6
   ·exact .inr (.inr (.inr (.inr h6)))
   ·omega
 ·rcases k5 k hk with h6 | h6
  ·exact h5 k h6
  ·exact .inr (Nat.le_trans h4.size h6)
theorem FoTo.pre (hb:Below w.heap.size w w') (h:FoTo lo P st2 d nw Fe w' w''):FoTo lo P st2 d nw Fe w w'':=by
 have:=FoTo.after (c:=0) (Nat.le_refl nw) (Nat.le_refl _) (Only.of_below (F:=Fo P Fe) hb) (fun k h => .inl h) h
 rwa [Nat.zero_add] at this
theorem ForAt.cell (h:ForAt lo P st nw Fe w) (j:Nat):w.cell? ⟨P.f,j,none⟩=(foCells P st.clock st.births)[j]?:=by rw [zc h.row]
theorem ForAt.parts {S':List Slt} {fr':List Int} {r' g':Int} {nw':Nat} {G:Nat->Prop} (h:ForAt lo P st nw Fe w) (h1:nw<=nw') (h2:nw'<=nw+c) (ha:ArAt P.a S' fr' nw' w') (ht:TrAt P.t P.a r' w') (hg:GbAt P.g P.a g' w')
  (ho:Only G w w') (hG:∀ k,G k->k=P.a\/k=P.t\/k=P.g):FoTo lo P { st with S:=S',free:=fr',roots:=r',garb:=g' } c nw Fe w w':=by
 refine ⟨nw',Fe,h1,h2,⟨(ho.block _ (h.lt (.inl rfl)).2 (fun hf => ?_)).trans h.row,ha,ht,hg,?_,h.ne,h.nf,h.lo4,Nat.le_trans h.los ho.size⟩,ho.mono (fun i _ hi => ?_),fun _ h => .inl h⟩
 ·obtain ⟨⟨n1,n2,n3⟩,-⟩:=h.ne
  rcases hG _ hf with e | e | e
  ·exact n1 e
  ·exact n2 e
  ·exact n3 e
 ·exact (h.ex.only ho (fun k hk hf => by
   obtain ⟨-,n1,n2,n3⟩:=h.nf
   rcases hG _ hf with e | e | e
   ·exact n1 (e ▸ hk)
   ·exact n2 (e ▸ hk)
   ·exact n3 (e ▸ hk))).mono h1
 ·rcases hG _ hi with e | e | e
  ·exact .inr (.inl e)
  ·exact .inr (.inr (.inl e))
  ·exact .inr (.inr (.inr (.inl e)))
theorem ForAt.keepT {G:Nat->Prop} (h:ForAt lo P st nw Fe w) (ho:Only G w w') (hG:¬ G P.t):TrAt P.t P.a st.roots w':=h.tr.keep (ho.block _ (h.lt (.inr (.inr (.inl rfl)))).2 hG)
theorem ForAt.keepG {G:Nat->Prop} (h:ForAt lo P st nw Fe w) (ho:Only G w w') (hG:¬ G P.g):GbAt P.g P.a st.garb w':=(ho.block _ (h.lt (.inr (.inr (.inr (.inl rfl))))).2 hG).trans h.gb
theorem turn_eq (st:FS) (us ub last:Int):turn st us ub last={ st with S:=turnS st.S us ub last,roots:=turnR st.roots us ub last }:=by
 unfold turn turnS turnR
 split <;> rfl
theorem fcut (h:ForAt lo P st nw Fe w) (hw:nw+4<=4611686018427387904) (i:Int) (hc:cutF st i=some st1) :
  Calls Tryz.prog 138 #[.pointer (some ⟨P.t,0,none⟩),.int .i64 i] w fun e w' => e = .returned .nilIface/\FoTo lo P st1 4 nw Fe w w':=by
 unfold cutF at hc
 simp only at hc
 split at hc
 ·rename_i hcc
  cases hc
  simp only [Bool.and_eq_true] at hcc
  obtain ⟨hi,hu,hup,hd⟩:=hcc
  refine (cut_ok h.tr h.ar hw (Ne.symm h.ne.2.1) i _ _ _ rfl rfl rfl hi hu hup hd).mono ?_
  rintro e w' ⟨rfl,h1,⟨nw',h2,h3,h4⟩,h5⟩
  refine ⟨rfl,?_⟩
  rw [turn_eq]
  exact h.parts h2 h3 h4 h1 (h.keepG h5 (fun hg => hg.elim (fun e => h.ne.2.2.2 e.symm) (fun e => h.ne.2.2.1 e.symm))) h5 (fun k hk => hk.elim (fun e => .inr (.inl e)) .inl)
 ·cases hc
theorem fget (h:ForAt lo P st nw Fe w) (i:Int) (hi:thr i=true) :
  Calls Tryz.prog 46 #[.pointer (some ⟨P.a,0,none⟩),.int .i64 i] w fun e w' => e = .returned (.tuple #[.agg (sl st.S i).cells.toArray,.nilIface])/\Below w.heap.size w w':=aget_ok h.ar i hi
theorem only_g {G:Nat->Prop} (h:ForAt lo P st nw Fe w) (hG:∀ k,G k->k=P.a\/k=P.t):¬ G P.g:=fun hg => (hG _ hg).elim (fun e => h.ne.2.2.1 e.symm) (fun e => h.ne.2.2.2 e.symm)
theorem fput (h:ForAt lo P st nw Fe w) (hw:nw+1<=4611686018427387904) (i:Int) (hi:thr i=true) (x:Slt) :
  Calls Tryz.prog 107 #[.pointer (some ⟨P.a,0,none⟩),.int .i64 i,.agg x.cells.toArray] w fun e w' => e = .returned .nilIface/\(FoTo lo P { st with S:=put st.S i x } 1 nw Fe w w'/\∃ Fe',ForAt lo P { st with S:=put st.S i x } (nw+1) Fe' w'):=by
 refine (aput_ok h.ar hw i hi x).mono ?_
 rintro e w' ⟨rfl,h1,h2⟩
 have hG:∀ k,k=P.a->k=P.a\/k=P.t:=fun k e => .inl e
 have h3:=h.parts (c:=1) (Nat.le_succ _) (Nat.le_refl _) h1 (h.keepT h2 (fun e => h.ne.2.1 e.symm)) (h.keepG h2 (only_g h hG)) h2 (fun k hk => .inl hk)
 refine ⟨rfl,h3,Fe,?_⟩
 obtain ⟨nw',Fe',-,-,k3,k4,k5⟩:=h3
 exact ⟨k3.row,h1,k3.tr,k3.gb,(h.ex.only h2 (fun k hk e => h.nf.2.1 (e ▸ hk))).mono (Nat.le_succ _),h.ne,h.nf,h.lo4,Nat.le_trans h.los h2.size⟩
theorem fforget (h:ForAt lo P st nw Fe w) (i:Int) (hi:thr i=true) :
  Calls Tryz.prog 137 #[.pointer (some ⟨P.E,0,none⟩),.int .i64 i] w fun e w' => (∃ b,e = .returned (.bool b))/\FoTo lo P { st with exp:=wo st.exp i } 0 nw Fe w w':=by
 have h0:=thr_iff.1 hi
 refine (Ex.eforget_any lo P.E nw st.exp Fe w h.ex h.los i (WalkArith.wf_i64 (n:=i) (by omega))).mono ?_
 rintro e w' ⟨rfl,F',h1,h2,h3⟩
 refine ⟨⟨_,rfl⟩,nw,F',Nat.le_refl _,Nat.le_refl _,?_,h2.mono (fun k _ hk => .inr (.inr (.inr (.inr hk)))),h3⟩
 have hF:∀ k,(k=P.f\/k=P.a\/k=P.t\/k=P.g)->¬ Fe k/\k<w.heap.size:=fun k hk => by
  rcases hk with rfl | rfl | rfl | rfl
  ·exact ⟨h.nf.1,(h.lt (.inl rfl)).2⟩
  ·exact ⟨h.nf.2.1,(h.lt (.inr (.inl rfl))).2⟩
  ·exact ⟨h.nf.2.2.1,(h.lt (.inr (.inr (.inl rfl)))).2⟩
  ·exact ⟨h.nf.2.2.2,(h.lt (.inr (.inr (.inr (.inl rfl))))).2⟩
 have hk:∀ k,(k=P.f\/k=P.a\/k=P.t\/k=P.g)->w'.heap[k]? = w.heap[k]?:=fun k hk => h2.block k (hF k hk).2 (hF k hk).1
 have hn:∀ k,(k=P.f\/k=P.a\/k=P.t\/k=P.g)->¬ F' k:=fun k hk hf => by
  rcases h3 k hf with h4 | h4
  ·exact (hF k hk).1 h4
  ·have:=(hF k hk).2;omega
 exact ⟨(hk _ (.inl rfl)).trans h.row,h.ar.keep (hk _ (.inr (.inl rfl))),h.tr.keep (hk _ (.inr (.inr (.inl rfl)))),(hk _ (.inr (.inr (.inr rfl)))).trans h.gb,h1,h.ne,⟨hn _ (.inl rfl),hn _ (.inr (.inl rfl)),hn _ (.inr (.inr (.inl rfl))),hn _ (.inr (.inr (.inr rfl)))⟩,h.lo4,Nat.le_trans h.los h2.size⟩
theorem fset_at {m:Nat} (h:ForAt lo P st (nw+1) Fe w) (hm:m<=nw) (hex:ExpAt lo P.E m st.exp Fe w) (hN:m<=1099511627776) (s b d:Int) (hok:Ex.okE s b d) :
  Calls Tryz.prog 109 #[.pointer (some ⟨P.E,0,none⟩),.agg #[.int .i64 s,.int .i64 b],.int .i64 d] w fun e w' => e = .returned .nilIface/\FoTo lo P { st with exp:=Ex.put (wo st.exp s) (s,b,d) } 0 (nw+1) Fe w w':=by
 refine (Ex.eset_ok lo P.E m st.exp Fe w hex h.los hN s b d hok).mono ?_
 rintro e w' ⟨rfl,F',h1,h2,h3⟩
 refine ⟨rfl,nw+1,F',Nat.le_refl _,Nat.le_refl _,?_,h2.mono (fun k _ hk => .inr (.inr (.inr (.inr hk)))),h3⟩
 have hF:∀ k,(k=P.f\/k=P.a\/k=P.t\/k=P.g)->¬ Fe k/\k<w.heap.size:=fun k hk => by
  rcases hk with rfl | rfl | rfl | rfl
  ·exact ⟨h.nf.1,(h.lt (.inl rfl)).2⟩
  ·exact ⟨h.nf.2.1,(h.lt (.inr (.inl rfl))).2⟩
  ·exact ⟨h.nf.2.2.1,(h.lt (.inr (.inr (.inl rfl)))).2⟩
  ·exact ⟨h.nf.2.2.2,(h.lt (.inr (.inr (.inr (.inl rfl))))).2⟩
 have hk:∀ k,(k=P.f\/k=P.a\/k=P.t\/k=P.g)->w'.heap[k]? = w.heap[k]?:=fun k hk => h2.block k (hF k hk).2 (hF k hk).1
 have hn:∀ k,(k=P.f\/k=P.a\/k=P.t\/k=P.g)->¬ F' k:=fun k hk hf => by
  rcases h3 k hf with h4 | h4
  ·exact (hF k hk).1 h4
  ·have:=(hF k hk).2;omega
 exact ⟨(hk _ (.inl rfl)).trans h.row,h.ar.keep (hk _ (.inr (.inl rfl))),h.tr.keep (hk _ (.inr (.inr (.inl rfl)))),(hk _ (.inr (.inr (.inr rfl)))).trans h.gb,h1.mono (by omega),h.ne,⟨hn _ (.inl rfl),hn _ (.inr (.inl rfl)),hn _ (.inr (.inr (.inl rfl))),hn _ (.inr (.inr (.inr rfl)))⟩,h.lo4,Nat.le_trans h.los h2.size⟩
theorem fgadd (h:ForAt lo P st nw Fe w) (hw:nw+3<=4611686018427387904) (i:Int) (hc:addG st i=some st1) :
  Calls Tryz.prog 139 #[.pointer (some ⟨P.g,0,none⟩),.int .i64 i] w fun e w' => e = .returned .nilIface/\FoTo lo P st1 3 nw Fe w w':=by
 unfold addG at hc
 split at hc
 ·rename_i hcc
  cases hc
  simp only [Bool.and_eq_true] at hcc
  obtain ⟨hi,hu,hp⟩:=hcc
  refine (gadd_ok h.gb h.ar hw (Ne.symm h.ne.2.2.1) i hi hu hp).mono ?_
  rintro e w' ⟨rfl,h1,⟨nw',h2,h3,h4⟩,h5⟩
  exact ⟨rfl,h.parts h2 h3 h4 (h.keepT h5 (fun hg => hg.elim (fun e => h.ne.2.2.2 e) (fun e => h.ne.2.1 e.symm))) h1 h5 (fun k hk => hk.elim (fun e => .inr (.inr e)) .inl)⟩
 ·cases hc
theorem fplace (h:ForAt lo P st nw Fe w) (i:Int) (hi:thr i=true) (hm:i ∈ st.free) :
  Calls Tryz.prog 106 #[.pointer (some ⟨P.a,0,none⟩),.int .i64 i] w fun e w' => e = .returned .nilIface/\FoTo lo P { st with free:=st.free.erase i } 0 nw Fe w w':=by
 refine (place_ok h.ar i hi hm).mono ?_
 rintro e w' ⟨rfl,h1,h2⟩
 have hG:∀ k,k=P.a->k=P.a\/k=P.t:=fun k e => .inl e
 exact ⟨rfl,h.parts (c:=0) (Nat.le_refl _) (Nat.le_refl _) h1 (h.keepT h2 (fun e => h.ne.2.1 e.symm)) (h.keepG h2 (only_g h hG)) h2 (fun k hk => .inl hk)⟩
theorem fadd (h:ForAt lo P st nw Fe w) (hw:nw+5<=4611686018427387904) (i us ub:Int) (hc:addF st i us ub=some st1) :
  Calls Tryz.prog 108 #[.pointer (some ⟨P.t,0,none⟩),.int .i64 i,.agg #[.int .i64 us,.int .i64 ub]] w fun e w' => e = .returned .nilIface/\FoTo lo P st1 5 nw Fe w w':=by
 unfold addF at hc
 split at hc
 ·rename_i hcc
  cases hc
  simp only [Bool.and_eq_true,Bool.or_eq_true,beq_iff_eq,bne_iff_ne] at hcc
  obtain ⟨hi,hu,hup,hne,hp⟩:=hcc
  have fin:∀ (x:Slt),x={ sl (pushS st.S (ringOf st us ub) i) i with kids:=-1,s:={ (sl (pushS st.S (ringOf st us ub) i) i).s with us:=if ub=0 then 0 else us,ub:=ub } }->∀ w',TrAt P.t P.a (turnR st.roots us ub i) w'->(∃ nw',nw<=nw'/\nw'<=nw+5/\ArAt P.a (turnS (put (pushS st.S (ringOf st us ub) i) i x) us ub i) st.free nw' w')->Only (fun b => b=P.t\/b=P.a) w w' ->
    FoTo lo P (turn { st with S:=put (pushS st.S (ringOf st us ub) i) i { sl (pushS st.S (ringOf st us ub) i) i with kids:=-1,s:={ (sl (pushS st.S (ringOf st us ub) i) i).s with us:=if ub=0 then 0 else us,ub:=ub } } } us ub i) 5 nw Fe w w':=by
   rintro x hx w' h1 ⟨nw',h2,h3,h4⟩ h5
   rw [turn_eq,<- hx]
   exact h.parts h2 h3 h4 h1 (h.keepG h5 (fun hg => hg.elim (fun e => h.ne.2.2.2 e.symm) (fun e => h.ne.2.2.1 e.symm))) h5 (fun k hk => hk.elim (fun e => .inr (.inl e)) .inl)
  by_cases hz:ub=0
  ·subst hz
   have e1:ringOf st us 0=st.roots:=if_pos rfl
   refine (add_root h.tr h.ar hw (Ne.symm h.ne.2.1) i us st.roots rfl hi hu (by rw [<- e1];exact hp) _ rfl).mono ?_
   rintro e w' ⟨rfl,h1,h2,h3⟩
   refine ⟨rfl,fin _ ?_ w' h1 (by rw [e1];exact h2) h3⟩
   rw [e1,if_pos rfl]
  ·have e1:ringOf st us ub=(sl st.S us).kids:=if_neg hz
   refine (add_kid h.tr h.ar hw (Ne.symm h.ne.2.1) i us ub (sl st.S us).kids hz (hne.resolve_left hz) hup rfl hi hu (by rw [<- e1];exact hp) _ rfl).mono ?_
   rintro e w' ⟨rfl,h1,h2,h3⟩
   refine ⟨rfl,fin _ ?_ w' h1 (by rw [e1];exact h2) h3⟩
   rw [e1,if_neg hz]
 ·cases hc
theorem fadd_only (h:ForAt lo P st nw Fe w) (hw:nw+5<=4611686018427387904) (i us ub:Int) (hc:addF st i us ub=some st1) :
  Calls Tryz.prog 108 #[.pointer (some ⟨P.t,0,none⟩),.int .i64 i,.agg #[.int .i64 us,.int .i64 ub]] w fun e w' => e = .returned .nilIface/\∃ n' F',nw<=n'/\n'<=nw+5/\ForAt lo P st1 n' F' w'/\Only (Fo P Fe) w w'/\(∀ k,F' k->Fe k\/w.heap.size<=k)/\∃ G:Nat->Prop,Only G w w'/\∀ k,Fe k->¬ G k:=by
 unfold addF at hc
 split at hc
 ·rename_i hcc
  cases hc
  simp only [Bool.and_eq_true,Bool.or_eq_true,beq_iff_eq,bne_iff_ne] at hcc
  obtain ⟨hi,hu,hup,hne,hp⟩:=hcc
  have fin:∀ (x:Slt),x={ sl (pushS st.S (ringOf st us ub) i) i with kids:=-1,s:={ (sl (pushS st.S (ringOf st us ub) i) i).s with us:=if ub=0 then 0 else us,ub:=ub } }->∀ w',TrAt P.t P.a (turnR st.roots us ub i) w'->(∃ nw',nw<=nw'/\nw'<=nw+5/\ArAt P.a (turnS (put (pushS st.S (ringOf st us ub) i) i x) us ub i) st.free nw' w')->Only (fun b => b=P.t\/b=P.a) w w' ->
    ∃ n' F',nw<=n'/\n'<=nw+5/\ForAt lo P (turn { st with S:=put (pushS st.S (ringOf st us ub) i) i { sl (pushS st.S (ringOf st us ub) i) i with kids:=-1,s:={ (sl (pushS st.S (ringOf st us ub) i) i).s with us:=if ub=0 then 0 else us,ub:=ub } } } us ub i) n' F' w'/\Only (Fo P Fe) w w'/\(∀ k,F' k->Fe k\/w.heap.size<=k)/\∃ G:Nat->Prop,Only G w w'/\∀ k,Fe k->¬ G k:=by
   rintro x hx w' h1 ⟨nw',h2,h3,h4⟩ h5
   rw [turn_eq,<- hx]
   have hFG:∀ k,Fe k->¬ (k=P.t\/k=P.a):=fun k hk e => e.elim (fun e => h.nf.2.2.1 (e ▸ hk)) (fun e => h.nf.2.1 (e ▸ hk))
   have:=h.parts h2 h3 h4 h1 (h.keepG h5 (fun hg => hg.elim (fun e => h.ne.2.2.2 e.symm) (fun e => h.ne.2.2.1 e.symm))) h5 (fun k hk => hk.elim (fun e => .inr (.inl e)) .inl)
   obtain ⟨n2,F2,k1,k2,k3,k4,k5⟩:=this
   exact ⟨n2,F2,k1,k2,k3,k4,k5,_,h5,hFG⟩
  by_cases hz:ub=0
  ·subst hz
   have e1:ringOf st us 0=st.roots:=if_pos rfl
   refine (add_root h.tr h.ar hw (Ne.symm h.ne.2.1) i us st.roots rfl hi hu (by rw [<- e1];exact hp) _ rfl).mono ?_
   rintro e w' ⟨rfl,h1,h2,h3⟩
   refine ⟨rfl,fin _ ?_ w' h1 (by rw [e1];exact h2) h3⟩
   rw [e1,if_pos rfl]
  ·have e1:ringOf st us ub=(sl st.S us).kids:=if_neg hz
   refine (add_kid h.tr h.ar hw (Ne.symm h.ne.2.1) i us ub (sl st.S us).kids hz (hne.resolve_left hz) hup rfl hi hu (by rw [<- e1];exact hp) _ rfl).mono ?_
   rintro e w' ⟨rfl,h1,h2,h3⟩
   refine ⟨rfl,fin _ ?_ w' h1 (by rw [e1];exact h2) h3⟩
   rw [e1,if_neg hz]
 ·cases hc
theorem fadd_exp {m:Nat} (h:ForAt lo P st nw Fe w) (hw:nw+5<=4611686018427387904) (i us ub:Int) (hc:addF st i us ub=some st1) (hex:ExpAt lo P.E m st.exp Fe w) :
  Calls Tryz.prog 108 #[.pointer (some ⟨P.t,0,none⟩),.int .i64 i,.agg #[.int .i64 us,.int .i64 ub]] w fun e w' => e = .returned .nilIface/\∃ n' F',nw<=n'/\n'<=nw+5/\ForAt lo P st1 n' F' w'/\ExpAt lo P.E m st1.exp F' w'/\Only (Fo P Fe) w w'/\∀ k,F' k->Fe k\/w.heap.size<=k:=by
 have hexp:st1.exp=st.exp:=by
  unfold addF at hc
  split at hc
  ·cases hc;rw [turn_eq]
  ·cases hc
 refine (fadd_only h hw i us ub hc).mono ?_
 rintro e w' ⟨rfl,n',F',h1,h2,h3,h4,h5,G,h6,h7⟩
 refine ⟨rfl,n',Fe,h1,h2,⟨h3.row,h3.ar,h3.tr,h3.gb,?_,h.ne,h.nf,h.lo4,h3.los⟩,?_,h4,fun _ h => .inl h⟩
 ·rw [hexp];exact (h.ex.only h6 (h7 · ·)).mono h1
 ·rw [hexp];exact hex.only h6 (h7 · ·)
theorem funit (h:ForAt lo P st nw Fe w) (hw:nw+8<=4611686018427387904) (o:Option Int) (hc:unitF st=some (st1,o)) :
  Calls Tryz.prog 65 #[.pointer (some ⟨P.g,0,none⟩)] w fun e w' => e = .returned (.tuple #[.int .i64 (o.getD 0),.bool o.isSome])/\FoTo lo P st1 8 nw Fe w w':=by
 unfold unitF at hc
 split at hc
 ·rename_i hg
  cases hc
  refine (gUnit_no (by have:=h.gb;rwa [hg] at this)).mono ?_
  rintro e w' ⟨rfl,hb⟩
  exact ⟨rfl,FoTo.of_below h hb⟩
 ·rename_i hg
  obtain ⟨f,hf⟩:∃ f,f=(sl st.S st.garb).next:=⟨_,rfl⟩
  obtain ⟨k,hk⟩:∃ k,k=(sl st.S f).kids:=⟨_,rfl⟩
  have hc2:(if (thr st.garb && thr f)=true then if (k == -1 || canSplice st.S st.garb k)=true then if (canDrop (spS st.S st.garb k) (spL st.garb k) f && !st.free.contains f)=true then some ({ st with S:=put (dropS (spS st.S st.garb k) f) f bare,free:=f :: st.free,garb:=dropL (spS st.S st.garb k) (spL st.garb k) f },some f) else none else none else none)=some (st1,o):=by
   subst hk hf;exact hc
  by_cases h1:(thr st.garb && thr f)=true
  ·rw [if_pos h1] at hc2
   by_cases h2:(k == -1 || canSplice st.S st.garb k)=true
   ·rw [if_pos h2] at hc2
    by_cases h3:(canDrop (spS st.S st.garb k) (spL st.garb k) f && !st.free.contains f)=true
    ·rw [if_pos h3] at hc2
     cases hc2
     simp only [Bool.and_eq_true,Bool.or_eq_true,beq_iff_eq,Bool.not_eq_true',List.contains_eq_mem,decide_eq_false_iff_not] at h1 h2 h3
     refine (gUnit_ok h.gb h.ar hw (Ne.symm h.ne.2.2.1) f k hf hk h1.1 h1.2 h2 h3.1 h3.2).mono ?_
     rintro e w' ⟨rfl,k1,⟨nw',k2,k3,k4⟩,k5⟩
     exact ⟨rfl,h.parts k2 k3 k4 (h.keepT k5 (fun hg => hg.elim (fun e => h.ne.2.2.2 e) (fun e => h.ne.2.1 e.symm))) k1 k5 (fun k hk => hk.elim (fun e => .inr (.inr e)) .inl)⟩
    ·rw [if_neg h3] at hc2;cases hc2
   ·rw [if_neg h2] at hc2;cases hc2
  ·rw [if_neg h1] at hc2;cases hc2
theorem flives (h:ForAt lo P st nw Fe w) (us ub:Int) :
  Calls Tryz.prog 124 #[.pointer (some ⟨P.a,0,none⟩),.agg #[.int .i64 us,.int .i64 ub]] w fun e w' => (∃ n:Int,e = .returned (.tuple #[.bool (lives st.S us ub),.int .i64 n]))/\Below w.heap.size w w':=lives_any h.ar us ub
end
end Fr
end
section
open Go.RowKit Go.Maps
namespace Fr
open Vw (Sess)
theorem wpList_build_as {P:Program} {ops:Array Oper} {rest:List Oper} {o:Oper} {a:Act} {w:World} {Q:Exit->Act->World->Prop} (hg:o.guard=none) (t:TypeId) (ho:o.op = .build t #[])
  (cs:List Value) (hb:P.built t []=some cs.toArray) (h:wpList P ops Q rest (a.put o.dst (.agg cs.toArray)) w):wpList P ops Q (o :: rest) a w:=by
 refine wpList_build hg t #[] ho (by simp [hb]) ?_
 simpa [hb] using h
theorem wpList_box_agg {P:Program} {ops:Array Oper} {rest:List Oper} {o:Oper} {a:Act} {w:World} {Q:Exit->Act->World->Prop} (hg:o.guard=none) (t:TypeId) (x:Operand) (ho:o.op = .box t x)
  (cs:List Value) (hx:a.eval x = .agg cs.toArray) (h:wpList P ops Q rest (a.put o.dst (.pointer (some ⟨w.heap.size,0,none⟩))) (w.alloc (.cells cs.toArray t))):wpList P ops Q (o :: rest) a w:=by
 refine wpList_plain hg fun K hK => ?_
 unfold Oper.wp execOp
 simp only [ho,hx]
 simp [go_sem]
 exact hK _ _ h
def zeroS':Slt:=⟨false,false,0,0,0,s0⟩
def NewS (k:Nat):List Slt:=List.replicate k bare ++ List.replicate (32-k) zeroS'
def NewN (k:Nat):List Int:=(List.range k).map (fun i:Nat => (i:Int)+1) ++ List.replicate (32-k) 0
theorem newS_len {k:Nat} (h:k<=32):(NewS k).length=32:=by unfold NewS;simp;omega
theorem newN_len {k:Nat} (h:k<=32):(NewN k).length=32:=by unfold NewN;simp;omega
theorem newS_step {k:Nat} (h:k<32):put (NewS k) (k:Int) bare=NewS (k+1):=by
 unfold put NewS
 rw [Int.toNat_natCast]
 apply List.ext_getElem
 ·simp;omega
 ·intro i h1 h2
  rw [List.getElem_set]
  simp only [List.getElem_append,List.length_replicate,List.getElem_replicate]
  split
  ·rename_i e;subst e;simp
  ·rename_i e
   by_cases hi:i<k
   ·simp [hi,show i<k+1 by omega]
   ·have:¬ i<k+1:=by omega
    simp [hi,this]
theorem newN_step {k:Nat} (h:k<32):(NewN k).set k ((k:Int)+1)=NewN (k+1):=by
 unfold NewN
 apply List.ext_getElem
 ·simp;omega
 ·intro i h1 h2
  rw [List.getElem_set]
  simp only [List.getElem_append,List.length_map,List.length_range,List.getElem_map,List.getElem_range,List.getElem_replicate]
  split
  ·rename_i e;subst e;simp
  ·rename_i e
   by_cases hi:i<k
   ·simp [hi,show i<k+1 by omega]
   ·have:¬ i<k+1:=by omega
    simp [hi,this]
theorem new_built:Tryz.prog.built 210 []=some (arCells (NewS 0) (NewN 0) 0 0).toArray:=by kernel_rfl
theorem only_cells {a:Nat} {w:World}:∀ (vs:List Value) (o:Nat) (w1:World),Only (fun b => b=a) w w1->Only (fun b => b=a) w (w1.setCells a o vs)
 | [],o,w1,h => h
 | v :: r,o,w1,h => by rw [World.setCells];exact only_cells r _ _ (h.setCell (p:=⟨a,o,none⟩) (fun _ => rfl) v)
theorem below_cells {B a:Nat} {w:World} (hB:B<=a):∀ (vs:List Value) (o:Nat) (w1:World),Below B w w1->Below B w (w1.setCells a o vs)
 | [],o,w1,h => h
 | v :: r,o,w1,h => by rw [World.setCells];exact below_cells hB r _ _ (h.setCell (p:=⟨a,o,none⟩) hB v)
theorem newN_get {k:Nat} (h:k<32):(NewN 32).getD k 0=(k:Int)+1:=by
 unfold NewN
 rw [List.getD_eq_getElem?_getD]
 simp [h]
theorem new_links:∀ (n k:Nat),n+k=32->FrL ((NewN 32).set 31 (-1)) (if k=32 then -1 else (k:Int)) ((List.range' k n).map Int.ofNat)
 | 0,k,h => by rw [if_pos (by omega)];rfl
 | n+1,k,h => by
  rw [if_neg (by omega),List.range'_succ,List.map_cons]
  refine ⟨rfl,thr_iff.2 (by simp;omega),?_⟩
  have ih:=new_links n (k+1) (by omega)
  have e:((NewN 32).set 31 (-1)).getD (Int.ofNat k).toNat 0=if k+1=32 then -1 else ((k+1:Nat):Int):=by
   rw [getD_set _ _ _ _ (by rw [newN_len (Nat.le_refl _)];decide)]
   show (if 31=k then (-1:Int) else (NewN 32).getD k 0)=_
   by_cases hk:31=k
   ·rw [if_pos hk,if_pos (by omega)]
   ·rw [if_neg hk,if_neg (by omega),newN_get (by omega)];rfl
  rw [e];exact ih
theorem new_arena {a:Nat} {w:World} (h:ArW a (NewS 32) ((NewN 32).set 31 (-1)) 0 0 w):ArAt a newF.S newF.free 0 w:=by
 refine ⟨⟨(NewN 32).set 31 (-1),0,h,?_,fun i hi hn => ?_⟩,by decide⟩
 ·have:=new_links 32 0 rfl
  rwa [if_neg (by decide),<- List.range_eq_range'] at this
 ·exact absurd (by
   have h0:=thr_iff.1 hi
   show i ∈ (List.range 32).map Int.ofNat
   exact List.mem_map.2 ⟨i.toNat,List.mem_range.2 (by omega),by show (i.toNat:Int)=i;omega⟩) hn
def NewPost (w:World) (e:Ending) (w':World):Prop:=e = .returned (.pointer (some ⟨w.heap.size,0,none⟩))/\ArAt w.heap.size newF.S newF.free 0 w'/\Below w.heap.size w w'
theorem anew_any (w:World):Calls Tryz.prog 56 #[] w (NewPost w):=by
 obtain ⟨zs,hzs⟩:∃ zs,zs=arCells (NewS 0) (NewN 0) 0 0:=⟨_,rfl⟩
 have HBT:Hid (Tryz.prog.built 210 []=some zs.toArray):=by show _=_;rw [hzs];exact new_built
 have HW0:Hid (ArW w.heap.size (NewS 0) (NewN 0) 0 0 (w.alloc (.cells zs.toArray 210))):=⟨by rw [hzs];exact World.alloc_heap_new _ _,newS_len (by omega),newN_len (by omega)⟩
 have HB0:Hid (Below w.heap.size w (w.alloc (.cells zs.toArray 210))):=(Below.refl _ _).alloc (Nat.le_refl _) _
 obtain ⟨W0,hW0⟩:∃ W0,W0=w.alloc (.cells zs.toArray 210):=⟨_,rfl⟩
 rw [<- hW0] at HW0 HB0
 have HWW:=zh hW0
 clear hzs hW0
 go_enter Tryz.func56,Tryz.ntmps56
 go_wp2_with (first
  | (refine wpList_build_as (by rfl) 210 (by rfl) zs HBT.out ?_)
  | (refine wpList_box_agg (by rfl) 210 (.tmp 3) (by rfl) zs (by rfl) ?_))
 rw [<- HWW.out]
 go_loopw [5] (fun x wr => ∃ k:Nat,k<=32/\x = .int .i64 (k:Int)/\ArW w.heap.size (NewS k) (NewN k) 0 0 wr/\Below w.heap.size w wr) (fun x _ => 32-(intOf x).toNat)
 case atStart => exact ⟨0,by omega,rfl,HW0.out,HB0.out⟩
 case round =>
  obtain ⟨k,hk,rfl,hA,hb⟩:=hrel
  by_cases hlt:k<32
  ·have n1:(0:Int)<=(k:Int):=by omega
   have n2:(k:Int)<32:=by omega
   obtain ⟨cs,hcs⟩:∃ cs,cs=bare.cells:=⟨_,rfl⟩
   have HCL:Hid (cs.length=17):=by show _=_;rw [hcs];rfl
   have HC1:Hid (∀ u ∈ cs,u.oneCell'=true):=by show ∀ _,_;rw [hcs];exact bare.one
   have HB:=zh (bare_any wr.drew)
   rw [<- hcs] at HB
   obtain ⟨W,hW⟩:∃ W,W=wr.drew.alloc (.cells cs.toArray 115):=⟨_,rfl⟩
   have hbW:Below wr.heap.size wr W:=by rw [hW];exact ((Below.refl _ _).drew).alloc (Nat.le_refl _) _
   have hA1:=hA.below hbW
   have HTH:Hid (W.there w.heap.size (k * 17) cs.toArray.size):=by
    show W.there _ _ _
    rw [show cs.toArray.size=17 by rw [List.size_toArray];exact HCL.out];exact hA1.there hlt
   have hA2:ArW w.heap.size (NewS (k+1)) (NewN k) 0 0 (W.setCells w.heap.size (k * 17) cs):=by rw [hcs,<- newS_step hlt];exact hA1.put hlt bare
   obtain ⟨W2,hW2⟩:∃ W2,W2=W.setCells w.heap.size (k * 17) cs:=⟨_,rfl⟩
   have hb2:Below w.heap.size w W2:=by rw [hW2];exact below_cells (Nat.le_refl _) _ _ _ (hb.trans (hbW.mono hb.size))
   rw [<- hW2] at hA2
   have c2:W2.cell? ⟨w.heap.size,544+k,none⟩=some (.int .i64 ((NewN k).getD k 0)):=hA2.next hlt
   have f2:=hA2.free (544+k)
   have hA3:=hA2.setN hlt ((k:Int)+1)
   rw [newN_step hlt] at hA3
   have HA3:=zh hA3
   have HB3:Hid (Below w.heap.size w (W2.setCell ⟨w.heap.size,544+k,none⟩ (.int .i64 ((k:Int)+1)))):=hb2.setCell (p:=⟨w.heap.size,544+k,none⟩) (Nat.le_refl _) _
   have HWx:=zh hW;have HW2:=zh hW2;have HLT:=zh hlt
   clear hcs hW hbW hA1 hA2 hW2 hb2 hA3 hA hb hlt hk
   go_wp2_with fail
   refine wp_region_held_drew (S:=fun _ => True) (by kernel_rfl) trivial (fun _ => ?_)
   refine tk 0 rfl (.pointer (some ⟨w.heap.size,0,none⟩)) (fun w _ => by go_simp) trivial ?_
   try simp only [zq]
   refine tk 1 rfl (.int .i64 (k:Int)) (fun w _ => by go_simp) trivial ?_
   try simp only [zq]
   refine tk 3 rfl (.pointer (some ⟨w.heap.size,0,none⟩)) (fun w _ => by go_simp) trivial ?_
   try simp only [zq]
   refine tk 4 rfl (.pointer (some ⟨w.heap.size,0,none⟩)) (fun w _ => by go_simp) trivial ?_
   try simp only [zq]
   refine zr 2 rfl (fun K hK => ?_)
   go_simp
   refine HB.out.mono ?_
   rintro e w3 ⟨rfl,hw3⟩
   rw [hw3]
   clear hw3 HB
   rw [<- HWx.out]
   refine hK.out _ _ trivial (fun _ => ?_)
   clear hK K
   try simp only [zq]
   refine tk 5 rfl (.pointer (some ⟨w.heap.size,k * 17,none⟩)) (fun w _ => by go_simp) trivial ?_
   try simp only [zq]
   refine zr 6 rfl (fun K hK => ?_)
   rw [if_pos (by rfl)]
   refine wp_store_mid 115 (.tmp 13) (.tmp 10) (by rfl) w.heap.size (k * 17) cs.toArray (by rfl) (by rfl) HTH.out (by rw [List.size_toArray,HCL.out];kernel_rfl) (all_oneCell_toArray HC1.out) ?_
   rw [List.toList_toArray,<- HW2.out]
   refine hK.out _ _ trivial (fun _ => ?_)
   clear hK K
   refine wpAnyH_done (by kernel_rfl) ?_ _
   try simp only [zq]
   go_wp2
   go_roundw
   case rel => exact ⟨k+1,HLT.out,by go_num,HA3.out,HB3.out⟩
   case measure => have:=HLT.out;simp [intOf];omega
  ·have hk2:k=32:=by omega
   subst hk2
   have c2:=hA.next (k:=31) (by omega)
   have f2:=hA.free (544+31)
   have hA3:=hA.setN (k:=31) (by omega) (-1)
   have HA3:=zh hA3
   have HB3:Hid (Below w.heap.size w (wr.setCell ⟨w.heap.size,575,none⟩ (.int .i64 (-1)))):=hb.setCell (p:=⟨w.heap.size,575,none⟩) (Nat.le_refl _) _
   clear hA hb hlt hk hA3
   go_wp2
   go_ret
   exact ⟨rfl,new_arena HA3.out,HB3.out⟩
end Fr
end
section
open Go.RowKit Go.Maps
namespace Fr
theorem tnew_any (a:Nat) (w:World):Calls Tryz.prog 57 #[.pointer (some ⟨a,0,none⟩)] w fun e w' => e = .returned (.pointer (some ⟨w.heap.size,0,none⟩))/\TrAt w.heap.size a (-1) w'/\Below w.heap.size w w':=by
 have HE:Hid (TrAt w.heap.size a (-1) (w.alloc (.cells #[.pointer (some ⟨a,0,none⟩),.int .i64 (-1)] 205))/\Below w.heap.size w (w.alloc (.cells #[.pointer (some ⟨a,0,none⟩),.int .i64 (-1)] 205))):=⟨World.alloc_heap_new _ _,(Below.refl _ _).alloc (Nat.le_refl _) _⟩
 go_enter Tryz.func57,Tryz.ntmps57
 go_wp2
 go_ret
 exact ⟨rfl,HE.out⟩
theorem gnew_any (a:Nat) (w:World):Calls Tryz.prog 58 #[.pointer (some ⟨a,0,none⟩)] w fun e w' => e = .returned (.pointer (some ⟨w.heap.size,0,none⟩))/\GbAt w.heap.size a (-1) w'/\Below w.heap.size w w':=by
 have HE:Hid (GbAt w.heap.size a (-1) (w.alloc (.cells #[.pointer (some ⟨a,0,none⟩),.int .i64 (-1)] 203))/\Below w.heap.size w (w.alloc (.cells #[.pointer (some ⟨a,0,none⟩),.int .i64 (-1)] 203))):=⟨World.alloc_heap_new _ _,(Below.refl _ _).alloc (Nat.le_refl _) _⟩
 go_enter Tryz.func58,Tryz.ntmps58
 go_wp2
 go_ret
 exact ⟨rfl,HE.out⟩
end Fr
end
section
open Go.RowKit
namespace Fr
theorem within_any (x y:Nat) (w:World):Calls Tryz.prog 263 #[.int .u64 (x:Int),.int .u64 (y:Int)] w fun e w' => e = .returned (.bool (within x y))/\w'=w:=by
 unfold within
 go_enter Tryz.func263,Tryz.ntmps263
 go_wp2
 go_ret
 exact ⟨rfl,rfl⟩
def isL (l:Int):Bool:=decide (0<=l/\l<=2)
theorem isl_any (l:Int) (w:World):Calls Tryz.prog 279 #[.int .i64 l] w fun e w' => e = .returned (.bool (isL l))/\w'=w:=by
 unfold isL
 by_cases h0:0<=l
 ·by_cases h2:l<=2
  ·rw [decide_eq_true ⟨h0,h2⟩]
   go_enter Tryz.func279,Tryz.ntmps279
   go_wp2
   go_ret
   exact ⟨rfl,rfl⟩
  ·rw [decide_eq_false (fun h => h2 h.2)]
   have h3:2<l:=by omega
   clear h2
   go_enter Tryz.func279,Tryz.ntmps279
   go_wp2
   go_ret
   exact ⟨by simp;omega,rfl⟩
 ·rw [decide_eq_false (fun h => h0 h.1)]
  have h3:l<0:=by omega
  clear h0
  go_enter Tryz.func279,Tryz.ntmps279
  go_wp2
  go_ret
  exact ⟨by simp,rfl⟩
theorem enough_low (l:Int) (w:World):Calls Tryz.prog 262 #[.int .i64 l,.int .i64 0] w fun e w' => e = .returned (.bool (isL l))/\w'=w:=by
 have H0:=zh (fun w => isl_any 0 w)
 have HL:=zh (fun w => isl_any l w)
 cases hi:isL l with
 | false =>
  rw [hi] at HL
  clear hi
  go_enter Tryz.func262,Tryz.ntmps262
  go_wp2_with (go_at_call 279;(with_reducible refine (HL.out _).mono ?_);rintro e w' ⟨rfl,rfl⟩)
  go_ret
  exact ⟨rfl,rfl⟩
 | true =>
  rw [hi] at HL
  have h0:0<=l:=by
   unfold isL at hi
   exact (of_decide_eq_true hi).1
  have H0':Hid (∀ w:World,Calls Tryz.prog 279 #[.int .i64 0] w fun e w' => e = .returned (.bool true)/\w'=w):=fun w => isl_any 0 w
  clear hi H0
  go_enter Tryz.func262,Tryz.ntmps262
  go_wp2_with fail
  refine (HL.out _).mono ?_
  rintro e w' ⟨rfl,rfl⟩
  go_wp2_with fail
  refine (H0'.out _).mono ?_
  rintro e w' ⟨rfl,rfl⟩
  go_wp2
  go_ret
  exact ⟨by simp,rfl⟩
end Fr
end
section
open Go.RowKit Go.Maps
namespace Fr
open Vw (Sess)
def Req.cells (r:Req):List Value:=[.string r.user,.string r.label,.int .u64 (r.scopes:Int),.int .i64 r.level,.int .i64 r.life]
structure Bth where
 p:Sess
 r:Req
 now:Int
 births:Int
 full:Bool
 til:Int
def Bth.cells (b:Bth):List Value:=b.p.cells ++ (b.r.cells ++ [.int .i64 b.now,.int .i64 b.births,.bool b.full,.int .i64 b.til])
def erV (no:Int):Value:=if no=0 then .nilIface else .iface 101 (.int .i64 no)
inductive Rul where
 | noUser | noLabel | noLevel | noTime | tooLong | tooDeep | tooWide | noRaise | noBirths | noRoom
def Rul.fn:Rul->Nat
 | .noUser => 213 | .noLabel => 219 | .noLevel => 214 | .noTime => 215 | .tooLong => 222 | .tooDeep => 220 | .tooWide => 221 | .noRaise => 223 | .noBirths => 216 | .noRoom => 217
def Rul.broken (b:Bth):Rul->Bool
 | .noUser => !nameB b.r.user.data.toList
 | .noLabel => !nameB b.r.label.data.toList
 | .noLevel => !isL b.r.level
 | .noTime => b.til == 0
 | .tooLong => decide (300<b.r.life)
 | .tooDeep => decide (b.p.depth<0\/6<=b.p.depth)
 | .tooWide => !within b.r.scopes b.p.scopes
 | .noRaise => !canRaise b.p.level b.r.level
 | .noBirths => decide (b.births<0\/1048576<=b.births)
 | .noRoom => b.full
def BthAt (x:Nat) (b:Bth) (w:World):Prop:=w.heap[x]? = some (.cells b.cells.toArray 360 (0,0))
theorem BthAt.lt {x:Nat} {b:Bth} {w:World} (h:BthAt x b w):x<w.heap.size:=(zx h)
theorem BthAt.below {x:Nat} {b:Bth} {w w':World} (h:BthAt x b w) (hb:Below w.heap.size w w'):BthAt x b w':=(hb.block x h.lt).trans h
theorem BthAt.cell {x:Nat} {b:Bth} {w:World} (h:BthAt x b w) (j:Nat):w.cell? ⟨x,j,none⟩=b.cells[j]?:=by rw [zc h,List.getElem?_toArray]
section
variable {x:Nat} {b:Bth} {w:World}
theorem noUser_any (h:BthAt x b w) (hs:b.r.user.size<=9223372036854775807):Calls Tryz.prog 213 #[.pointer (some ⟨x,0,none⟩)] w fun e w' => e = .returned (.bool (Rul.broken b .noUser))/\Below w.heap.size w w':=by
 have c1:w.cell? ⟨x,12,none⟩=some (.string b.r.user):=h.cell 12
 have HN:=zh (fun w => name_any b.r.user hs w)
 clear h hs
 go_enter Tryz.func213,Tryz.ntmps213
 go_wp2_with fail
 refine (HN.out _).mono ?_
 rintro e w2 ⟨rfl,hb2⟩
 go_wp2
 go_ret
 exact ⟨rfl,hb2⟩
theorem noLabel_any (h:BthAt x b w) (hs:b.r.label.size<=9223372036854775807):Calls Tryz.prog 219 #[.pointer (some ⟨x,0,none⟩)] w fun e w' => e = .returned (.bool (Rul.broken b .noLabel))/\Below w.heap.size w w':=by
 have c1:w.cell? ⟨x,13,none⟩=some (.string b.r.label):=h.cell 13
 have HN:=zh (fun w => name_any b.r.label hs w)
 clear h hs
 go_enter Tryz.func219,Tryz.ntmps219
 go_wp2_with fail
 refine (HN.out _).mono ?_
 rintro e w2 ⟨rfl,hb2⟩
 go_wp2
 go_ret
 exact ⟨rfl,hb2⟩
theorem noLevel_any (h:BthAt x b w):Calls Tryz.prog 214 #[.pointer (some ⟨x,0,none⟩)] w fun e w' => e = .returned (.bool (Rul.broken b .noLevel))/\Below w.heap.size w w':=by
 have c1:w.cell? ⟨x,15,none⟩=some (.int .i64 b.r.level):=h.cell 15
 have HN:=zh (fun w => enough_low b.r.level w)
 clear h
 go_enter Tryz.func214,Tryz.ntmps214
 go_wp2_with fail
 refine (HN.out _).mono ?_
 rintro e w' ⟨rfl,rfl⟩
 go_wp2
 go_ret
 exact ⟨rfl,Below.refl _ _⟩
theorem noTime_any (h:BthAt x b w):Calls Tryz.prog 215 #[.pointer (some ⟨x,0,none⟩)] w fun e w' => e = .returned (.bool (Rul.broken b .noTime))/\Below w.heap.size w w':=by
 have c1:w.cell? ⟨x,20,none⟩=some (.int .i64 b.til):=h.cell 20
 clear h
 go_enter Tryz.func215,Tryz.ntmps215
 go_wp2
 go_ret
 exact ⟨rfl,Below.refl _ _⟩
theorem tooLong_any (h:BthAt x b w):Calls Tryz.prog 222 #[.pointer (some ⟨x,0,none⟩)] w fun e w' => e = .returned (.bool (Rul.broken b .tooLong))/\Below w.heap.size w w':=by
 have c1:w.cell? ⟨x,16,none⟩=some (.int .i64 b.r.life):=h.cell 16
 clear h
 go_enter Tryz.func222,Tryz.ntmps222
 go_wp2
 go_ret
 exact ⟨rfl,Below.refl _ _⟩
theorem noRoom_any (h:BthAt x b w):Calls Tryz.prog 217 #[.pointer (some ⟨x,0,none⟩)] w fun e w' => e = .returned (.bool (Rul.broken b .noRoom))/\Below w.heap.size w w':=by
 have c1:w.cell? ⟨x,19,none⟩=some (.bool b.full):=h.cell 19
 clear h
 go_enter Tryz.func217,Tryz.ntmps217
 go_wp2
 go_ret
 exact ⟨rfl,Below.refl _ _⟩
theorem tooDeep_any (h:BthAt x b w):Calls Tryz.prog 220 #[.pointer (some ⟨x,0,none⟩)] w fun e w' => e = .returned (.bool (Rul.broken b .tooDeep))/\Below w.heap.size w w':=by
 have c1:w.cell? ⟨x,11,none⟩=some (.int .i64 b.p.depth):=h.cell 11
 have HE:Hid (Rul.broken b .tooDeep=(decide (b.p.depth<0) || decide (6<=b.p.depth))):=by show decide (_\/_)=_;simp
 clear h
 go_enter Tryz.func220,Tryz.ntmps220
 go_wp2
 all_goals (go_ret;exact ⟨by rw [HE.out];simp [*],Below.refl _ _⟩)
theorem noBirths_any (h:BthAt x b w):Calls Tryz.prog 216 #[.pointer (some ⟨x,0,none⟩)] w fun e w' => e = .returned (.bool (Rul.broken b .noBirths))/\Below w.heap.size w w':=by
 have c1:w.cell? ⟨x,18,none⟩=some (.int .i64 b.births):=h.cell 18
 have HE:Hid (Rul.broken b .noBirths=(decide (b.births<0) || decide (1048576<=b.births))):=by show decide (_\/_)=_;simp
 clear h
 go_enter Tryz.func216,Tryz.ntmps216
 go_wp2
 all_goals (go_ret;exact ⟨by rw [HE.out];simp [*],Below.refl _ _⟩)
theorem tooWide_any (h:BthAt x b w):Calls Tryz.prog 221 #[.pointer (some ⟨x,0,none⟩)] w fun e w' => e = .returned (.bool (Rul.broken b .tooWide))/\Below w.heap.size w w':=by
 have HW:=zh (fun w => within_any b.r.scopes b.p.scopes w)
 have HS:Hid (∀ W',Below w.heap.size w W'->W'.cell? ⟨x,14,none⟩=some (.int .u64 (b.r.scopes:Int))/\W'.cell? ⟨x,7,none⟩=some (.int .u64 (b.p.scopes:Int))):=fun W' hb => ⟨(h.below hb).cell 14,(h.below hb).cell 7⟩
 clear h
 go_enter Tryz.func221,Tryz.ntmps221
 go_wp2_with fail
 have hb0:Below w.heap.size w w.drew:=(Below.refl _ _).drew
 refine wp_region_held_drew (S:=fun W' => W'.cell? ⟨x,14,none⟩=some (.int .u64 (b.r.scopes:Int))/\W'.cell? ⟨x,7,none⟩=some (.int .u64 (b.p.scopes:Int))) (by kernel_rfl) (HS.out _ hb0) (fun _ => ?_)
 refine tq 0 rfl (.pointer (some ⟨x,0,none⟩)) (HS.out _ hb0) ?_
 try simp only [zq]
 refine tq 1 rfl (.pointer (some ⟨x,0,none⟩)) (HS.out _ hb0) ?_
 try simp only [zq]
 refine tq 2 rfl (.pointer (some ⟨x,12,none⟩)) (HS.out _ hb0) ?_
 try simp only [zq]
 refine tq 3 rfl (.pointer (some ⟨x,14,none⟩)) (HS.out _ hb0) ?_
 try simp only [zq]
 refine tq 4 rfl (.int .u64 (b.r.scopes:Int)) (HS.out _ hb0) ?_
 try simp only [zq]
 refine tq 5 rfl (.pointer (some ⟨x,0,none⟩)) (HS.out _ hb0) ?_
 try simp only [zq]
 refine tq 6 rfl (.pointer (some ⟨x,0,none⟩)) (HS.out _ hb0) ?_
 try simp only [zq]
 refine tq 7 rfl (.pointer (some ⟨x,0,none⟩)) (HS.out _ hb0) ?_
 try simp only [zq]
 refine tq 8 rfl (.pointer (some ⟨x,7,none⟩)) (HS.out _ hb0) ?_
 try simp only [zq]
 refine tq 9 rfl (.int .u64 (b.p.scopes:Int)) (HS.out _ hb0) ?_
 try simp only [zq]
 refine zr 10 rfl (fun K hK => ?_)
 go_simp
 refine (HW.out _).mono ?_
 rintro e w3 ⟨rfl,hw3⟩
 rw [hw3]
 refine hK.out _ _ (HS.out _ hb0) (fun _ => ?_)
 clear hK K
 try simp only [zq]
 refine tq 11 rfl (.bool (!within b.r.scopes b.p.scopes)) (HS.out _ hb0) ?_
 try simp only [zq]
 refine tq 12 rfl (.bool (!within b.r.scopes b.p.scopes)) (HS.out _ hb0) ?_
 try simp only [zq]
 refine wpAnyH_done (by kernel_rfl) ?_ _
 try simp only [zq]
 go_wp2
 go_ret
 exact ⟨rfl,hb0⟩
end
end Fr
end
end Go.Proofs.YtimhglmfckfclaaGreatDoor
