/- Parts of the proof. -/
import Derived.Test.YtimhglmfckfclaaGreatDoorM30
set_option linter.unusedVariables false
set_option linter.unusedSimpArgs false
set_option maxRecDepth 100000
set_option maxHeartbeats 16000000
namespace Go.Proofs.YtimhglmfckfclaaGreatDoor
section
open Go.RowKit Go.Maps
namespace Fr
open Vw (Sess)
open Ex (Ent wo ExpAt)
section
variable {lo:Nat} {P:Pa} {st st1 st2:FS} {nw c d:Nat} {Fe:Nat->Prop} {w w' w'':World}
theorem may_okE {s:Sess} (h:mayS s=true):thr s.slot=true/\Ex.okE s.slot s.birth s.dl:=by
 obtain ⟨m1,m2,m3,m4,m5,m6,m7⟩:=mayS_iff.1 h
 exact ⟨thr_iff.2 (by omega),by unfold Ex.okE;omega⟩
theorem bne_false {a b:Int} (h:a=b):(a != b)=false:=by rw [h];simp
theorem bne_true {a b:Int} (h:¬ a=b):(a != b)=true:=by simpa using h
theorem layF_no {s:Sess} {no:Int} (h:layF st s=some (st2,no)):no=0\/no=9:=by
 unfold layF at h
 split at h
 ·obtain ⟨s1,h1,h2⟩:=Option.map_eq_some_iff.1 h
  cases h2
  exact .inl rfl
 ·cases h;exact .inr rfl
theorem fborn (h:ForAt lo P st nw Fe w) (hD:DeepOk st) (hbi:0<=st.births/\st.births<=1048576) (hw:nw<=1099511627776) (s:Sess) (hu:s.user.size<=9223372036854775807) (hl:s.label.size<=9223372036854775807) (hsc:s.scopes<18446744073709551616) (no:Int) (hc:bornF st s=some (st2,no)) :
  Calls Tryz.prog 24 #[.pointer (some ⟨P.f,0,none⟩),.agg s.cells.toArray] w fun e w' => e = .returned (erV no)/\FoTo lo P st2 6 nw Fe w w':=by
 have hB:=born_in h s hu hl hsc
 have hwr:IntKind.i64.wrap (st.births+1)=st.births+1:=IntWalk.i64_in _ (by omega)
 have hb0:Below w.heap.size w (w.alloc (.cells s.cells.toArray 30)):=(Below.refl _ _).alloc (Nat.le_refl _) _
 have keep:∀ {no:Int} {w':World} {e:Ending},(e = .returned (erV no)/\Below w.heap.size w w')->(e = .returned (erV no)/\FoTo lo P st 6 nw Fe w w'):=fun ⟨h1,h2⟩ => ⟨h1,FoTo.of_below h h2⟩
 unfold bornF at hc
 by_cases h1:mayS s=false\/s.born≠st.clock
 ·rw [if_pos h1] at hc
  cases hc
  cases hm:mayS s with
  | false => exact (born_a (by rw [hm] at hB;exact hB)).mono (fun e w' h => keep h)
  | true => exact (born_b (by rw [hm] at hB;exact hB) (bne_true (h1.resolve_left (by rw [hm];decide)))).mono (fun e w' h => keep h)
 ·rw [if_neg h1] at hc
  have hm:mayS s=true:=by
   cases h2:mayS s with
   | true => rfl
   | false => exact absurd (.inl h2) h1
  have hbo:(s.born != st.clock)=false:=bne_false (Decidable.byContradiction fun h2 => h1 (.inr h2))
  rw [hm] at hB
  by_cases h2:s.birth≠st.births+1
  ·rw [if_pos h2] at hc
   cases hc
   exact (born_c hB hbo (bne_true h2) hwr).mono (fun e w' h => keep h)
  ·rw [if_neg h2] at hc
   have hbb:(s.birth != st.births+1)=false:=bne_false (Decidable.byContradiction h2)
   have hmay:∀ W,Below (w.alloc (.cells s.cells.toArray 30)).heap.size (w.alloc (.cells s.cells.toArray 30)) W->Calls Tryz.prog 40 #[.pointer (some ⟨P.f,0,none⟩),.agg s.cells.toArray] W fun e w' => e = .returned (erV (mayF st s))/\Below W.heap.size W w':=fun W hb => fmay ((h.below hb0).below hb) hD s
   by_cases h3:mayF st s≠0
   ·rw [if_pos h3] at hc
    cases hc
    exact (born_d hB hbo hbb hwr _ h3 hmay).mono (fun e w' h => keep h)
   ·rw [if_neg h3] at hc
    have h3':mayF st s=0:=Decidable.byContradiction h3
    rw [h3'] at hmay
    obtain ⟨⟨s1,n1⟩,hl1,hl2⟩:=Option.map_eq_some_iff.1 hc
    obtain ⟨k1,k2⟩:=may_okE hm
    have hlay:∀ W,Below (w.alloc (.cells s.cells.toArray 30)).heap.size (w.alloc (.cells s.cells.toArray 30)) W->Calls Tryz.prog 41 #[.pointer (some ⟨P.f,0,none⟩),.agg s.cells.toArray] W fun e w' => e = .returned (erV n1)/\FoTo lo P s1 6 nw Fe W w':=fun W hb => flay ((h.below hb0).below hb) hw s k1 k2 n1 hl1
    rcases layF_no hl1 with e0 | e9
    ·subst e0
     have e2:st2={ s1 with births:=s1.births+1 }/\no=0:=by
      simp only [if_true] at hl2
      exact ⟨(Prod.mk.inj hl2).1.symm,(Prod.mk.inj hl2).2.symm⟩
     obtain ⟨rfl,rfl⟩:=e2
     have hb1:=(layF_keep hl1).1
     refine (born_f hB hbo hbb hwr hb1 hmay hlay).mono ?_
     rintro e w' ⟨rfl,h4⟩
     exact ⟨rfl,by rw [hb1];exact h4⟩
    ·subst e9
     have e2:st2=s1/\no=9:=by
      simp only [show ¬ ((9:Int)=0) by decide,if_false] at hl2
      exact ⟨(Prod.mk.inj hl2).1.symm,(Prod.mk.inj hl2).2.symm⟩
     obtain ⟨rfl,rfl⟩:=e2
     exact born_e hB hbo hbb hwr hmay hlay
end
end Fr
end
section
open Go.RowKit
namespace Fr
theorem load_bool (w:World) (g:Nat) (b:Bool) (hc:w.cell? ⟨g,0,none⟩=some (.bool b)):(loadVar 4 ⟨g,0,none⟩).run Tryz.prog w = .ok (.bool b) w:=by go_simp
theorem load_err (w:World) (g:Nat) (v:Value) (hc:w.cell? ⟨g,0,none⟩=some v):(loadVar 37 ⟨g,0,none⟩).run Tryz.prog w = .ok v w:=by go_simp
theorem results_cells2 {P:Program} {fn:Func} {p q:Tmp} {ty ty2:TypeId} (h:fn.results=#[.cell p ty,.cell q ty2]) (tmps:Array Value) (w:World) (g g2:Nat) (v v2:Value)
  (hp:tmps.getD p undef = .pointer (some ⟨g,0,none⟩)) (hq:tmps.getD q undef = .pointer (some ⟨g2,0,none⟩)) (h1:(loadVar ty ⟨g,0,none⟩).run P w = .ok v w) (h2:(loadVar ty2 ⟨g2,0,none⟩).run P w = .ok v2 w) :
  (results fn tmps).run P w = .ok (.tuple #[v,v2]) w:=by
 have hp':tmps[p]?.getD undef = .pointer (some ⟨g,0,none⟩):=by simpa using hp
 have hq':tmps[q]?.getD undef = .pointer (some ⟨g2,0,none⟩):=by simpa using hq
 simp [results,h,hp',hq',asAddr,h1,h2]
end Fr
end
section
open Go.RowKit Go.Maps Go.Shelf
namespace Fr
open Vw (Sess)
open Ex (Ent wo ExpAt)
attribute [local go_sem] Oper.semAt_some
section
variable {lo:Nat} {P:Pa} {st st1 st2:FS} {nw c d:Nat} {Fe:Nat->Prop} {w w' w'':World}
structure FB (B:Nat) (x y:Bool) (w A:World):Prop where
 b1:Boxed A B 4 (.bool x)
 b2:Boxed A (B+1) 4 (.bool y)
 bel:Below B w A
theorem FB.turn {B:Nat} {x y:Bool} {w A A':World} {row:Option Nat} (h:FB B x y w A) (hg:A.grownBy A' row) (hr:∀ r,row=some r->B+1<r):FB B x y w A' :=
 ⟨h.b1.kept hg (fun e => by have:=hr _ e.symm;omega),h.b2.kept hg (fun e => by have:=hr _ e.symm;omega),h.bel.grown hg (Nat.le_of_lt h.b1.lt) (fun k e => by have:=hr k e;omega)⟩
theorem ffull (h:ForAt lo P st nw Fe w) :
  Calls Tryz.prog 64 #[.pointer (some ⟨P.f,0,none⟩)] w fun e w' => e = .returned (.tuple #[.bool st.free.isEmpty,.bool (full st)])/\Below w.heap.size w w':=by
 obtain ⟨r1,hr1⟩:∃ r1,r1=st.free.isEmpty:=⟨_,rfl⟩
 obtain ⟨r2,hr2⟩:∃ r2,r2=full st:=⟨_,rfl⟩
 have HR1:=zh hr1
 have HR2:Hid (r2=(st.free.isEmpty && st.garb == -1)):=hr2
 rw [<- hr1,<- hr2]
 clear hr1 hr2
 obtain ⟨W1,hW1⟩:∃ W1,W1=w.alloc (.cells #[.bool false] 4):=⟨_,rfl⟩
 obtain ⟨W2,hW2⟩:∃ W2,W2=W1.alloc (.cells #[.bool false] 4):=⟨_,rfl⟩
 have hs1:W1.heap.size=w.heap.size+1:=by rw [hW1,World.size_alloc]
 have hs2:W2.heap.size=w.heap.size+2:=by rw [hW2,World.size_alloc,hs1]
 have hb1:Below w.heap.size w W1:=by rw [hW1];exact (Below.refl _ _).alloc (Nat.le_refl _) _
 have hb2:Below w.heap.size w W2:=by rw [hW2];exact hb1.alloc (by omega) _
 have hF:FB w.heap.size false false w W2:=⟨by rw [hW2];exact Boxed.alloc (by rw [hW1];exact Boxed.new _ _ _) _,by rw [hW2,<- hs1];exact Boxed.new _ _ _,hb2⟩
 have hh2:=h.below hb2
 have c2:=hh2.ptrs.1
 have HFR:=zh (frees_any P.a st.S st.free nw W2 hh2.ar)
 have HFL:Hid (st.free.length<=32):=by obtain ⟨⟨nx,fi,hA,hF,-⟩,hnd⟩:=h.ar;exact nodup_len32 hnd hF.thr
 have HH:=zh h
 have HF:=zh hF;have HS2:=zh hs2;have HW2:Hid (W2=(w.alloc (.cells #[.bool false] 4)).alloc (.cells #[.bool false] 4)):=by show _=_;rw [hW2,hW1]
 rw [hW2,hW1] at c2
 clear h hs1 hs2 hb1 hb2 hF hh2 hW1 hW2
 refine (callsIn_wide (n:=9)).1 ?_
 refine callsIn_of_wp_marks Tryz.func64 rfl trivial ?_ rfl
 simp only [Tryz.ntmps64,List.size_toArray,List.length_cons,List.length_nil,Nat.reduceAdd,Nat.reduceSub,Array.replicate_succ,Array.replicate_zero,List.push_toArray,List.append_toArray,List.nil_append,List.cons_append]
 refine wpIn_wide.2 ?_
 go_wp2_with fail
 rw [<- HW2.out]
 refine HFR.out.mono ?_
 rintro e w3 ⟨⟨v,rfl,q1,q2⟩,hb3⟩
 obtain ⟨bx,hbx⟩:∃ bx,bx=W2.heap.size:=⟨_,rfl⟩
 rw [<- hbx] at q1 q2 ⊢
 have hF3:FB w.heap.size false false w w3:=⟨(hb3.block _ HF.out.b1.lt).trans HF.out.b1,(hb3.block _ HF.out.b2.lt).trans HF.out.b2,HF.out.bel.trans (hb3.mono (by have:=HS2.out;omega))⟩
 have HF3:=zh hF3
 have HBX:Hid (bx=w.heap.size+2):=hbx.trans HS2.out
 have HBL:Hid (bx<w3.heap.size):=q1.lt
 have HUX:=zh (fun b (e:v.ownBlock=some b) => q2.lt b e)
 have HSEQ:=zh (frees_seq 8 bx v st.free (by have:=HFL.out;omega) (fun b => b=bx\/v.ownBlock=some b) w3 (gathered q1 q2))
 clear q1 q2 hb3 hF3 hbx c2
 go_wp2_with fail
 refine (wpIn_wide (n:=9)).1 ?_
 refine Fo.range_foot_sl (F:=Fence.wide) (n:=9) rfl (by omega) (gf:=117) (lb:=#[.pointer (some ⟨bx,0,none⟩)]) rfl trivial (enters_of Tryz.func117 (by kernel_rfl) rfl)
  HSEQ.out (fun _ => rfl) (fun b hb => ⟨by rcases hb with rfl | hb;exact HBL.out;exact (HUX.out b hb).2,rfl⟩)
  (fun pre Fp A => pre=[]/\FB w.heap.size false false w A/\∀ b,Fp b↔b=w.heap.size\/b=w.heap.size+1) (fun c pre Fp A => c = .ret/\pre≠[]/\FB w.heap.size false false w A/\∀ b,Fp b↔b=w.heap.size\/b=w.heap.size+1)
  (fun b => b=w.heap.size\/b=w.heap.size+1)
  (fun b hb => ⟨by have h1:=HBL.out;have h2:=HBX.out;omega,fun h => by
   have h2:=HBX.out
   rcases h with h | h
   ·omega
   ·have:=(HUX.out _ h).1;omega⟩)
  ?hU ?hUx ⟨rfl,HF3.out,fun b => Iff.rfl⟩ (fun T x => T.setIfInBounds 9 (.int .i64 x)) ?assign ?body ?done ?stop
 case hU =>
  rintro pre Fp A A' row ⟨h0,h1,h2⟩ hsz hg hrow
  exact ⟨h0,h1.turn hg (fun r e => by have:=(hrow r e).1;have:=HBL.out;have:=HBX.out;omega),h2⟩
 case hUx =>
  rintro c pre Fp A A' row ⟨hc,h0,h1,h2⟩ hsz hg hrow
  exact ⟨hc,h0,h1.turn hg (fun r e => by have:=(hrow r e).1;have:=HBL.out;have:=HBX.out;omega),h2⟩
 case assign =>
  intro l2 x A K2 hK
  unfold encI
  gi_wp2
  exact hK
 case body =>
  rintro l2 pre x Fp A ⟨h0,hV,hF⟩ hszA hpre
  have c1:=hV.b1.cell
  have c2:=hV.b2.cell
  have f1:=hV.b1.frozen
  have f2:=hV.b2.frozen
  have HE:Hid (FB w.heap.size false false w ((A.setCell ⟨w.heap.size,0,none⟩ (.bool false)).setCell ⟨w.heap.size+1,0,none⟩ (.bool false))/\Only Fp A ((A.setCell ⟨w.heap.size,0,none⟩ (.bool false)).setCell ⟨w.heap.size+1,0,none⟩ (.bool false))):=by
   have k1:=hV.b1.set (.bool false)
   have k2:Boxed (A.setCell ⟨w.heap.size,0,none⟩ (.bool false)) (w.heap.size+1) 4 (.bool false):=(Below.heap_setCell _ _ _ _ (by simp)).trans hV.b2
   refine ⟨⟨(Below.heap_setCell _ _ _ _ (by simp)).trans k1,k2.set _,(hV.bel.setCell (p:=⟨w.heap.size,0,none⟩) (Nat.le_refl _) _).setCell (p:=⟨w.heap.size+1,0,none⟩) (by simp) _⟩,?_⟩
   exact ((Only.refl _ A).setCell (p:=⟨w.heap.size,0,none⟩) (fun _ => (hF _).2 (.inl rfl)) _).setCell (p:=⟨w.heap.size+1,0,none⟩) (fun _ => (hF _).2 (.inr rfl)) _
  have HFF:=zh hF
  clear hV hF hszA hpre h0
  gi_wp2
  exact ⟨Fp,⟨rfl,by simp,HE.out.1,HFF.out⟩,HE.out.2,fun b hb => .inl hb⟩
 case done =>
  rintro D2 ys Fp A hys hD ⟨h0,hu,hF⟩ hnf hK
  have hemp:st.free=[]:=by rw [<- hys];exact h0
  have HE1:Hid (r1=true):=by show _=_;rw [HR1.out,hemp];rfl
  have HE2:Hid (r2=(st.garb == -1)):=by show _=_;rw [HR2.out,hemp];rfl
  have hh:=HH.out.below hu.bel
  have c4:=hh.ptrs.2.2.1
  have HGL:=zh (glast_any hh.gb)
  have c1:=hu.b1.cell
  have c2:=hu.b2.cell
  have f1:=hu.b1.frozen
  have f2:=hu.b2.frozen
  obtain ⟨gg,hgg⟩:∃ gg,gg=(st.garb == -1):=⟨_,rfl⟩
  have HGG:=zh hgg
  have hgg2:=hgg.symm
  have HE3:Hid (FB w.heap.size true gg w (((A.setCell ⟨w.heap.size,0,none⟩ (.bool true)).setCell ⟨w.heap.size+1,0,none⟩ (.bool gg)).putObj D2 (.deferred none))):=by
   have k1:=hu.b1.set (.bool true)
   have k2:Boxed (A.setCell ⟨w.heap.size,0,none⟩ (.bool true)) (w.heap.size+1) 4 (.bool false):=(Below.heap_setCell _ _ _ _ (by simp)).trans hu.b2
   have k3:FB w.heap.size true gg w ((A.setCell ⟨w.heap.size,0,none⟩ (.bool true)).setCell ⟨w.heap.size+1,0,none⟩ (.bool gg)):=⟨(Below.heap_setCell _ _ _ _ (by simp)).trans k1,k2.set _,(hu.bel.setCell (p:=⟨w.heap.size,0,none⟩) (Nat.le_refl _) _).setCell (p:=⟨w.heap.size+1,0,none⟩) (by simp) _⟩
   exact k3.turn (grownBy_putObj' _ D2 (.deferred none)) (fun r e => by cases e;have:=HBL.out;have:=HBX.out;omega)
  have HK:Hid (((A.setCell ⟨w.heap.size,0,none⟩ (.bool true)).setCell ⟨w.heap.size+1,0,none⟩ (.bool gg)).heap[D2]? = some (.deferred (some []))):=by
   have hne:D2≠w.heap.size/\D2≠w.heap.size+1:=⟨fun e => hnf ((hF _).2 (.inl e)),fun e => hnf ((hF _).2 (.inr e))⟩
   exact (Below.heap_setCell _ _ _ _ (show D2≠_ from hne.2)).trans ((Below.heap_setCell _ _ _ _ (show D2≠_ from hne.1)).trans hK)
  clear hys h0 hu hF hnf hK hemp hh hgg
  gi_wp2
  go_wp2_with fail
  refine HGL.out.mono ?_
  rintro e w5 ⟨rfl,hw5⟩
  rw [hw5]
  clear hw5
  go_wp2
  refine ⟨by simp,.inl ⟨_,_,rfl,run_takeDeferred (show _=_ from HK.out),?_⟩⟩
  exact ⟨_,results_cells2 rfl _ _ w.heap.size (w.heap.size+1) _ _ rfl rfl (load_bool _ _ _ HE3.out.b1.cell) (load_bool _ _ _ HE3.out.b2.cell),by rw [HE1.out,HE2.out,HGG.out],HE3.out.bel⟩
 case stop =>
  rintro D2 c pre Fp A hSp hD ⟨rfl,h0,hu,hF⟩ hnf hK
  have hne:st.free≠[]:=fun e => by
   rw [e] at hSp
   exact h0 (List.prefix_nil.1 hSp)
  have HE1:Hid (r1=false):=by
   show _=_
   rw [HR1.out]
   cases hfr:st.free with
   | nil => exact absurd hfr hne
   | cons _ _ => rfl
  have HE2:Hid (r2=false):=by show _=_;rw [HR2.out,<- HR1.out,HE1.out];rfl
  have HE3:Hid (FB w.heap.size false false w (A.putObj D2 (.deferred none))):=hu.turn (grownBy_putObj' _ D2 (.deferred none)) (fun r e => by cases e;have:=HBL.out;have:=HBX.out;omega)
  have HK:=zh hK
  clear hSp h0 hu hF hnf hK hne
  gi_wp2
  go_wp2_with fail
  refine ⟨by simp,.inl ⟨_,_,rfl,run_takeDeferred (show _=_ from HK.out),?_⟩⟩
  exact ⟨_,results_cells2 rfl _ _ w.heap.size (w.heap.size+1) _ _ rfl rfl (load_bool _ _ _ HE3.out.b1.cell) (load_bool _ _ _ HE3.out.b2.cell),by rw [HE1.out,HE2.out],HE3.out.bel⟩
end
end Fr
end
end Go.Proofs.YtimhglmfckfclaaGreatDoor
