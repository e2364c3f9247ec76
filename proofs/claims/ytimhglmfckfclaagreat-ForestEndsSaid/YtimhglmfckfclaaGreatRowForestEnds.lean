/- ForestEnds: for every input the law returns true, and its arguments read as they did. -/
import Derived.Test.YtimhglmfckfclaaGreatRows
import Derived.Test.YtimhglmfckfclaaGreatM45
import Derived.WalkKit
import Derived.ProofKit
import Derived.OpenShut
import Derived.Deep.DeepHandedRow
import Derived.Stop.Joined
import Derived.LaidMore
import Derived.LaidOnce
import Derived.ShutString
import Derived.SizedLaws
import Derived.Carry
namespace Go.Proofs.YtimhglmfckfclaaGreat.forestEnds
open Go.ChangeShapes Go.WideShapes Go.ChangeAt Go.RowKit
set_option linter.unusedVariables false
set_option maxRecDepth 100000
theorem own:ownKnob Tryz.prog.godebug=none:=by kernel_rfl
theorem lo:laidOutB Tryz.prog=true:=by kernel_rfl
theorem ct (H:Type) (enc:TypeId × Value→H) (W:World) (base:Nat) (args:Array Value) (ds gs:List (DataW H)) (bf:List MemPlace)
    (hval:∀ (j:Nat) t v,Tryz.f4.params[j]? = some t→args[j]? = some v→Value.okWide Tryz.prog W .any base t v)
    (hW:DataW.Whole enc Tryz.prog Tryz.f4.params.toList Rows.forestEndsSpec.vars false W args.toList ds gs bf)
    (hq:∀ k,(OpenSpec.ofChange Rows.forestEndsSpec).cond=some k→k H (ds ++ gs)=true)
    (hsz:(DataW.weightsEach Tryz.prog (Tryz.f4.params.toList ++ (OpenSpec.ofChange Rows.forestEndsSpec).bare.plain.varTypes Tryz.prog) (ds ++ gs)).all (·≤reachBytes)=true)
    (hL:laidMetH Tryz.prog Rows.forestEndsRow.laid W) (hsh:W.ShapedOpen Tryz.prog) :
    Calls Tryz.prog 4 args W fun e W' => ∃ v,e = .returned v∧Rows.forestEndsSpec.post enc Tryz.prog Tryz.f4 false true false false W args v W':=by
  have hW':=hW
  obtain ⟨p,q,hA0,hV,rfl,hfz,hnd⟩:=hW
  have hA:DataW.TrodAll enc Tryz.prog W 0 (fun _ => true) true Tryz.f4.params.toList args.toList ds p:=hA0
  rw [Tryz.params4] at hA hval
  obtain ⟨v0,vs0,d0,ds0,p0,q0,hargs,rfl,rfl,h0,r0⟩:=trodAll_cons hA
  obtain ⟨rfl,rfl,rfl⟩:=trodAll_nil r0
  obtain rfl:args=#[v0]:=by cases args;simp_all
  obtain ⟨rfl,rfl⟩:=trodVars_none hV
  have h0k:=h0
  obtain ⟨a0,t0,s0,l0⟩:=Ar.arg_rows 8 [3,3,3,3,9,9,33,3,3,3,3,3,3,3,9,9,33,3,3,3,3] (by kernel_rfl) (by decide) Tryz.underlying55 (by kernel_rfl) (hval 0 55 v0 rfl rfl) h0
  clear hA0
  simp only [List.append_nil] at hW'
  have q0:∀ x ∈ p0,x.block<W.heap.size:=fun x hx => hW'.lt x (by simp [hx])
  refine (forestEnds_walk v0 a0 l0 (fun s hs => forestEnds_row0 s (s0 s hs)) W t0).mono fun e W' ⟨he,hb⟩ => ?_
  subst he
  exact ⟨_,rfl,_,_,_,[],_,[],hW',trodAll_mk1 (shut_bool Tryz.underlying4 true),(trodAll_cons_mk (Below.trod lo (by kernel_rfl) (of_decide_eq_true (by kernel_rfl)) h0k hb q0) trodAll_mk0),rfl,hb.frame _,fun h => by cases h⟩
noncomputable def start (os:Os):World:=World.holding Tryz.prog os ⟨#[],#[],[]⟩
theorem reads (os:Os) {H:Type} (enc:TypeId × Value→H):∃ ps,DataW.whole enc Tryz.prog ((start os).forCall (fun _ _ => 0) ⟨#[],#[.slice none 0 0],[]⟩).memory Tryz.f4.params.toList Rows.forestEndsSpec.vars false (#[.slice none 0 0]:Array Value).toList 8=some ([.nil],[],ps) :=
  ⟨[],by kernel_rfl⟩
theorem wit (os:Os) {H:Type} (enc:TypeId × Value→H) (F:Stop.Interp) {ps:List MemPlace} (hx:DataW.whole enc Tryz.prog ((start os).forCall (fun _ _ => 0) ⟨#[],#[.slice none 0 0],[]⟩).memory Tryz.f4.params.toList Rows.forestEndsSpec.vars false (#[.slice none 0 0]:Array Value).toList 8=some ([.nil],[],ps)) :
    ∃ (w:World) (tape:Tape) (i:Input),w.os=os∧(w.forCall tape i).Shaped Tryz.checked.prog∧i.vars=[]∧Input.okWide Tryz.checked.prog (w.forCall tape i) .any w.heap.size 4 i ∧
      (OpenSpec.ofChange Rows.forestEndsSpec).preRow enc Tryz.checked.prog Tryz.f4 Rows.forestEndsRow.domain false Rows.forestEndsRow.laid (w.forCall tape i).memory i.args∧Assume.holds {} Tryz.checked.prog (lone (Frame.enter Tryz.checked.prog 4 i.args .normal) [] (w.forCall tape i)) :=
  witness_row_at (enc:=enc) (C:=Tryz.checked) false (start os) #[.slice none 0 0] rfl (by kernel_rfl) (by kernel_rfl) (by kernel_rfl) (OpenSpec.preRow_of_cond 8 hx (by kernel_rfl) (fun k hk => by cases hk) (by kernel_rfl) (laidMetH_nil _ _))
theorem lifted (os:Os) (sd:os.Started) (H:Type) (enc:TypeId × Value→H) (F:Stop.Interp) :
    ReturnsInHanded {} Tryz.checked os 4 .any ((OpenSpec.ofChange Rows.forestEndsSpec).preRow enc Tryz.prog Tryz.f4 Rows.forestEndsRow.domain false Rows.forestEndsRow.laid) (((OpenSpec.ofChange Rows.forestEndsSpec).at F).post enc Tryz.prog Tryz.f4 false true false false):=by
  obtain ⟨ps,hx⟩:=reads os enc
  refine returnsInHanded_of_row (C:=Tryz.checked) (s:=(OpenSpec.ofChange Rows.forestEndsSpec)) own sd (by kernel_rfl) Tryz.func4 ?_ ?_
  · exact wit os enc F hx
  · intro W base args ds gs bf hval hW _ hq hsz hL hsh _
    exact ct H enc W base args ds gs bf hval hW hq hsz hL hsh
theorem said:Rows.ForestEndsSaid :=
  OpenClaim.holds_of_cond 4 Tryz.f4 rfl rfl rfl rfl rfl rfl rfl ⟨rfl,rfl,rfl,rfl,rfl⟩ rfl rfl rfl rfl rfl (by kernel_rfl) Tryz.func4 (by kernel_rfl)
    (of_decide_eq_true (by kernel_rfl)) (by unfold Func.isWrapper;first | (rw [if_pos (by decide +kernel)];kernel_rfl) | (rw [if_neg (by decide +kernel)];exact ⟨rfl,rfl⟩))
    (fun os sd H enc _ F => by rw [OpenClaim.pre_eq_preRow];exact lifted os sd H enc F)
#print axioms said
end Go.Proofs.YtimhglmfckfclaaGreat.forestEnds
