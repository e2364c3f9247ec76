/- Parts of the proof. -/
import Derived.Test.YtimhglmfckfclaaGreatM44
set_option maxRecDepth 100000
set_option maxHeartbeats 16000000
namespace Go.Proofs.YtimhglmfckfclaaGreat
section
open Go.RowKit Go.Proofs.Ar
theorem fu64_nat {n:Int} (wf:(Lit.int .u64 n).wf=true):∃ s:Nat,n=(s:Int)/\s<18446744073709551616:=by
 simp [Lit.wf,IntKind.min,IntKind.max,IntKind.signed,IntKind.bits] at wf
 refine ⟨n.toNat,by omega,by omega⟩
def ActOk (x:Fr.Actv):Prop:=(x.r.user.size<=9223372036854775807/\x.r.label.size<=9223372036854775807/\x.s.user.size<=9223372036854775807/\x.s.label.size<=9223372036854775807)/\x.r.scopes<18446744073709551616/\x.s.scopes<18446744073709551616
theorem forestEnds_row0 {H:Type} {enc:TypeId × Value->H} {w:World} {base:Nat} {spare:Nat->Bool} {held:Bool} (s:List Value) (h:s.length=21/\∀ (i:Nat) (tl:TypeId) (u:Value),[3,3,3,3,9,9,33,3,3,3,3,3,3,3,9,9,33,3,3,3,3][i]? = some tl->s[i]? = some u->LeafIs enc Tryz.prog w base spare held tl u):∃ x:Fr.Actv,s=x.cells/\ActOk x:=by
 obtain ⟨hl,hs⟩:=h
 match s,hl with
 | [c0,c1,c2,c3,c4,c5,c6,c7,c8,c9,c10,c11,c12,c13,c14,c15,c16,c17,c18,c19,c20],_ =>
  have I:=fun i c a b => (hs i 3 c a b).int Tryz.underlying3
  have J:=fun i c a b => (hs i 9 c a b).string Tryz.underlying9
  have U:=fun i c a b => (hs i 33 c a b).int Tryz.underlying33
  obtain ⟨n0,rfl,-⟩:=I 0 c0 rfl rfl
  obtain ⟨n1,rfl,-⟩:=I 1 c1 rfl rfl
  obtain ⟨n2,rfl,-⟩:=I 2 c2 rfl rfl
  obtain ⟨n3,rfl,-⟩:=I 3 c3 rfl rfl
  obtain ⟨s4,rfl,z4⟩:=J 4 c4 rfl rfl
  obtain ⟨s5,rfl,z5⟩:=J 5 c5 rfl rfl
  obtain ⟨n6,rfl,w6⟩:=U 6 c6 rfl rfl
  obtain ⟨n7,rfl,-⟩:=I 7 c7 rfl rfl
  obtain ⟨n8,rfl,-⟩:=I 8 c8 rfl rfl
  obtain ⟨n9,rfl,-⟩:=I 9 c9 rfl rfl
  obtain ⟨n10,rfl,-⟩:=I 10 c10 rfl rfl
  obtain ⟨n11,rfl,-⟩:=I 11 c11 rfl rfl
  obtain ⟨n12,rfl,-⟩:=I 12 c12 rfl rfl
  obtain ⟨n13,rfl,-⟩:=I 13 c13 rfl rfl
  obtain ⟨s14,rfl,z14⟩:=J 14 c14 rfl rfl
  obtain ⟨s15,rfl,z15⟩:=J 15 c15 rfl rfl
  obtain ⟨n16,rfl,w16⟩:=U 16 c16 rfl rfl
  obtain ⟨n17,rfl,-⟩:=I 17 c17 rfl rfl
  obtain ⟨n18,rfl,-⟩:=I 18 c18 rfl rfl
  obtain ⟨n19,rfl,-⟩:=I 19 c19 rfl rfl
  obtain ⟨n20,rfl,-⟩:=I 20 c20 rfl rfl
  obtain ⟨k6,rfl,hk6⟩:=fu64_nat w6
  obtain ⟨k16,rfl,hk16⟩:=fu64_nat w16
  unfold maxLen at z4 z5 z14 z15
  exact ⟨⟨n0,n1,n2,n3,⟨s4,s5,k6,n7,n8⟩,⟨n9,n10,n11,n12,n13,s14,s15,k16,n17,n18,n19,n20⟩⟩,rfl,⟨by omega,by omega,by omega,by omega⟩,hk6,hk16⟩
theorem act_rows {rs:List (List Value)} (hz:∀ s ∈ rs,∃ x:Fr.Actv,s=x.cells/\ActOk x):∃ ps:List Fr.Actv,rs=ps.map Fr.Actv.cells/\∀ x ∈ ps,ActOk x:=by
 induction rs with
 | nil => exact ⟨[],rfl,by simp⟩
 | cons a t ih =>
  obtain ⟨x,rfl,hx⟩:=hz a List.mem_cons_self
  obtain ⟨ps,rfl,hp⟩:=ih (fun s hs => hz s (List.mem_cons_of_mem _ hs))
  exact ⟨x :: ps,rfl,fun s hs => by
   rcases List.mem_cons.1 hs with rfl | hs
   ·exact hx
   ·exact hp s hs⟩
theorem act_of_rows {w:World} {v:Value} {ps:List Fr.Actv} (h:RowArg w v 21 (ps.map Fr.Actv.cells)):Fr.ActIn w v ps:=by
 obtain ⟨p,cap,rfl,h⟩:=h
 refine ⟨p,cap,by simp,fun j hj => ?_⟩
 obtain ⟨_,g,o,h1,h2,h3⟩:=h j (by simpa using hj)
 have e:(ps.map Fr.Actv.cells)[j]'(by simpa using hj)=ps[j].cells:=by simp
 rw [e] at h3
 exact ⟨g,o,h1,h2,fun i u hi => by rw [Nat.add_assoc];exact h3 i u hi⟩
theorem forestEnds_walk (v:Value) (rs:List (List Value)) (hl:rs.length<=maxLen) (hz:∀ s ∈ rs,∃ x:Fr.Actv,s=x.cells/\ActOk x) (w:World) (ht:RowArg w v 21 rs) :
  Calls Tryz.prog 4 #[v] w fun e w' => e = .returned (.bool true)/\Below w.heap.size w w':=by
 obtain ⟨ps,rfl,hp⟩:=act_rows hz
 rw [List.length_map] at hl
 unfold maxLen at hl
 exact Fr.zcore v ps (by omega) (fun x hx => ⟨(hp x hx).1,(hp x hx).2.1⟩) w (act_of_rows ht)
end
end Go.Proofs.YtimhglmfckfclaaGreat
