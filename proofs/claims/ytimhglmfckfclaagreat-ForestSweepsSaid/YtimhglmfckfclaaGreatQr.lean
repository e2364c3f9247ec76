/- Short names for the walk's simp list, such as no walk uses. No program's code. -/
import Derived.Test.YtimhglmfckfclaaGreatQq
namespace Go.Proofs.YtimhglmfckfclaaGreat
theorem zq1 : type_of% @List.getElem_toArray := @List.getElem_toArray
theorem zq2 : type_of% @List.getElem_cons_zero := @List.getElem_cons_zero
theorem zq3 : type_of% @List.getElem_cons_succ := @List.getElem_cons_succ
theorem zq4 : type_of% @List.setIfInBounds_toArray := @List.setIfInBounds_toArray
theorem zq5 : type_of% @List.set_cons_zero := @List.set_cons_zero
theorem zq6 : type_of% @List.set_cons_succ := @List.set_cons_succ
end Go.Proofs.YtimhglmfckfclaaGreat
