/- Several texts in one: what each proves its own first comment says. -/
import Derived.Test.YtimhglmfckfclaaGreatM38
set_option linter.unusedVariables false
set_option linter.unusedSimpArgs false
namespace Go.Proofs.Ar
open Go.RowKit Go.ChangeShapes Go.WideShapes Go.Deep
def leavesFs (P:Program) (g:TypeId→Option (List TypeId)):List Field→Nat→Option (List TypeId)
 | [],_ => some []
 | fd :: r,o => if fd.offset=o then (g fd.type).bind fun m => if P.cellsOf fd.type=m.length then (leavesFs P g r (o+m.length)).map fun z => m ++ z else none else none
def leaves (P:Program):Nat→TypeId→Option (List TypeId)
 | 0,_ => none
 | f+1,t => match P.underlying t with
  | some (.struct fs) => (leavesFs P (leaves P f) fs.toList 0).bind fun l => if P.cellsOf t=l.length then some l else none
  | some .string => some [t]
  | some .bool => some [t]
  | some (.int _) => some [t]
  | _ => none
section
variable {H:Type} {enc:TypeId × Value→H} {P:Program} {w:World} {base:Nat} {spare:Nat→Bool} {held:Bool}
def LeafIs (enc:TypeId × Value→H) (P:Program) (w:World) (base:Nat) (spare:Nat→Bool) (held:Bool) (t:TypeId) (v:Value):Prop:=∃ n y,DataW.trod enc P w base spare held n t [v]=some y
theorem LeafIs.int {t:TypeId} {v:Value} {k:IntKind} (ht:P.underlying t=some (.int k)) (h:LeafIs enc P w base spare held t v):∃ n,v = .int k n∧(Lit.int k n).wf=true:=by
 obtain ⟨n,y,h⟩:=h
 obtain ⟨q,e,_,hw⟩:=DataW.trod_int ht h
 exact ⟨q,by simpa using e,hw⟩
theorem single_at {cs:List Value} {v:Value} {n:Nat} {t:TypeId} {x:DataW H × List MemPlace} (h:DataW.trod enc P w base spare held n t cs=some x) (e:cs=[v]):cs.length=[t].length∧∀ (i:Nat) (tl:TypeId) (u:Value),[t][i]? = some tl→cs[i]? = some u→LeafIs enc P w base spare held tl u:=by
 subst e
 refine ⟨rfl,fun i tl u h1 h2 => ?_⟩
 cases i with
 | zero => simp at h1 h2;subst h1 h2;exact ⟨n,x,h⟩
 | succ i => simp at h1
theorem leaves_fs (f:Nat) (ih:∀ (t:TypeId) (ls:List TypeId) (n:Nat) (cs:List Value) (x:DataW H × List MemPlace),leaves P f t=some ls→DataW.trod enc P w base spare held n t cs=some x→cs.length=ls.length∧∀ (i:Nat) (tl:TypeId) (u:Value),ls[i]? = some tl→cs[i]? = some u→LeafIs enc P w base spare held tl u)
  (n:Nat) (cs:List Value):∀ (fs:List Field) (o:Nat) (m:List TypeId),leavesFs P (leaves P f) fs o=some m→(∀ fd ∈ fs,∃ x,DataW.trod enc P w base spare held n fd.type ((cs.drop fd.offset).take (P.cellsOf fd.type))=some x) →
   ∀ (i:Nat) (tl:TypeId) (u:Value),m[i]? = some tl→cs[o+i]? = some u→LeafIs enc P w base spare held tl u
 | [],o,m,h,hf,i,tl,u,h1,h2 => by
  simp [leavesFs] at h;subst h;simp at h1
 | fd :: r,o,m,h,hf,i,tl,u,h1,h2 => by
  unfold leavesFs at h
  by_cases ho:fd.offset=o
  ·rw [if_pos ho] at h
   obtain ⟨m1,hm1,h⟩:=Option.bind_eq_some_iff.1 h
   by_cases hc:P.cellsOf fd.type=m1.length
   ·rw [if_pos hc] at h
    obtain ⟨z,hz,rfl⟩:=Option.map_eq_some_iff.1 h
    obtain ⟨x,hx⟩:=hf fd List.mem_cons_self
    obtain ⟨hl,hat⟩:=ih _ _ _ _ _ hm1 hx
    by_cases hi:i<m1.length
    ·rw [List.getElem?_append_left hi] at h1
     refine hat i tl u h1 ?_
     rw [List.getElem?_take,if_pos (by omega),List.getElem?_drop,ho]
     exact h2
    ·rw [List.getElem?_append_right (by omega)] at h1
     refine leaves_fs f ih n cs r (o+m1.length) z hz (fun g hg => hf g (List.mem_cons_of_mem _ hg)) (i-m1.length) tl u h1 ?_
     rw [show o+m1.length+(i-m1.length)=o+i by omega];exact h2
   ·rw [if_neg hc] at h;cases h
  ·rw [if_neg ho] at h;cases h
theorem leaves_at:∀ (f:Nat) (t:TypeId) (ls:List TypeId) (n:Nat) (cs:List Value) (x:DataW H × List MemPlace),leaves P f t=some ls→DataW.trod enc P w base spare held n t cs=some x→cs.length=ls.length∧∀ (i:Nat) (tl:TypeId) (u:Value),ls[i]? = some tl→cs[i]? = some u→LeafIs enc P w base spare held tl u
 | 0,t,ls,n,cs,x,h,hx => by simp [leaves] at h
 | f+1,t,ls,n,cs,x,h,hx => by
  unfold leaves at h
  split at h
  ·rename_i fs hu
   obtain ⟨l,hl,h⟩:=Option.bind_eq_some_iff.1 h
   by_cases hc:P.cellsOf t=l.length
   ·rw [if_pos hc] at h
    cases h
    obtain ⟨xs,k,_,_,hlen,hxs,hat⟩:=DataW.trod_struct hu hx
    refine ⟨hlen.trans hc,fun i tl u h1 h2 => leaves_fs f (leaves_at f) k cs fs.toList 0 _ hl (fun fd hfd => ?_) i tl u h1 (by simpa using h2)⟩
    obtain ⟨j,hj,e⟩:=List.getElem_of_mem hfd
    have hj':j<fs.size:=by simpa using hj
    have hget:fs[j]? = some fd:=by rw [← e];simp [hj']
    have hx2:j<xs.length:=by rw [hxs];exact hj'
    exact ⟨xs[j],(hat j fd hget).trans (List.getElem?_eq_getElem hx2)⟩
   ·rw [if_neg hc] at h;cases h
  ·rename_i hu
   cases h
   obtain ⟨s,e,_⟩:=DataW.trod_string hu hx
   exact single_at hx e
  ·rename_i hu
   cases h
   obtain ⟨s,e,_⟩:=DataW.trod_bool hu hx
   exact single_at hx e
  ·rename_i k hu
   cases h
   obtain ⟨s,e,_⟩:=DataW.trod_int hu hx
   exact single_at hx e
  ·cases h
def RowArg (w:World) (v:Value) (c:Nat) (rs:List (List Value)):Prop :=
 ∃ p cap,v = .slice p rs.length cap∧∀ j (hj:j<rs.length),rs[j].length=c∧∃ g o,p=some ⟨g,o,none⟩∧g<w.heap.size∧∀ (i:Nat) (u:Value),rs[j][i]? = some u→w.cell? ⟨g,o+(j * c+i),none⟩=some u
theorem arg_rows {t e:TypeId} {r:Reach} {b0:Nat} {v:Value} {d:DataW H} {p:List MemPlace} (f:Nat) (ls:List TypeId) (hls:leaves P f e=some ls) (h0:0<ls.length) (ht:P.underlying t=some (.slice e)) (ce:P.cellsOf e=ls.length)
  (hv:Value.okWide P w r b0 t v) (h:DataW.Trod enc P w 0 (fun _ => true) true t v d p) :
  ∃ rs:List (List Value),RowArg w v ls.length rs∧(∀ s ∈ rs,s.length=ls.length∧∀ (i:Nat) (tl:TypeId) (u:Value),ls[i]? = some tl→s[i]? = some u→LeafIs enc P w 0 (fun _ => true) true tl u)∧rs.length≤maxLen:=by
 obtain ⟨a0,len,cap,rfl⟩:=okWide_slice ht hv
 obtain ⟨fuel,hf⟩:=h
 rcases open_slice ht hf with ⟨hcs,hx⟩ | ⟨a,len',cap',m,n,D,Pl,hcs,_,hl,hm,hmm,hx,hcell⟩
 ·simp [Value.cells] at hcs
  obtain ⟨rfl,rfl,rfl⟩:=hcs
  exact ⟨[],⟨none,0,rfl,fun j hj => absurd hj (Nat.not_lt_zero _)⟩,by simp,by simp⟩
 ·simp [Value.cells] at hcs
  obtain ⟨rfl,rfl,rfl⟩:=hcs
  simp only [if_true] at hmm
  subst hmm
  have each:∀ i,i<m→∃ q:List Value,q.length=ls.length∧(∀ k,k<ls.length→w.cell? (a.add (i * ls.length+k))=q[k]?)∧∀ (k:Nat) (tl:TypeId) (u:Value),ls[k]? = some tl→q[k]? = some u→LeafIs enc P w 0 (fun _ => true) true tl u:=fun i hi => by
   obtain ⟨cs',h1,h2⟩:=hcell i hi
   rw [ce] at h1
   obtain ⟨_,hlen,hc⟩:=World.cells?_some h1
   obtain ⟨hl2,hat⟩:=leaves_at f e ls _ _ _ hls h2
   exact ⟨cs',hl2,fun k hk => by rw [← add_add];exact hc k hk,hat⟩
  obtain ⟨S,hS⟩:=choose_lt each
  refine ⟨(List.range len).map S,⟨some a,m,by simp,fun j hj => ?_⟩,fun s hs => ?_,by simp;omega⟩
  ·have hj':j<len:=by simpa using hj
   obtain ⟨g1,g2,g3⟩:=hS j (by omega)
   obtain ⟨k1,k2,k3⟩:=hS 0 (by omega)
   have h0':=k2 0 h0
   have hsome:(S 0)[0]? = some ((S 0)[0]'(by omega)):=List.getElem?_eq_getElem (by omega)
   rw [hsome] at h0'
   have hcell0:w.cell? a=some ((S 0)[0]'(by omega)):=by simpa [Addr.add] using h0'
   have hp:=plain_of_cell hcell0
   have e:((List.range len).map S)[j]=S j:=by simp
   refine ⟨by rw [e];exact g1,a.block,a.off,by rw [← hp],lt_of_cell hcell0,fun i u hi => ?_⟩
   rw [e] at hi
   have hil:i<ls.length:=by rw [← g1];exact (List.getElem?_eq_some_iff.1 hi).1
   have:=g2 i hil
   rw [hp,add_plain_,hi] at this
   exact this
  ·obtain ⟨i,hi,rfl⟩:=List.mem_map.1 hs
   obtain ⟨g1,g2,g3⟩:=hS i (by have:=List.mem_range.1 hi;omega)
   exact ⟨g1,g3⟩
end
end Go.Proofs.Ar
