/- Parts of the proof. -/
import Derived.Test.YtimhglmfckfclaaGreatDoorM6
import Derived.Maps.OwnSet
import Derived.Maps.OwnOps
import Derived.Laws.Runes
import Derived.Laws.RangeAny
import Derived.Laws.RangeString
import Derived.Lib.OthersKept
import Derived.Lib.RangeT
import Derived.Lib.IndexMore
import Derived.Lib.CutLaws
import Derived.Lib.PathFns
import GoSem.Op.String
set_option linter.unusedVariables false
set_option linter.unusedSimpArgs false
set_option maxRecDepth 100000
set_option maxHeartbeats 16000000
namespace Go.Proofs.YtimhglmfckfclaaGreatDoor
section
open Go.RowKit
namespace Hp
def NewPost (n:Nat) (w:World) (e:Ending) (w':World):Prop :=
 ∃ H F,e = .returned (.tuple #[.pointer (some ⟨H,0,none⟩),.nilIface])/\HeapAt w.heap.size H n [] F w'/\Below w.heap.size w w'
theorem made_heap {w w1:World} {n ga:Nat} (h0:1<=n) (hn:(n:Int)<=65536) (hneg:Neg ga n n w1) (hga:w.heap.size<=ga) (hb:Below w.heap.size w w1) (hs:w.heap.size<=w1.heap.size) :
  let W4:=(w1.alloc (.cells #[.slice none 0 0,.func (.func 205) #[] #[],.func (.func 206) #[] #[.pointer (some ⟨w1.heap.size+1,0,none⟩)],.slice (some ⟨ga,0,none⟩) n n] 318)).alloc (.cells #[.pointer (some ⟨w1.heap.size,0,none⟩)] 215)
  (∃ F,HeapAt w.heap.size w1.heap.size n [] F W4)/\Below w.heap.size w W4:=by
 intro W4
 have hgl:ga<w1.heap.size:=by
  obtain ⟨cs,h,_⟩:=hneg
  exact (zx h)
 have c0:W4.heap[w1.heap.size]? = some (.cells #[.slice none 0 0,.func (.func 205) #[] #[],.func (.func 206) #[] #[.pointer (some ⟨w1.heap.size+1,0,none⟩)],.slice (some ⟨ga,0,none⟩) n n] 318 (0,0)) :=
  (Below.heap_alloc _ _ _ (by simp)).trans (Ut.alloc_at w1 _)
 have c1:W4.heap[w1.heap.size+1]? = some (.cells #[.pointer (some ⟨w1.heap.size,0,none⟩)] 215 (0,0)):=by
  have:=Ut.alloc_at (w1.alloc (.cells #[.slice none 0 0,.func (.func 205) #[] #[],.func (.func 206) #[] #[.pointer (some ⟨w1.heap.size+1,0,none⟩)],.slice (some ⟨ga,0,none⟩) n n] 318)) (.cells #[.pointer (some ⟨w1.heap.size,0,none⟩)] 215)
  rw [show (w1.alloc (.cells #[.slice none 0 0,.func (.func 205) #[] #[],.func (.func 206) #[] #[.pointer (some ⟨w1.heap.size+1,0,none⟩)],.slice (some ⟨ga,0,none⟩) n n] 318)).heap.size=w1.heap.size+1 by simp] at this
  exact this
 have cg:W4.heap[ga]? = w1.heap[ga]?:=(Below.heap_alloc _ _ _ (by simp;omega)).trans (Below.heap_alloc _ _ _ hgl)
 have hb4:Below w.heap.size w W4:=(hb.alloc hs _).alloc (by simp;omega) _
 refine ⟨?_,hb4⟩
 obtain ⟨cs,q1,q2,q3⟩:=hneg
 have hcs:cs=(List.replicate n (-1:Int)).map vI:=by
  apply List.ext_getElem?
  intro j
  by_cases hj:j<n
  ·rw [q3 j hj];simp [hj,vI]
  ·rw [List.getElem?_eq_none (by omega),List.getElem?_eq_none (by simp;omega)]
 refine ⟨fun k => k=w1.heap.size+1\/Ft w1.heap.size ga (.slice none 0 0) k,w1.heap.size+1,ga,n,.slice none 0 0,List.replicate n (-1),⟨?_,c1,World.ownsRow_nil _ _ _ _,?_,hs,by omega⟩,⟨by simp,by simp⟩,⟨by simp,fun k hk => absurd hk (Nat.not_lt_zero _),fun i hi _ => ?_⟩,fun k _ hk => absurd hk (Nat.not_lt_zero _),fun k => Iff.rfl⟩
 ·rw [List.length_replicate];exact c0
 ·rw [List.length_replicate]
  refine ⟨by simp,.inr ⟨ga,n,cs.toArray,rfl,hga,cg.trans q1,Nat.le_refl _,by unfold maxLen;omega,by simp [q2],?_⟩⟩
  rw [hcs];simp
 ·simp [List.getD_eq_getElem?_getD,hi]
theorem hnew_any (n:Nat) (h0:1<=n) (hn:(n:Int)<=65536) (w:World):Calls Tryz.prog 123 #[.int .i64 n] w (NewPost n w):=by
 have hb0:Below w.heap.size w (w.alloc (.cells #[.int .i64 (-1)] 3)):=(Below.refl _ _).alloc (Nat.le_refl _) _
 have hr:=repeat_any w.heap.size n h0 hn (w.alloc (.cells #[.int .i64 (-1)] 3)) (by simp)
 have HR:=zh hr;have HB0:=zh hb0
 have b0:(1:Int)<=(n:Int):=by omega
 clear hr hb0
 go_enter Tryz.func123,Tryz.ntmps123
 go_wp2_with fail
 refine HR.out.mono ?_
 rintro e w1 ⟨rfl,hneg,hb1⟩
 have HN:=zh hneg
 have HB1:Hid (Below w.heap.size w w1):=HB0.out.trans (hb1.mono HB0.out.size)
 have hs1:w.heap.size+1<w1.heap.size:=by
  obtain ⟨cs,h,_⟩:=hneg
  have:=(zx h)
  simpa using this
 have hga:(w.alloc (.cells #[.int .i64 (-1)] 3)).heap.size=w.heap.size+1:=by simp
 have hneg2:=hneg
 rw [hga] at hneg2
 obtain ⟨⟨F,hh⟩,hb4⟩:=made_heap (w:=w) h0 hn hneg2 (by omega) HB1.out (by omega)
 have HR2:Hid (NewPost n w (.returned (.tuple #[.pointer (some ⟨w1.heap.size,0,none⟩),.nilIface])) _):=⟨w1.heap.size,F,rfl,hh,hb4⟩
 clear hneg hb1 hneg2 hh hb4 hga
 go_wp2
 go_ret2
 exact HR2.out
end Hp
end
section
open Go.RowKit
namespace Hp
def fin (ps:List It):List It:=ps.foldl (fun S p => (p.1 % 64,p.2) :: without S (p.1 % 64)) []
theorem keyOf_cons (x:It) (L:List It) (i:Int):keyOf (x :: L) i=if x.1=i then some x.2 else keyOf L i:=by
 unfold keyOf
 rw [List.find?_cons]
 by_cases h:x.1=i
 ·have e:(x.1 == i)=true:=by simp [h]
  rw [if_pos h,e];rfl
 ·have e:(x.1 == i)=false:=by simp [h]
  rw [if_neg h,e]
theorem keyOf_perm {L L':List It} {n:Nat} (hG:Good L n) (h:List.Perm L L') (i:Int):keyOf L i=keyOf L' i:=by
 by_cases hex:∀ x ∈ L,x.1≠i
 ·rw [keyOf_none hex,keyOf_none (fun x hx => hex x (h.mem_iff.2 hx))]
 ·obtain ⟨x,hx⟩:=Classical.not_forall.1 hex
  obtain ⟨h1,h2⟩:=Classical.not_imp.1 hx
  have e:=Classical.not_not.1 h2
  rw [<- e,keyOf_some hG h1,keyOf_some (hG.perm h.symm) (h.mem_iff.1 h1)]
def lst (ps:List It) (i:Int):Option Int:=ps.foldl (fun o p => if p.1 % 64=i then some p.2 else o) none
def cnt (L:List It) (i:Nat):Nat:=((List.range i).filter fun (j:Nat) => (keyOf L (j:Int)).isSome).length
end Hp
end
section
open Go.RowKit Go.Maps
namespace Ex
open Hp (It ahd without HeapAt)
abbrev Ent:=Int × Int × Int
def itm (e:Ent):It:=(e.1,e.2.2)
def items (S:List Ent):List It:=S.map itm
def wo (S:List Ent) (s:Int):List Ent:=S.filter fun e => e.1 != s
def birthOf (S:List Ent) (s:Int):Option Int:=(S.find? fun e => e.1 == s).map fun e => e.2.1
def put (S:List Ent) (x:Ent):List Ent:=S.takeWhile (fun e => !ahd (itm x) (itm e)) ++ x :: S.dropWhile (fun e => !ahd (itm x) (itm e))
theorem items_wo (S:List Ent) (s:Int):items (wo S s)=without (items S) s:=by
 unfold items wo without
 rw [List.filter_map];rfl
theorem items_len (S:List Ent):(items S).length=S.length:=by simp [items]
theorem put_perm (S:List Ent) (x:Ent):(put S x).Perm (x :: S):=by
 unfold put
 have h:=List.perm_middle (a:=x) (l₁:=S.takeWhile (fun e => !ahd (itm x) (itm e))) (l₂:=S.dropWhile (fun e => !ahd (itm x) (itm e)))
 rwa [List.takeWhile_append_dropWhile] at h
theorem items_put (S:List Ent) (x:Ent):(items (put S x)).Perm (itm x :: items S):=(put_perm S x).map itm
structure Inv (S:List Ent):Prop where
 good:Hp.Good (items S) 32
 sorted:(items S).Pairwise fun x y => ahd y x=false
theorem Inv.nil:Inv []:=⟨⟨by simp [items],by simp [items]⟩,by simp [items]⟩
theorem Inv.wo {S:List Ent} (h:Inv S) (s:Int):Inv (wo S s) :=
 ⟨by rw [items_wo];exact h.good.without s,by rw [items_wo];exact h.sorted.sublist (List.filter_sublist)⟩
theorem put_sorted {S:List Ent} {x:Ent} (h:(items S).Pairwise fun x y => ahd y x=false):(items (put S x)).Pairwise fun x y => ahd y x=false:=by
 induction S with
 | nil => simp [put,items]
 | cons e r ih =>
  have h1:(items (e :: r)).Pairwise fun x y => ahd y x=false:=h
  rw [show items (e :: r)=itm e :: items r from rfl,List.pairwise_cons] at h1
  cases hx:ahd (itm x) (itm e) with
  | true =>
   have e1:put (e :: r) x=x :: e :: r:=by simp [put,hx]
   rw [e1,show items (x :: e :: r)=itm x :: itm e :: items r from rfl,List.pairwise_cons]
   refine ⟨fun y hy => ?_,h⟩
   rcases List.mem_cons.1 hy with rfl | hy
   ·exact Hp.ahd_asymm hx
   ·have:=h1.1 y hy
    exact Hp.no_of_lt this hx
  | false =>
   have e1:put (e :: r) x=e :: put r x:=by simp [put,hx]
   rw [e1,show items (e :: put r x)=itm e :: items (put r x) from rfl,List.pairwise_cons]
   refine ⟨fun y hy => ?_,ih h1.2⟩
   rcases List.mem_cons.1 ((items_put r x).mem_iff.1 hy) with rfl | hy
   ·exact hx
   ·exact h1.1 y hy
theorem Inv.put {S:List Ent} (h:Inv S) {x:Ent} (h0:0<=x.1) (h1:x.1<32) (hn:∀ e ∈ S,e.1≠x.1):Inv (put S x):=by
 refine ⟨(h.good.cons (x:=itm x) h0 (by have e:(itm x).1=x.1:=rfl;omega) (fun y hy => ?_)).perm (items_put S x),put_sorted h.sorted⟩
 obtain ⟨e,he,rfl⟩:=List.mem_map.1 hy
 exact hn e he
theorem wo_none {S:List Ent} {s:Int}:∀ e ∈ wo S s,e.1≠s:=fun e he => by simpa using (List.mem_filter.1 he).2
theorem Inv.len {S:List Ent} (h:Inv S):S.length<=32:=by have:=h.good.len;rwa [items_len] at this
theorem birthOf_cons (x:Ent) (S:List Ent) (s:Int):birthOf (x :: S) s=if x.1=s then some x.2.1 else birthOf S s:=by
 unfold birthOf
 rw [List.find?_cons]
 by_cases h:x.1=s
 ·have e:(x.1 == s)=true:=by simp [h]
  rw [if_pos h,e];rfl
 ·have e:(x.1 == s)=false:=by simp [h]
  rw [if_neg h,e]
theorem birthOf_mem {A:List Ent} (hn:(A.map fun e => (itm e).1).Nodup) {e:Ent} (he:e ∈ A):birthOf A e.1=some e.2.1:=by
 induction A with
 | nil => cases he
 | cons x r ih =>
  rw [List.map_cons,List.nodup_cons] at hn
  rw [birthOf_cons]
  rcases List.mem_cons.1 he with rfl | he
  ·rw [if_pos rfl]
  ·rw [if_neg (fun e2 => hn.1 (List.mem_map.2 ⟨e,he,e2.symm⟩))]
   exact ih hn.2 he
theorem birthOf_perm {S T:List Ent} (hg:Hp.Good (items S) 32) (hp:S.Perm T) (s:Int):birthOf S s=birthOf T s:=by
 have hgT:Hp.Good (items T) 32:=hg.perm (hp.symm.map itm)
 have key:∀ {A:List Ent},Hp.Good (items A) 32->∀ {e:Ent},e ∈ A->birthOf A e.1=some e.2.1:=fun {A} hA {e} he => birthOf_mem (by have hn:=hA.nodup;rw [items,List.map_map] at hn;exact hn) he
 by_cases hex:∃ e ∈ S,e.1=s
 ·obtain ⟨e,he,rfl⟩:=hex
  rw [key hg he,key hgT (hp.mem_iff.1 he)]
 ·have h1:∀ {A:List Ent},(∀ e ∈ A,e.1≠s)->birthOf A s=none:=fun {A} hA => by
   unfold birthOf
   rw [List.find?_eq_none.2 (fun e he => by simpa using hA e he)];rfl
  rw [h1 (fun e he e2 => hex ⟨e,he,e2⟩),h1 (fun e he e2 => hex ⟨e,hp.mem_iff.2 he,e2⟩)]
theorem birthOf_wo {S:List Ent} {s t:Int} (h:s≠t):birthOf (wo S t) s=birthOf S s:=by
 induction S with
 | nil => rfl
 | cons x r ih =>
  unfold wo
  rw [List.filter_cons]
  by_cases hx:x.1=t
  ·rw [if_neg (by simp [hx]),birthOf_cons,if_neg (by rw [hx];exact fun e => h e.symm)];exact ih
  ·rw [if_pos (by simpa using hx),birthOf_cons,birthOf_cons]
   split
   ·rfl
   ·exact ih
theorem birthOf_wo_same (S:List Ent) (s:Int):birthOf (wo S s) s=none:=by
 unfold birthOf
 rw [List.find?_eq_none.2 (fun e he => by simpa using wo_none e he)];rfl
theorem keyOf_items (S:List Ent) (s:Int):(Hp.keyOf (items S) s).isSome=(birthOf S s).isSome:=by
 induction S with
 | nil => rfl
 | cons x r ih =>
  rw [show items (x :: r)=itm x :: items r from rfl,Hp.keyOf_cons,birthOf_cons]
  show (if x.1=s then _ else _:Option Int).isSome=_
  split
  ·rfl
  ·exact ih
abbrev lk (s:Int):Lit:=.int .i64 s
def MapIs (D:DataW Unit) (S:List Ent):Prop:=IsMap D/\∀ s:Int,Maps.has D (lk s)=(birthOf S s).isSome/\D.atKey (lk s) (.lit (.int .i64 0)) = .lit (.int .i64 ((birthOf S s).getD 0))
theorem MapIs.nil:MapIs (.map []) []:=⟨isMap_empty,fun s => ⟨rfl,rfl⟩⟩
theorem isKey (s:Int):WideAt.IsKeyLit (lk s):=by unfold WideAt.IsKeyLit;trivial
theorem lk_ne {s t:Int} (h:s≠t):lk s≠lk t:=fun e => h (by injection e)
theorem MapIs.put {D:DataW Unit} {S:List Ent} (h:MapIs D S) (hi:Inv S) (x:Ent) (h0:0<=x.1) (h1:x.1<32):MapIs (D.put (lk x.1) (.lit (.int .i64 x.2.1))) (Ex.put (wo S x.1) x):=by
 refine ⟨h.1.put _ _,fun s => ?_⟩
 have hb:birthOf (Ex.put (wo S x.1) x) s=if x.1=s then some x.2.1 else birthOf S s:=by
  rw [birthOf_perm ((hi.wo x.1).put h0 h1 wo_none).good (put_perm _ _),birthOf_cons]
  by_cases e:x.1=s
  ·rw [if_pos e,if_pos e]
  ·rw [if_neg e,if_neg e,birthOf_wo (fun e2 => e e2.symm)]
 rw [hb]
 by_cases e:x.1=s
 ·subst e
  rw [if_pos rfl,has_put_same h.1 (isKey _),atKey_put_same h.1 (isKey _)]
  exact ⟨rfl,rfl⟩
 ·rw [if_neg e,has_put_other (lk_ne (fun e2 => e e2.symm)),atKey_put_other (lk_ne (fun e2 => e e2.symm))]
  exact h.2 s
theorem MapIs.del {D:DataW Unit} {S:List Ent} (h:MapIs D S) (t:Int):MapIs (D.del (lk t)) (wo S t):=by
 refine ⟨h.1.del _,fun s => ?_⟩
 by_cases e:s=t
 ·subst e
  rw [birthOf_wo_same,has_del_same,atKey_del_same]
  exact ⟨rfl,rfl⟩
 ·rw [birthOf_wo e,has_del_other (lk_ne e),atKey_del_other (lk_ne e)]
  exact h.2 s
def ExpAt (lo E N:Nat) (S:List Ent) (F:Nat->Prop) (w:World):Prop :=
 ∃ H bm n D L Fh,w.heap[E]? = some (.cells #[.pointer (some ⟨H,0,none⟩),.map (some bm)] 220 (0,0))/\lo<=E/\HeapAt lo H 32 L Fh w/\L.Perm (items S)/\Inv S /\
  w.ownsMap Tryz.prog 3 (plainElem Tryz.prog 3) bm n D/\n<=N/\(lo<=bm/\bm<E)/\MapIs D S/\(∀ k,F k↔k=E\/k=bm\/Fh k)/\¬ Fh E/\¬ Fh bm
theorem map_only {G:Nat->Prop} {w w':World} {k:TypeId} {R:Value->Option (DataW Unit × List MemPlace)} {b n:Nat} {D:DataW Unit} (h:w.ownsMap Tryz.prog k R b n D) (ho:Only G w w') (hG:¬ G b):w'.ownsMap Tryz.prog k R b n D:=by
 have hlt:=h.lt
 obtain ⟨es,clock,hb,hF,hs,hD⟩:=h
 exact ⟨es,clock,(ho.block b hlt hG).trans hb,hF,hs,hD⟩
theorem ExpAt.only {G:Nat->Prop} {lo E N:Nat} {S:List Ent} {F:Nat->Prop} {w w':World} (h:ExpAt lo E N S F w) (ho:Only G w w') (hFG:∀ k,F k->¬ G k):ExpAt lo E N S F w':=by
 obtain ⟨H,bm,n,D,L,Fh,h1,h2,h3,h4,h5,h6,h7,h8,h9,h10,h11,h12⟩:=h
 refine ⟨H,bm,n,D,L,Fh,(ho.block E (zx h1) (hFG E ((h10 E).2 (.inl rfl)))).trans h1,h2,h3.only ho (fun k hk => hFG k ((h10 k).2 (.inr (.inr hk)))),h4,h5,map_only h6 ho (hFG bm ((h10 bm).2 (.inr (.inl rfl)))),h7,h8,h9,h10,h11,h12⟩
theorem ExpAt.below {lo E N:Nat} {S:List Ent} {F:Nat->Prop} {w w':World} (h:ExpAt lo E N S F w) (hb:Below w.heap.size w w'):ExpAt lo E N S F w' :=
 h.only (Only.of_below (F:=fun _ => False) hb) (fun _ _ h => h)
theorem ExpAt.lt {lo E N:Nat} {S:List Ent} {F:Nat->Prop} {w:World} (h:ExpAt lo E N S F w) (k:Nat) (hk:F k):lo<=k/\k<w.heap.size:=by
 obtain ⟨H,bm,n,D,L,Fh,h1,h2,h3,h4,h5,h6,h7,h8,h9,h10,h11,h12⟩:=h
 rcases (h10 k).1 hk with rfl | rfl | hk
 ·exact ⟨h2,(zx h1)⟩
 ·exact ⟨h8.1,h6.lt⟩
 ·exact h3.lt k hk
theorem own_isCells {w:World} {base e size n:Nat} {v:Value} {xs:List Value} (h:w.ownsRow base e size v n xs) {k:Nat} (hk:v.ownBlock=some k):∃ o:Obj,w.heap[k]? = some o/\o.isCells=true:=by
 rcases h.2 with ⟨rfl,_⟩ | ⟨g,cap,cur,rfl,h2,h3,h4⟩
 ·simp [Value.ownBlock] at hk
 ·have e:g=k:=by simpa [Value.ownBlock] using hk
  subst e
  exact ⟨_,h3,rfl⟩
theorem heap_isCells {lo H n:Nat} {L:List It} {F:Nat->Prop} {w:World} (h:HeapAt lo H n L F w) {k:Nat} (hk:F k):∃ o:Obj,w.heap[k]? = some o/\o.isCells=true:=by
 obtain ⟨hb,ga,ca,v,ats,h1,h2,h3,h4,h5⟩:=h
 rcases (h5 k).1 hk with e | e | e | e
 ·rw [e];exact ⟨_,h1.box,rfl⟩
 ·rw [e];exact ⟨_,h1.top,rfl⟩
 ·exact own_isCells h1.at_ (by rw [e];rfl)
 ·exact own_isCells h1.row e
theorem ExpAt.isCells {lo E N:Nat} {S:List Ent} {F:Nat->Prop} {w:World} (h:ExpAt lo E N S F w) {k:Nat} (hk:F k) (hE:E<=k):∃ o:Obj,w.heap[k]? = some o/\o.isCells=true:=by
 obtain ⟨H,bm,n,D,L,Fh,h1,h2,h3,h4,h5,h6,h7,h8,h9,h10,h11,h12⟩:=h
 rcases (h10 k).1 hk with rfl | rfl | hk
 ·exact ⟨_,h1,rfl⟩
 ·omega
 ·exact heap_isCells h3 hk
theorem ExpAt.inv {lo E N:Nat} {S:List Ent} {F:Nat->Prop} {w:World} (h:ExpAt lo E N S F w):Inv S:=by
 obtain ⟨H,bm,n,D,L,Fh,h1,h2,h3,h4,h5,h6⟩:=h;exact h5
theorem ExpAt.mono {lo E N N':Nat} {S:List Ent} {F:Nat->Prop} {w:World} (h:ExpAt lo E N S F w) (hN:N<=N'):ExpAt lo E N' S F w:=by
 obtain ⟨H,bm,n,D,L,Fh,h1,h2,h3,h4,h5,h6,h7,h8⟩:=h
 exact ⟨H,bm,n,D,L,Fh,h1,h2,h3,h4,h5,h6,Nat.le_trans h7 hN,h8⟩
end Ex
end
section
open Go.RowKit
theorem enc_two (r:Int) (h1:128<=r) (h2:r<2048):∃ x y:UInt8,Utf8.encode r=⟨#[x,y]⟩/\128<=y.toNat:=by
 have hv:Utf8.valid r=true:=by simp [Utf8.valid];omega
 refine ⟨UInt8.ofNat (0xC0+r.toNat / 64),UInt8.ofNat (0x80+r.toNat % 64),?_,by simp;omega⟩
 unfold Utf8.encode;rw [hv];simp only [if_true];rw [if_neg (by omega),if_pos (by omega)]
theorem enc_three (r:Int) (h1:2048<=r) (h2:r<65536) (hv:Utf8.valid r=true):∃ x y z:UInt8,Utf8.encode r=⟨#[x,y,z]⟩/\128<=z.toNat:=by
 refine ⟨UInt8.ofNat (0xE0+r.toNat / 4096),UInt8.ofNat (0x80+r.toNat / 64 % 64),UInt8.ofNat (0x80+r.toNat % 64),?_,by simp;omega⟩
 unfold Utf8.encode;rw [hv];simp only [if_true];rw [if_neg (by omega),if_neg (by omega),if_pos (by omega)]
theorem enc_four (r:Int) (h1:65536<=r) (hv:Utf8.valid r=true):∃ x y z u:UInt8,Utf8.encode r=⟨#[x,y,z,u]⟩/\128<=u.toNat:=by
 refine ⟨UInt8.ofNat (0xF0+r.toNat / 262144),UInt8.ofNat (0x80+r.toNat / 4096 % 64),UInt8.ofNat (0x80+r.toNat / 64 % 64),UInt8.ofNat (0x80+r.toNat % 64),?_,by simp;omega⟩
 unfold Utf8.encode;rw [hv];simp only [if_true];rw [if_neg (by omega),if_neg (by omega),if_neg (by omega)]
theorem indexByte_high (l:List UInt8) (c:UInt8) (h:∀ b ∈ l,b.toNat<128) (hc:128<=c.toNat):Lib.indexByte l c = -1:=by
 induction l with
 | nil => rfl
 | cons b l ih =>
  have hb:=h b (by simp)
  have hne:¬ b=c:=fun e => by rw [e] at hb;omega
  have:=ih (fun x hx => h x (by simp [hx]))
  unfold Lib.indexByte
  simp [hne,this]
theorem indexByte_none (S:ByteArray) (y:UInt8) (hy:128<=y.toNat) (hS:(S.data.toList.all fun b => decide (b.toNat<128))=true) (w:World) :
  Calls Tryz.prog 289 #[.string S,.int .u8 y.toNat] w fun e w' => e = .returned (.int .i64 (-1))/\w'=w:=by
 have h:=Tryz.strings_IndexByte S y.toNat w
 rw [show Lib.indexByte S.data.toList (y.toNat:Int).toNat.toUInt8 = -1 from indexByte_high _ _ (fun b hb => of_decide_eq_true (List.all_eq_true.1 hS b hb)) (by simpa using hy)] at h
 exact h
theorem indexRune_two (r:Int) (h1:128<=r) (h2:r<2048) (w:World) :
  Calls Tryz.prog 287 #[.string ⟨#[48,49,50,51,52,53,54,55,56,57,45,95]⟩,.int .i32 r] w fun e w' => e = .returned (.int .i64 (-1))/\∃ n,w'=w.drewN n:=by
 obtain ⟨x,y,hR,hy⟩:=enc_two r h1 h2
 have q1:(r == 65533)=false:=by rw [beq_eq_false_iff_ne];omega
 have hvr:Lib.validRune r=true:=by simp [Lib.validRune];omega
 have hcv:∀ w,(convert 21 9 (.int .i32 r)).run Tryz.prog w = .ok (.string ⟨#[x,y]⟩) w:=fun w => by
  rw [<- hR];exact run_convert_int_string w _ _ _ _ (by rw [Tryz.underlying21];rfl) Tryz.underlying9
 have q2:(((⟨#[48,49,50,51,52,53,54,55,56,57,45,95]⟩:ByteArray)[1].toNat:Int) != (((⟨#[x,y]⟩:ByteArray)[1]'(by show 1<2;decide)).toNat:Int))=true:=by
  show ((49:Int) != (y.toNat:Int))=true
  rw [bne_iff_ne];omega
 have h0:128<=r:=by omega
 have HVR:=zh hvr
 clear hvr hR
 go_enter Tryz.func287,Tryz.ntmps287
 go_wp2_with (go_at_call 290;refine (Tryz.utf8_ValidRune r _).mono ?_;rintro e w' ⟨rfl,rfl⟩;rw [HVR.out])
 go_step3
 go_wp2_with fail
 refine wp_loop_rounds 1 ?_
 rw [rounds_succ]
 go_wp2_with fail
 go_step3
 go_wp2_with fail
 go_quiet (fail)
 go_wp2_with fail
 generalize hw2:w'.drewN _=w2
 have HW2:=zh hw2
 clear hw2
 go_quiet ((go_at_call 289;exact Calls.quiet_of_same (indexByte_none _ y hy (by decide) _)))
 go_wp2
 rw [Exit.noGoto_ret]
 go_wp2
 rw [Exit.noGoto_ret]
 go_ret
 exact ⟨rfl,_,by rw [<- HW2.out,World.drewN_drewN]⟩
theorem indexRune_three (r:Int) (h1:2048<=r) (h2:r<65536) (h3:r≠65533) (hv:Utf8.valid r=true) (w:World) :
  Calls Tryz.prog 287 #[.string ⟨#[48,49,50,51,52,53,54,55,56,57,45,95]⟩,.int .i32 r] w fun e w' => e = .returned (.int .i64 (-1))/\∃ n,w'=w.drewN n:=by
 obtain ⟨x,y,z,hR,hy⟩:=enc_three r h1 h2 hv
 have q1:(r == 65533)=false:=by rw [beq_eq_false_iff_ne];omega
 have hvr:Lib.validRune r=true:=by simp [Utf8.valid] at hv;simp [Lib.validRune];omega
 have hcv:∀ w,(convert 21 9 (.int .i32 r)).run Tryz.prog w = .ok (.string ⟨#[x,y,z]⟩) w:=fun w => by
  rw [<- hR];exact run_convert_int_string w _ _ _ _ (by rw [Tryz.underlying21];rfl) Tryz.underlying9
 have q2:(((⟨#[48,49,50,51,52,53,54,55,56,57,45,95]⟩:ByteArray)[2].toNat:Int) != (((⟨#[x,y,z]⟩:ByteArray)[2]'(by show 2<3;decide)).toNat:Int))=true:=by
  show ((50:Int) != (z.toNat:Int))=true
  rw [bne_iff_ne];omega
 have h0:128<=r:=by omega
 have HVR:=zh hvr
 clear hvr hR
 go_enter Tryz.func287,Tryz.ntmps287
 go_wp2_with (go_at_call 290;refine (Tryz.utf8_ValidRune r _).mono ?_;rintro e w' ⟨rfl,rfl⟩;rw [HVR.out])
 go_step3
 go_wp2_with fail
 refine wp_loop_rounds 1 ?_
 rw [rounds_succ]
 go_wp2_with fail
 go_step3
 go_wp2_with fail
 go_quiet (fail)
 go_wp2_with fail
 generalize hw2:w'.drewN _=w2
 have HW2:=zh hw2
 clear hw2
 go_quiet ((go_at_call 289;exact Calls.quiet_of_same (indexByte_none _ z hy (by decide) _)))
 go_wp2
 rw [Exit.noGoto_ret]
 go_wp2
 rw [Exit.noGoto_ret]
 go_ret
 exact ⟨rfl,_,by rw [<- HW2.out,World.drewN_drewN]⟩
theorem indexRune_four (r:Int) (h1:65536<=r) (hv:Utf8.valid r=true) (w:World) :
  Calls Tryz.prog 287 #[.string ⟨#[48,49,50,51,52,53,54,55,56,57,45,95]⟩,.int .i32 r] w fun e w' => e = .returned (.int .i64 (-1))/\∃ n,w'=w.drewN n:=by
 obtain ⟨x,y,z,u,hR,hy⟩:=enc_four r h1 hv
 have q1:(r == 65533)=false:=by rw [beq_eq_false_iff_ne];omega
 have hvr:Lib.validRune r=true:=by simp [Utf8.valid] at hv;simp [Lib.validRune];omega
 have hcv:∀ w,(convert 21 9 (.int .i32 r)).run Tryz.prog w = .ok (.string ⟨#[x,y,z,u]⟩) w:=fun w => by
  rw [<- hR];exact run_convert_int_string w _ _ _ _ (by rw [Tryz.underlying21];rfl) Tryz.underlying9
 have q2:(((⟨#[48,49,50,51,52,53,54,55,56,57,45,95]⟩:ByteArray)[3].toNat:Int) != (((⟨#[x,y,z,u]⟩:ByteArray)[3]'(by show 3<4;decide)).toNat:Int))=true:=by
  show ((51:Int) != (u.toNat:Int))=true
  rw [bne_iff_ne];omega
 have h0:128<=r:=by omega
 have HVR:=zh hvr
 clear hvr hR
 go_enter Tryz.func287,Tryz.ntmps287
 go_wp2_with (go_at_call 290;refine (Tryz.utf8_ValidRune r _).mono ?_;rintro e w' ⟨rfl,rfl⟩;rw [HVR.out])
 go_step3
 go_wp2_with fail
 refine wp_loop_rounds 1 ?_
 rw [rounds_succ]
 go_wp2_with fail
 go_step3
 go_wp2_with fail
 go_quiet (fail)
 go_wp2_with fail
 generalize hw2:w'.drewN _=w2
 have HW2:=zh hw2
 clear hw2
 go_quiet ((go_at_call 289;exact Calls.quiet_of_same (indexByte_none _ u hy (by decide) _)))
 go_wp2
 rw [Exit.noGoto_ret]
 go_wp2
 rw [Exit.noGoto_ret]
 go_ret
 exact ⟨rfl,_,by rw [<- HW2.out,World.drewN_drewN]⟩
end
section
open Go.RowKit
theorem signs_ascii:∀ p:Fin 12,((⟨#[48,49,50,51,52,53,54,55,56,57,45,95]⟩:ByteArray).data.toList[p.val]'(p.isLt)).toNat<128:=by decide
def SRel (w:World) (wr:World):Prop:=∃ p:Nat,p<=12/\wr.heap[w.heap.size]? = some (.stringIter ⟨#[48,49,50,51,52,53,54,55,56,57,45,95]⟩ p)/\Below w.heap.size w wr
theorem indexRune_err (w:World) :
  Calls Tryz.prog 287 #[.string ⟨#[48,49,50,51,52,53,54,55,56,57,45,95]⟩,.int .i32 65533] w fun e w' => e = .returned (.int .i64 (-1))/\Below w.heap.size w w':=by
 go_enter Tryz.func287,Tryz.ntmps287
 go_wp2
 go_loopw [5,6] (fun _ _ wr => SRel w wr) (fun _ _ wr => 12-wr.iterPos w.heap.size)
 case atStart => exact ⟨0,by omega,World.iter_heap _ _ _,(Below.refl _ _).alloc (Nat.le_refl _) _⟩
 case round =>
  obtain ⟨p,hp,hit,hbw⟩:=hrel
  have hsz:w.heap.size<wr.heap.size:=(zx hit)
  by_cases h:p<12
  ·have hb:p<(⟨#[48,49,50,51,52,53,54,55,56,57,45,95]⟩:ByteArray).size:=h
   have ha:((⟨#[48,49,50,51,52,53,54,55,56,57,45,95]⟩:ByteArray)[p]'hb).toNat<128:=signs_ascii ⟨p,h⟩
   obtain ⟨c,hc⟩:∃ c,c=((⟨#[48,49,50,51,52,53,54,55,56,57,45,95]⟩:ByteArray)[p]'hb).toNat:=⟨_,rfl⟩
   have hnx:∀ ty,(Instr.next (.pointer (some ⟨w.heap.size,0,none⟩)) true ty).run Tryz.prog wr = .ok (.tuple #[.bool true,.int .i64 p,.int .i32 c]) (wr.iterAt w.heap.size ⟨#[48,49,50,51,52,53,54,55,56,57,45,95]⟩ (p+1)):=fun ty => by
    have:=Lib.run_next_any_at (P:=Tryz.prog) (ty:=ty) wr w.heap.size ⟨#[48,49,50,51,52,53,54,55,56,57,45,95]⟩ p hit hb
    rw [decode_ascii _ _ hb ha,<- hc] at this
    exact this
   rw [<- hc] at ha
   have q:((c:Int) == 65533)=false:=by rw [beq_eq_false_iff_ne];omega
   have hit2:=Lib.iterAt_heap wr w.heap.size _ p (p+1) hit
   have hbw2:=Lib.below_iterAt hbw (k:=w.heap.size) (by omega) ⟨#[48,49,50,51,52,53,54,55,56,57,45,95]⟩ (p+1)
   clear hc hb
   go_wp2
   go_roundw
   case rel => exact ⟨p+1,by omega,hit2,hbw2⟩
   case measure =>
    simp only [World.iterPos,hit2,hit]
    omega
  ·have hnx:∀ ty,(Instr.next (.pointer (some ⟨w.heap.size,0,none⟩)) true ty).run Tryz.prog wr=_:=fun ty => Lib.run_next_end_at wr w.heap.size ⟨#[48,49,50,51,52,53,54,55,56,57,45,95]⟩ p ty hit h
   go_wp2
   go_ret
   exact ⟨rfl,hbw⟩
theorem containsRune_high (r:Int) (h0:128<=r) (hv:Utf8.valid r=true) (w:World) :
  Calls Tryz.prog 278 #[.string ⟨#[48,49,50,51,52,53,54,55,56,57,45,95]⟩,.int .i32 r] w fun e w' => e = .returned (.bool false)/\Below w.heap.size w w':=by
 have hix:Calls Tryz.prog 287 #[.string ⟨#[48,49,50,51,52,53,54,55,56,57,45,95]⟩,.int .i32 r] w fun e w' => e = .returned (.int .i64 (-1))/\Below w.heap.size w w':=by
  have q:∀ W:World,(∃ n,W=w.drewN n)->Below w.heap.size w W:=fun W ⟨n,h⟩ => by rw [h];exact Ut.below_drewN (Below.refl _ _) _
  by_cases he:r=65533
  ·subst he;exact indexRune_err w
  ·by_cases h2:r<2048
   ·exact (indexRune_two r h0 h2 w).mono fun e W ⟨a,b⟩ => ⟨a,q W b⟩
   ·by_cases h3:r<65536
    ·exact (indexRune_three r (by omega) h3 he hv w).mono fun e W ⟨a,b⟩ => ⟨a,q W b⟩
    ·exact (indexRune_four r (by omega) hv w).mono fun e W ⟨a,b⟩ => ⟨a,q W b⟩
 have HIX:=zh hix
 clear hix
 go_enter Tryz.func278,Tryz.ntmps278
 go_wp2_with fail
 refine HIX.out.mono ?_
 rintro e w1 ⟨rfl,hb⟩
 go_wp2
 go_ret
 exact ⟨rfl,hb⟩
def isSign (c:Nat):Bool:=(48<=c && c<=57) || c == 45 || c == 95
theorem sign_ix:∀ c:Fin 128,decide (0<=Lib.indexByte [48,49,50,51,52,53,54,55,56,57,45,95] (UInt8.ofNat c.val))=isSign c.val:=by decide +kernel
theorem containsRune_ascii (c:Nat) (h:c<128) (w:World) :
  Calls Tryz.prog 278 #[.string ⟨#[48,49,50,51,52,53,54,55,56,57,45,95]⟩,.int .i32 c] w fun e w' => e = .returned (.bool (isSign c))/\w'=w:=by
 have e:=Tryz.strings_ContainsRune_ascii ⟨#[48,49,50,51,52,53,54,55,56,57,45,95]⟩ c w (by omega) (by omega)
 have e2:decide (0<=Lib.indexByte (⟨#[48,49,50,51,52,53,54,55,56,57,45,95]⟩:ByteArray).data.toList (c:Int).toNat.toUInt8)=isSign c:=sign_ix ⟨c,h⟩
 rw [e2] at e
 exact e
end
end Go.Proofs.YtimhglmfckfclaaGreatDoor
namespace Go.Proofs.NmPlain
abbrev Bs:=List UInt8
def split:Bs→List Bs
 | [] => [[]]
 | b :: l => if b=46 then [] :: split l else match split l with
  | [] => [[b]]
  | p :: ps => (b :: p) :: ps
theorem size_toList (s:ByteArray):s.size=s.data.toList.length:=Lib.size_eq s
end Go.Proofs.NmPlain
namespace Go.Proofs.YtimhglmfckfclaaGreatDoor
section
open Go.RowKit Go.Proofs.NmPlain
def okAt (i:Nat) (b:UInt8):Bool:=(decide (97<=b.toNat) && decide (b.toNat<=122)) || (decide (i≠0) && isSign b.toNat)
def nameAux:Nat->Bs->Bool
 | _,[] => true
 | i,b :: l => okAt i b && nameAux (i+1) l
def nameB (l:Bs):Bool:=decide (1<=l.length/\l.length<=32) && nameAux 0 l
theorem nameAux_drop {l:Bs} {p:Nat} (h:p<l.length):nameAux p (l.drop p)=(okAt p l[p] && nameAux (p+1) (l.drop (p+1))):=by
 rw [List.drop_eq_getElem_cons h,nameAux]
theorem nameB_len {l:Bs} (h:¬ (1<=l.length/\l.length<=32)):nameB l=false:=by unfold nameB;rw [decide_eq_false h];rfl
theorem nameB_aux {l:Bs} (h:1<=l.length/\l.length<=32):nameB l=nameAux 0 l:=by unfold nameB;rw [decide_eq_true h];rfl
theorem isSign_high {c:Nat} (h:128<=c):isSign c=false:=by
 unfold isSign
 have a:decide (c<=57)=false:=by simp;omega
 have b:(c == 45)=false:=by rw [beq_eq_false_iff_ne];omega
 have d:(c == 95)=false:=by rw [beq_eq_false_iff_ne];omega
 rw [a,b,d];simp
theorem okAt_letter {i:Nat} {b:UInt8} (h1:97<=b.toNat) (h2:b.toNat<=122):okAt i b=true:=by simp [okAt,h1,h2]
theorem okAt_zero {b:UInt8} (h:b.toNat<97\/122<b.toNat):okAt 0 b=false:=by
 unfold okAt
 have:(decide (97<=b.toNat) && decide (b.toNat<=122))=false:=by
  rcases h with h | h
  ·rw [decide_eq_false (by omega)];rfl
  ·rw [decide_eq_false (p:=b.toNat<=122) (by omega),Bool.and_false]
 rw [this];simp
theorem okAt_sign {i:Nat} {b:UInt8} (hi:i≠0) (h:b.toNat<97\/122<b.toNat):okAt i b=isSign b.toNat:=by
 unfold okAt
 have:(decide (97<=b.toNat) && decide (b.toNat<=122))=false:=by
  rcases h with h | h
  ·rw [decide_eq_false (by omega)];rfl
  ·rw [decide_eq_false (p:=b.toNat<=122) (by omega),Bool.and_false]
 rw [this,decide_eq_true hi];simp
theorem decode_valid (s:ByteArray) (p:Nat) (h:p<s.size) (ha:128<=(s[p]'h).toNat):Utf8.valid ((Utf8.decode s p).1:Int)=true:=by
 unfold Utf8.decode
 dsimp only
 have hnot:¬ (s.get! (p+0)).toNat<128:=by rw [get_at s p h];omega
 rw [if_neg hnot]
 have hve:Utf8.valid ((Utf8.runeError:Nat):Int)=true:=by decide
 split
 ·split
  ·rename_i h1 h2
   have h3:(s.get! (p+0)).toNat % 32<32:=Nat.mod_lt _ (by omega)
   have h4:(s.get! (p+1)).toNat % 64<64:=Nat.mod_lt _ (by omega)
   generalize (s.get! (p+0)).toNat % 32=a at *
   generalize (s.get! (p+1)).toNat % 64=b at *
   simp only [Utf8.valid,Bool.or_eq_true,Bool.and_eq_true,decide_eq_true_eq];left;constructor <;> omega
  ·exact hve
 ·split
  ·split
   ·rename_i h1 h2 h3
    simp only [Bool.and_eq_true] at h3;exact h3.2
   ·exact hve
  ·split
   ·split
    ·rename_i h1 h2 h3 h4
     simp only [Bool.and_eq_true] at h4;exact h4.2
    ·exact hve
   ·exact hve
structure RuneAt (s:ByteArray) (p:Nat) (h:p<s.size) (c d:Nat) (q:Bool):Prop where
 dec:Utf8.decode s p=(c,d)
 pos:1<=d
 small:(s[p]'h).toNat<97->c<97
 letter:97<=(s[p]'h).toNat->(s[p]'h).toNat<=122->97<=c/\c<=122/\d=1
 great:122<(s[p]'h).toNat->122<c
 le:c<=2147483647
 one:q=true->d=1
 sign:isSign (s[p]'h).toNat=q
 says:∀ W:World,Calls Tryz.prog 278 #[.string ⟨#[48,49,50,51,52,53,54,55,56,57,45,95]⟩,.int .i32 c] W fun e w' => e = .returned (.bool q)/\Below W.heap.size W w'
theorem rune_at (s:ByteArray) (p:Nat) (h:p<s.size):∃ c d q,RuneAt s p h c d q:=by
 by_cases ha:(s[p]'h).toNat<128
 ·have e:=decode_ascii s p h ha
  refine ⟨_,_,isSign (s[p]'h).toNat,e,Nat.le_refl _,fun h => h,fun a b => ⟨a,b,rfl⟩,fun h => h,by omega,fun _ => rfl,rfl,fun W => ?_⟩
  exact (containsRune_ascii _ ha W).mono fun e w' ⟨a,b⟩ => ⟨a,by rw [b];exact Below.refl _ _⟩
 ·have hd:=decode_high s p h (by omega)
  have hv:=decode_valid s p h (by omega)
  refine ⟨(Utf8.decode s p).1,(Utf8.decode s p).2,false,rfl,hd.2,(fun h => by omega),(fun a b => by omega),(fun _ => by omega),decode_le s p,(fun h => by cases h),isSign_high (by omega),fun W => ?_⟩
  exact containsRune_high _ (by omega) hv W
def NRel (s:ByteArray) (w wr:World):Prop :=
 ∃ p:Nat,p<=s.size/\wr.heap[w.heap.size]? = some (.stringIter s p)/\nameAux 0 s.data.toList=nameAux p (s.data.toList.drop p)/\Below w.heap.size w wr
theorem name_any (s:ByteArray) (hs:s.size<=9223372036854775807) (w:World) :
  Calls Tryz.prog 261 #[.string s] w fun e w' => e = .returned (.bool (nameB s.data.toList))/\Below w.heap.size w w':=by
 by_cases hl:1<=s.size/\s.size<=32
 ·have hnb:nameB s.data.toList=nameAux 0 s.data.toList:=nameB_aux (by rw [<- size_toList];exact hl)
  have hne:s.toList.isEmpty=false:=by
   rw [Lib.toList_data]
   have:s.data.toList.length≠0:=by rw [<- size_toList];omega
   cases h:s.data.toList with
   | nil => rw [h] at this;simp at this
   | cons _ _ => rfl
  obtain ⟨l1,l2⟩:=hl
  rw [hnb]
  clear hnb
  go_enter Tryz.func261,Tryz.ntmps261
  go_wp2
  go_loopw [3,4,5] (fun _ _ _ wr => NRel s w wr) (fun _ _ _ wr => s.size-wr.iterPos w.heap.size)
  case atStart => exact ⟨0,Nat.zero_le _,World.iter_heap _ _ _,rfl,(Below.refl _ _).alloc (Nat.le_refl _) _⟩
  case round =>
   obtain ⟨p,hp,hit,haux,hbw⟩:=hrel
   have hsz:w.heap.size<wr.heap.size:=(zx hit)
   have HA:=zh haux
   clear haux
   by_cases h:p<s.size
   ·obtain ⟨c,d,q,hr⟩:=rune_at s p h
    have hnx:∀ ty,(Instr.next (.pointer (some ⟨w.heap.size,0,none⟩)) true ty).run Tryz.prog wr = .ok (.tuple #[.bool true,.int .i64 p,.int .i32 c]) (wr.iterAt w.heap.size s (p+d)):=fun ty => by
     have:=Lib.run_next_any_at (P:=Tryz.prog) (ty:=ty) wr w.heap.size s p hit h
     rw [hr.dec] at this;exact this
    have hit2:=Lib.iterAt_heap wr w.heap.size s p (p+d) hit
    have hbw2:=Lib.below_iterAt hbw (k:=w.heap.size) (Nat.le_refl _) s (p+d)
    have hsz2:w.heap.size<(wr.iterAt w.heap.size s (p+d)).heap.size:=by rw [Lib.iterAt_size];exact hsz
    have hle:=hr.le
    have hstep:nameAux p (s.data.toList.drop p)=(okAt p s[p] && nameAux (p+1) (s.data.toList.drop (p+1))):=nameAux_drop (by rw [<- size_toList];exact h)
    by_cases hlet:97<=(s[p]'h).toNat/\(s[p]'h).toNat<=122
    ·obtain ⟨c1,c2,rfl⟩:=hr.letter hlet.1 hlet.2
     have hok:=okAt_letter (i:=p) hlet.1 hlet.2
     have HN:Hid (nameAux 0 s.data.toList=nameAux (p+1) (s.data.toList.drop (p+1))):=by
      show _=_;rw [HA.out,hstep,hok,Bool.true_and]
     clear hstep hok hr hlet
     go_wp2
     go_roundw
     case rel => exact ⟨p+1,by omega,hit2,HN,hbw2⟩
     case measure =>
      simp only [World.iterPos,hit2,hit]
      omega
    ·have hnl:(s[p]'h).toNat<97\/122<(s[p]'h).toNat:=by omega
     have hcnl:c<97\/122<c:=hnl.elim (fun h => .inl (hr.small h)) (fun h => .inr (hr.great h))
     by_cases hp0:p=0
     ·subst hp0
      have hok:=okAt_zero hnl
      have HN:Hid (nameAux 0 s.data.toList=false):=by
       show _=_;rw [HA.out,hstep,hok,Bool.false_and]
      clear hstep hok hr hlet hnl
      simp only [Nat.zero_add] at hbw2
      rcases hcnl with hcc | hcc
      ·go_wp2
       go_ret
       exact ⟨Ut.ret_bool HN.out.symm,hbw2⟩
      ·have hd1:decide ((c:Int)<=122)=false:=by simp;omega
       go_wp2
       go_ret
       exact ⟨Ut.ret_bool HN.out.symm,hbw2⟩
     ·have hok:=okAt_sign hp0 hnl
      rw [hr.sign] at hok
      have hq0:((p:Int) == 0)=false:=by rw [beq_eq_false_iff_ne];omega
      have HS:=zh hr.says
      cases q
      ·have HN:Hid (nameAux 0 s.data.toList=false):=by
        show _=_;rw [HA.out,hstep,hok,Bool.false_and]
       clear hstep hok hr hlet hnl
       rcases hcnl with hcc | hcc
       ·go_wp2_with (go_at_call 278;refine (HS.out _).mono ?_;rintro e w2 ⟨rfl,hb2⟩)
        go_ret
        exact ⟨Ut.ret_bool HN.out.symm,hbw2.trans (hb2.mono (Nat.le_of_lt hsz2))⟩
       ·have hd1:decide ((c:Int)<=122)=false:=by simp;omega
        go_wp2_with (go_at_call 278;refine (HS.out _).mono ?_;rintro e w2 ⟨rfl,hb2⟩)
        go_ret
        exact ⟨Ut.ret_bool HN.out.symm,hbw2.trans (hb2.mono (Nat.le_of_lt hsz2))⟩
      ·obtain rfl:=hr.one rfl
       have HN:Hid (nameAux 0 s.data.toList=nameAux (p+1) (s.data.toList.drop (p+1))):=by
        show _=_;rw [HA.out,hstep,hok,Bool.true_and]
       clear hstep hok hr hlet hnl
       rcases hcnl with hcc | hcc
       ·go_wp2_with (go_at_call 278;refine (HS.out _).mono ?_;rintro e w2 ⟨rfl,hb2⟩)
        have hit3:w2.heap[w.heap.size]? = some (.stringIter s (p+1)):=(hb2.block _ hsz2).trans hit2
        go_roundw
        case rel => exact ⟨p+1,by omega,hit3,HN,hbw2.trans (hb2.mono (Nat.le_of_lt hsz2))⟩
        case measure =>
         simp only [World.iterPos,hit3,hit]
         omega
       ·have hd1:decide ((c:Int)<=122)=false:=by simp;omega
        go_wp2_with (go_at_call 278;refine (HS.out _).mono ?_;rintro e w2 ⟨rfl,hb2⟩)
        have hit3:w2.heap[w.heap.size]? = some (.stringIter s (p+1)):=(hb2.block _ hsz2).trans hit2
        go_roundw
        case rel => exact ⟨p+1,by omega,hit3,HN,hbw2.trans (hb2.mono (Nat.le_of_lt hsz2))⟩
        case measure =>
         simp only [World.iterPos,hit3,hit]
         omega
   ·have hnx:∀ ty,(Instr.next (.pointer (some ⟨w.heap.size,0,none⟩)) true ty).run Tryz.prog wr=_:=fun ty => Lib.run_next_end_at wr w.heap.size s p ty hit h
    have HN:Hid (nameAux 0 s.data.toList=true):=by
     show _=_;rw [HA.out,List.drop_of_length_le (by rw [<- size_toList];omega)];rfl
    go_wp2
    go_ret
    exact ⟨Ut.ret_bool HN.out.symm,hbw⟩
 ·have hnb:nameB s.data.toList=false:=nameB_len (by rw [<- size_toList];exact hl)
  rw [hnb]
  clear hnb
  by_cases h0:s.size=0
  ·have hem:s.toList.isEmpty=true:=by
    rw [Lib.toList_data,List.isEmpty_iff_length_eq_zero,<- size_toList];exact h0
   have H0:=zh h0
   clear h0 hl
   go_enter Tryz.func261,Tryz.ntmps261
   go_wp2
   go_ret
   exact ⟨rfl,Below.refl _ _⟩
  ·have hem:s.toList.isEmpty=false:=by
    rw [Lib.toList_data]
    have:s.data.toList.length≠0:=by rw [<- size_toList];omega
    cases h:s.data.toList with
    | nil => rw [h] at this;simp at this
    | cons _ _ => rfl
   have h2:(32:Int)<(s.size:Int):=by omega
   clear hl h0
   go_enter Tryz.func261,Tryz.ntmps261
   go_wp2
   go_ret
   exact ⟨rfl,Below.refl _ _⟩
end
end Go.Proofs.YtimhglmfckfclaaGreatDoor
