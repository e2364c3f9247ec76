/- Parts of the proof. -/
import Derived.Great.BuildSlice
import Derived.Deep.MidRow
import Derived.Laws.NewBlocks
import Derived.Test.YtimhglmfckfclaaGreatDoorM11
import Derived.StillTail
import Derived.StillTactics
import Derived.StillTailTactics
import Derived.RegionTactic
import Derived.Deep.CutRange
set_option linter.unusedVariables false
set_option linter.unusedSimpArgs false
set_option maxRecDepth 100000
set_option maxHeartbeats 16000000
namespace Go.Proofs.YtimhglmfckfclaaGreatDoor
section
open Go.RowKit
namespace Ag
theorem fill_one (ie:TypeInfo) (z:Value) (cs:List Value) (hn:cs.length=ie.size) (h0:0<ie.size):Instr.fill (fun i => some (i * ie.size,ie.size)) ((Array.range (1 * ie.size)).map (z.cells[· % z.cells.size]!)) [(0,.agg cs.toArray)]=some cs.toArray:=by
 have h:=Go.Great.fill_whole (s:=ie.size) h0 [Value.agg cs.toArray] ((Array.range (1 * ie.size)).map (z.cells[· % z.cells.size]!)) (by simp [Value.cells,hn]) (by simp)
 simpa [Value.cells] using h
theorem wpList_one {P:Program} {ops:Array Oper} {rest:List Oper} {o:Oper} {a:Act} {w:World} {Q:Exit->Act->World->Prop} (hg:o.guard=none) (t e:TypeId) (x:Operand) (ho:o.op = .buildSlice t 1 #[(0,x)])
  (cs:List Value) (hx:a.eval x = .agg cs.toArray) (ie:TypeInfo) (z:Value) (hu:P.underlying t=some (.slice e)) (hie:P.info? e=some ie) (hz:ie.zero=some z) (hn:cs.length=ie.size) (h0:0<ie.size) (hs:ie.size<=16777216)
  (h:wpList P ops Q rest (a.put o.dst (.slice (some ⟨w.heap.size,0,none⟩) 1 1)) (w.alloc (.cells cs.toArray e))):wpList P ops Q (o :: rest) a w:=by
 refine Go.wpList_buildSlice hg t e 1 #[(0,x)] ho cs.toArray ie z hu hie hz (by omega) (by omega) ?_ h
 have h:=fill_one ie z cs hn h0
 simpa [hx] using h
def put (Z:Array Value):Nat->List Value->Array Value
 | _,[] => Z
 | o,v :: r => put (Z.setIfInBounds o v) (o+1) r
theorem put_size:∀ (vs:List Value) (o:Nat) (Z:Array Value),(put Z o vs).size=Z.size
 | [],_,_ => rfl
 | v :: r,o,Z => by rw [put,put_size r];simp
theorem put_at:∀ (vs:List Value) (o:Nat) (Z:Array Value) (i:Nat),(put Z o vs)[i]? = if o<=i/\i<o+vs.length/\i<Z.size then vs[i-o]? else Z[i]?
 | [],o,Z,i => by rw [if_neg (by simp;omega)];rfl
 | v :: r,o,Z,i => by
  rw [put,put_at r]
  by_cases h1:o=i
  ·subst h1
   rw [if_neg (by omega)]
   by_cases h2:o<Z.size
   ·rw [if_pos (by simp;omega)];simp [h2]
   ·rw [if_neg (by simp;omega)];simp [h2]
  ·by_cases h2:o+1<=i/\i<o+1+r.length/\i<Z.size
   ·rw [if_pos (by simpa using h2),if_pos (by simp;omega),show i-o=(i-(o+1))+1 by omega,List.getElem?_cons_succ]
   ·rw [if_neg (by simpa using h2),if_neg (by simp;omega),Array.getElem?_setIfInBounds,if_neg h1]
theorem put_all {Z:Array Value} {cs:List Value} (h:Z.size=cs.length):put Z 0 cs=cs.toArray:=by
 apply Array.ext_getElem?
 intro i
 rw [put_at]
 by_cases h1:i<cs.length
 ·rw [if_pos (by omega)];simp
 ·rw [if_neg (by omega)]
  simp [h1,h]
theorem setCells_new (w:World) (t:TypeId):∀ (vs:List Value) (o:Nat) (Z:Array Value),(w.alloc (.cells Z t)).setCells w.heap.size o vs=w.alloc (.cells (put Z o vs) t)
 | [],_,_ => rfl
 | v :: r,o,Z => by
  rw [World.setCells,World.setCell_alloc_at (hn:=rfl),setCells_new w t r];rfl
theorem there_new (w:World) (t:TypeId) (Z:Array Value) (n:Nat) (h:n<=Z.size):(w.alloc (.cells Z t)).there w.heap.size 0 n:=fun j hj => by
 refine ⟨?_,World.frozen?_alloc_new w Z t _⟩
 rw [zc (Ut.alloc_at w (.cells Z t)),Nat.zero_add]
 have h2:j<Z.size:=by omega
 simp [h2]
theorem wpList_store_new {P:Program} {ops:Array Oper} {rest:List Oper} {o:Oper} {a:Act} {w:World} {Q:Exit->Act->World->Prop} {t:TypeId} {Z:Array Value} (hg:o.guard=none) (ty:TypeId) (x y:Operand) (ho:o.op = .store ty x y) (cs:List Value)
  (hx:a.eval x = .pointer (some ⟨w.heap.size,0,none⟩)) (hy:a.eval y = .agg cs.toArray) (hi:(P.info? ty).map (·.size)=some cs.length) (hZ:Z.size=cs.length) (h1:∀ v ∈ cs,v.oneCell'=true)
  (h:wpList P ops Q rest (a.put o.dst undef) (w.alloc (.cells cs.toArray t))):wpList P ops Q (o :: rest) a (w.alloc (.cells Z t)):=by
 refine wpList_store_mid hg ty x y ho w.heap.size 0 cs.toArray hx hy (there_new w t Z _ (by simp [hZ])) (by simpa using hi) (all_oneCell_toArray h1) ?_
 rw [setCells_new,List.toList_toArray,put_all hZ]
 exact h
theorem setCells_row (b:Nat) (t:TypeId):∀ (vs:List Value) (o:Nat) (Z:Array Value) (w:World),w.heap[b]? = some (.cells Z t (0,0))->(w.setCells b o vs).heap[b]? = some (.cells (put Z o vs) t (0,0))
 | [],_,_,_,h => h
 | v :: r,o,Z,w,h => by
  rw [World.setCells,put]
  exact setCells_row b t r _ _ _ (heap_setCell_same w b o _ _ v h)
theorem there_row {w:World} {b:Nat} {t:TypeId} {Z:Array Value} (h:w.heap[b]? = some (.cells Z t (0,0))) (n:Nat) (hn:n<=Z.size):w.there b 0 n:=fun j hj => by
 refine ⟨?_,by unfold World.frozen?;rw [h];rfl⟩
 rw [zc h,Nat.zero_add]
 have h2:j<Z.size:=by omega
 simp [h2]
theorem below_setCells {B:Nat} {a:World} {b:Nat} (hb:B<=b):∀ (vs:List Value) (o:Nat) (w:World),Below B a w->Below B a (w.setCells b o vs)
 | [],_,_,h => h
 | v :: r,o,w,h => by
  rw [World.setCells]
  exact below_setCells hb r _ _ (h.setCell (p:=⟨b,o,none⟩) hb v)
end Ag
end
section
open Go.RowKit
namespace Fr
open Vw (Sess)
def Slt.cells (x:Slt):List Value:=[.bool x.used,.bool x.dead,.int .i64 x.kids,.int .i64 x.prev,.int .i64 x.next,.int .i64 x.s.slot,.int .i64 x.s.birth,.int .i64 x.s.us,.int .i64 x.s.ub,.int .i64 x.s.kind,.string x.s.user,.string x.s.label,.int .u64 (x.s.scopes:Int),.int .i64 x.s.level,.int .i64 x.s.born,.int .i64 x.s.dl,.int .i64 x.s.depth]
theorem Slt.cells_eq (x:Slt):x.cells=[.bool x.used,.bool x.dead,.int .i64 x.kids,.int .i64 x.prev,.int .i64 x.next] ++ x.s.cells:=rfl
theorem Slt.cells_len (x:Slt):x.cells.length=17:=rfl
theorem Slt.one (x:Slt):∀ u ∈ x.cells,u.oneCell'=true:=by
 intro u hu
 simp only [Slt.cells,List.mem_cons,List.not_mem_nil,or_false] at hu
 rcases hu with rfl | rfl | rfl | rfl | rfl | rfl | rfl | rfl | rfl | rfl | rfl | rfl | rfl | rfl | rfl | rfl | rfl <;> rfl
def allS (S:List Slt):List Value:=S.flatMap Slt.cells
theorem allS_len (S:List Slt):(allS S).length=S.length * 17:=by
 unfold allS
 induction S with
 | nil => rfl
 | cons s r ih => rw [List.flatMap_cons,List.length_append,ih,List.length_cons,Slt.cells_len];omega
theorem allS_at:∀ (S:List Slt) {k j:Nat} (hk:k<S.length) (hj:j<17),(allS S)[k * 17+j]? = S[k].cells[j]?
 | [],k,j,hk,_ => absurd hk (Nat.not_lt_zero _)
 | s :: r,0,j,hk,hj => by
  show (s.cells ++ allS r)[0 * 17+j]? = s.cells[j]?
  rw [List.getElem?_append_left (by rw [Slt.cells_len];omega),Nat.zero_mul,Nat.zero_add]
 | s :: r,k+1,j,hk,hj => by
  show (s.cells ++ allS r)[(k+1) * 17+j]? = _
  rw [List.getElem?_append_right (by rw [Slt.cells_len];omega),Slt.cells_len,show (k+1) * 17+j-17=k * 17+j by omega,allS_at r (by simpa using hk) hj]
  rfl
def arCells (S:List Slt) (nx:List Int) (fi:Int) (wr:Nat):List Value:=allS S ++ (nx.map (Value.int .i64) ++ [.int .i64 fi,.int .i64 (wr:Int)])
structure ArW (a:Nat) (S:List Slt) (nx:List Int) (fi:Int) (wr:Nat) (w:World):Prop where
 row:w.heap[a]? = some (.cells (arCells S nx fi wr).toArray 210 (0,0))
 ls:S.length=32
 ln:nx.length=32
section
variable {a:Nat} {S:List Slt} {nx:List Int} {fi:Int} {wr:Nat} {w:World}
theorem ArW.lt (h:ArW a S nx fi wr w):a<w.heap.size:=(zx h.row)
theorem ArW.keep {w':World} (h:ArW a S nx fi wr w) (e:w'.heap[a]? = w.heap[a]?):ArW a S nx fi wr w':=⟨e.trans h.row,h.ls,h.ln⟩
theorem ArW.below {w':World} (h:ArW a S nx fi wr w) (hb:Below w.heap.size w w'):ArW a S nx fi wr w':=h.keep (hb.block a h.lt)
theorem ArW.len (h:ArW a S nx fi wr w):(arCells S nx fi wr).length=578:=by
 unfold arCells
 simp only [List.length_append,allS_len,List.length_map,h.ls,h.ln,List.length_cons,List.length_nil]
theorem ArW.slot (h:ArW a S nx fi wr w) {k:Nat} (hk:k<32):w.rangeAt a (k * 17) (sl S (k:Int)).cells:=fun j u hu => by
 rw [zc h.row,List.getElem?_toArray]
 have hj:j<17:=(List.getElem?_eq_some_iff.1 hu).1
 unfold arCells
 have hk2:k<S.length:=by rw [h.ls];exact hk
 have e:sl S (k:Int)=S[k]:=by
  unfold sl
  rw [List.getD_eq_getElem?_getD,Int.toNat_natCast,List.getElem?_eq_getElem hk2];rfl
 rw [List.getElem?_append_left (by rw [allS_len,h.ls];omega),allS_at S hk2 hj,<- hu,e]
theorem ArW.next (h:ArW a S nx fi wr w) {k:Nat} (hk:k<32):w.cell? ⟨a,544+k,none⟩=some (.int .i64 (nx.getD k 0)):=by
 rw [zc h.row,List.getElem?_toArray]
 unfold arCells
 rw [List.getElem?_append_right (by rw [allS_len,h.ls];omega),allS_len,h.ls,show 544+k-32 * 17=k by omega,List.getElem?_append_left (by rw [List.length_map,h.ln];exact hk),List.getElem?_map,List.getD_eq_getElem?_getD,List.getElem?_eq_getElem (by rw [h.ln];exact hk)];rfl
theorem ArW.first (h:ArW a S nx fi wr w):w.cell? ⟨a,576,none⟩=some (.int .i64 fi):=by
 rw [zc h.row,List.getElem?_toArray]
 unfold arCells
 rw [List.getElem?_append_right (by rw [allS_len,h.ls];omega),allS_len,h.ls,List.getElem?_append_right (by rw [List.length_map,h.ln];omega),List.length_map,h.ln];rfl
theorem ArW.writes (h:ArW a S nx fi wr w):w.cell? ⟨a,577,none⟩=some (.int .i64 (wr:Int)):=by
 rw [zc h.row,List.getElem?_toArray]
 unfold arCells
 rw [List.getElem?_append_right (by rw [allS_len,h.ls];omega),allS_len,h.ls,List.getElem?_append_right (by rw [List.length_map,h.ln];omega),List.length_map,h.ln];rfl
theorem ArW.free (h:ArW a S nx fi wr w) (o:Nat):w.frozen? ⟨a,o,none⟩=false:=by unfold World.frozen?;rw [h.row];rfl
theorem ArW.there (h:ArW a S nx fi wr w) {k:Nat} (hk:k<32):w.there a (k * 17) 17:=fun j hj => by
 refine ⟨?_,h.free _⟩
 rw [zc h.row,List.getElem?_toArray,List.getElem?_eq_getElem (by rw [h.len];omega)];rfl
theorem put_cells {S:List Slt} {k:Nat} (hk:k<S.length) (x:Slt) (t:List Value):Ag.put (allS S ++ t).toArray (k * 17) x.cells=(allS (put S (k:Int) x) ++ t).toArray:=by
 apply Array.ext_getElem?
 intro i
 have hx:x.cells.length=17:=rfl
 have hl:(allS (put S (k:Int) x)).length=S.length * 17:=by rw [allS_len,put_len]
 rw [Ag.put_at,hx,List.size_toArray,List.length_append,allS_len,List.getElem?_toArray,List.getElem?_toArray]
 by_cases hi:i<S.length * 17
 ·rw [List.getElem?_append_left (by rw [allS_len];exact hi),List.getElem?_append_left (by rw [hl];exact hi)]
  have e:i=i / 17 * 17+i % 17:=by omega
  have h1:i / 17<S.length:=by omega
  have h2:i / 17<(put S (k:Int) x).length:=by rw [put_len];exact h1
  have hm:i % 17<17:=by omega
  have e1:(allS (put S (k:Int) x))[i]? = (put S (k:Int) x)[i / 17].cells[i % 17]?:=by
   conv => lhs;rw [e]
   exact allS_at _ h2 hm
  have e2:(allS S)[i]? = S[i / 17].cells[i % 17]?:=by
   conv => lhs;rw [e]
   exact allS_at _ h1 hm
  have e5:(put S (k:Int) x)[i / 17]=if k=i / 17 then x else S[i / 17]:=by
   have:=List.getElem_set (l:=S) (i:=(k:Int).toNat) (j:=i / 17) (a:=x) (h:=by rw [List.length_set];exact h1)
   rw [show (put S (k:Int) x)[i / 17]=(S.set (k:Int).toNat x)[i / 17]'(by rw [List.length_set];exact h1) from rfl,this,Int.toNat_natCast]
  rw [e1,e2,e5]
  by_cases hb:k=i / 17
  ·have e3:i-k * 17=i % 17:=by omega
   rw [if_pos (by omega),if_pos hb,e3]
  ·rw [if_neg (by omega),if_neg hb]
 ·rw [if_neg (by omega),List.getElem?_append_right (by rw [allS_len];omega),List.getElem?_append_right (by rw [hl];omega),allS_len,hl]
theorem ArW.put (h:ArW a S nx fi wr w) {k:Nat} (hk:k<32) (x:Slt):ArW a (Fr.put S (k:Int) x) nx fi wr (w.setCells a (k * 17) x.cells):=by
 refine ⟨?_,by rw [put_len,h.ls],h.ln⟩
 rw [Ag.setCells_row a _ x.cells (k * 17) _ w h.row]
 unfold arCells
 rw [put_cells (by rw [h.ls];exact hk)]
theorem ar3 (X Y:List Value) (p q:Value) (hx:X.length=544) (hy:Y.length=32) (i:Nat):(X ++ (Y ++ [p,q]))[i]? = if i<544 then X[i]? else if i<576 then Y[i-544]? else if i=576 then some p else if i=577 then some q else none:=by
 by_cases h1:i<544
 ·rw [if_pos h1,List.getElem?_append_left (by omega)]
 ·rw [if_neg h1,List.getElem?_append_right (by omega),hx]
  by_cases h2:i<576
  ·rw [if_pos h2,List.getElem?_append_left (by omega)]
  ·rw [if_neg h2,List.getElem?_append_right (by omega),hy]
   by_cases h3:i=576
   ·subst h3;rw [if_pos rfl];rfl
   ·rw [if_neg h3]
    by_cases h4:i=577
    ·subst h4;rw [if_pos rfl];rfl
    ·rw [if_neg h4]
     exact List.getElem?_eq_none (by simp;omega)
theorem ArW.l1 (h:ArW a S nx fi wr w):(allS S).length=544/\(nx.map (Value.int .i64)).length=32:=⟨by rw [allS_len,h.ls],by rw [List.length_map,h.ln]⟩
theorem ArW.setW (h:ArW a S nx fi wr w) (n:Nat):ArW a S nx fi n (w.setCell ⟨a,577,none⟩ (.int .i64 (n:Int))):=by
 refine ⟨?_,h.ls,h.ln⟩
 rw [heap_setCell_same _ _ _ _ _ _ h.row]
 congr 2
 apply Array.ext_getElem?
 intro i
 rw [Array.getElem?_setIfInBounds,List.getElem?_toArray,List.getElem?_toArray,List.size_toArray,h.len]
 unfold arCells
 rw [ar3 _ _ _ _ h.l1.1 h.l1.2,ar3 _ _ _ _ h.l1.1 h.l1.2]
 by_cases h1:i=577
 ·subst h1;simp
 ·rw [if_neg (by omega)]
  simp only [if_neg h1]
theorem ArW.setF (h:ArW a S nx fi wr w) (n:Int):ArW a S nx n wr (w.setCell ⟨a,576,none⟩ (.int .i64 n)):=by
 refine ⟨?_,h.ls,h.ln⟩
 rw [heap_setCell_same _ _ _ _ _ _ h.row]
 congr 2
 apply Array.ext_getElem?
 intro i
 rw [Array.getElem?_setIfInBounds,List.getElem?_toArray,List.getElem?_toArray,List.size_toArray,h.len]
 unfold arCells
 rw [ar3 _ _ _ _ h.l1.1 h.l1.2,ar3 _ _ _ _ h.l1.1 h.l1.2]
 by_cases h1:i=576
 ·subst h1;simp
 ·rw [if_neg (by omega)]
  simp only [if_neg h1]
theorem ArW.setN (h:ArW a S nx fi wr w) {k:Nat} (hk:k<32) (n:Int):ArW a S (nx.set k n) fi wr (w.setCell ⟨a,544+k,none⟩ (.int .i64 n)):=by
 refine ⟨?_,h.ls,by rw [List.length_set,h.ln]⟩
 rw [heap_setCell_same _ _ _ _ _ _ h.row]
 congr 2
 apply Array.ext_getElem?
 intro i
 rw [Array.getElem?_setIfInBounds,List.getElem?_toArray,List.getElem?_toArray,List.size_toArray,h.len]
 unfold arCells
 rw [ar3 _ _ _ _ h.l1.1 h.l1.2,ar3 _ _ _ _ h.l1.1 (by rw [List.length_map,List.length_set,h.ln])]
 by_cases h1:544+k=i
 ·subst h1
  rw [if_pos rfl,if_pos (by omega),if_neg (by omega),if_pos (by omega),List.getElem?_map,List.getElem?_set,h.ln,if_pos (by omega),if_pos (by omega)];rfl
 ·rw [if_neg h1]
  by_cases h2:i<544
  ·rw [if_pos h2,if_pos h2]
  ·rw [if_neg h2,if_neg h2]
   by_cases h3:i<576
   ·rw [if_pos h3,if_pos h3,List.getElem?_map,List.getElem?_map,List.getElem?_set,if_neg (by omega)]
   ·rw [if_neg h3,if_neg h3]
end
theorem results_cell_tmp {P:Program} {fn:Func} {p q:Tmp} {ty:TypeId} (h:fn.results=#[.cell p ty,.tmp q]) (tmps:Array Value) (w:World) (g:Nat) (t:TypeId) (cs:Array Value) (fr:Nat × Nat) (d:TypeDesc)
  (hp:tmps.getD p undef = .pointer (some ⟨g,0,none⟩)) (hg:w.heap[g]? = some (.cells cs t fr)) (hu:P.underlying ty=some d) (hd:(match d with | .struct _ | .array _ _ => true | _ => false)=true) (hi:(P.info? ty).map (·.size)=some cs.size) :
  (results fn tmps).run P w = .ok (.tuple #[.agg cs,tmps.getD q undef]) w:=by
 have hp':tmps[p]?.getD undef = .pointer (some ⟨g,0,none⟩):=by simpa using hp
 simp [results,h,hp',asAddr,run_loadVar_row w g t ty cs fr d hg hu hd hi]
end Fr
end
section
open Go.RowKit
namespace St
theorem value {P:Program} {ops:Array Oper} {w:World} {Q:Act->Prop} {a:Act} {o:Oper} {rest:List Oper} (v:Value) (hw:Region.wanted o (yielded ops a.tmps)=true) (hv:(execOp a.eval o).run P w = .ok (.value v) w)
  (h:wpStill P ops w Q rest (a.put o.dst v)):wpStill P ops w Q (o :: rest) a :=
 wpStill_step fun K hK => by
  rw [if_pos hw]
  unfold Oper.still
  rw [hv]
  exact ⟨rfl,hK _ h⟩
theorem load {P:Program} {ops:Array Oper} {w:World} {Q:Act->Prop} {a:Act} {o:Oper} {rest:List Oper} (hw:Region.wanted o (yielded ops a.tmps)=true) (ty:TypeId) (x:Operand) (ho:o.op = .load ty x)
  (b k:Nat) (hx:a.eval x = .pointer (some ⟨b,k,none⟩)) (cs:List Value) (d:TypeDesc) (hc:w.rangeAt b k cs) (hu:P.underlying ty=some d) (hd:d.isRow=true) (hi:(P.info? ty).map (·.size)=some cs.length)
  (h:wpStill P ops w Q rest (a.put o.dst (.agg cs.toArray))):wpStill P ops w Q (o :: rest) a :=
 value _ hw (by
  unfold execOp
  simp only [ho,hx,Instr.loadAt,Instr.sureAddr,Sem.run_bind,Sem.run_pure,Result.andThen_ok,run_loadVar_mid w b k ty cs d hc hu hd hi]) h
theorem exec_load {P:Program} {w:World} {o:Oper} {ev:Operand->Value} (ty:TypeId) (x:Operand) (ho:o.op = .load ty x) (b k:Nat) (hx:ev x = .pointer (some ⟨b,k,none⟩)) (cs:List Value) (d:TypeDesc) (hc:w.rangeAt b k cs) (hu:P.underlying ty=some d) (hd:d.isRow=true)
  (hi:(P.info? ty).map (·.size)=some cs.length):(execOp ev o).run P w = .ok (.value (.agg cs.toArray)) w:=by
 unfold execOp
 simp only [ho,hx,Instr.loadAt,Instr.sureAddr,Sem.run_bind,Sem.run_pure,Result.andThen_ok,run_loadVar_mid w b k ty cs d hc hu hd hi]
theorem call {P:Program} {ops:Array Oper} {w:World} {Q:Act->Prop} {a:Act} {o:Oper} {rest:List Oper} (v:Value) (hw:Region.wanted o (yielded ops a.tmps)=true) (f:Nat) (args:Array Value) (he:(execOp a.eval o).run P w = .ok (.enter f args) w)
  (hc:Calls P f args w fun e w' => e = .returned v/\w'=w) (h:wpStill P ops w Q rest (a.put o.dst v)):wpStill P ops w Q (o :: rest) a :=
 wpStill_step fun K hK => by
  rw [if_pos hw]
  unfold Oper.still
  rw [he]
  exact ⟨rfl,v,hc,hK _ h⟩
end St
end
section
open Go.RowKit
namespace Fr
open Vw (Sess)
theorem there_yes (i:Int) (h:thr i=true) (w:World):Calls Tryz.prog 115 #[.int .i64 i] w fun e w' => e = .returned (.bool true)/\w=w':=by
 obtain ⟨h0,h1⟩:=thr_iff.1 h
 clear h
 go_enter Tryz.func115,Tryz.ntmps115
 go_wp2
 go_ret
 exact ⟨rfl,rfl⟩
theorem there_no (i:Int) (h:thr i=false) (w:World):Calls Tryz.prog 115 #[.int .i64 i] w fun e w' => e = .returned (.bool false)/\w=w':=by
 have h2:=thr_no.1 h
 clear h
 by_cases h0:0<=i
 ·have h1:32<=i:=by omega
  clear h2
  go_enter Tryz.func115,Tryz.ntmps115
  go_wp2
  go_ret
  exact ⟨by simp;omega,rfl⟩
 ·have h1:i<0:=by omega
  clear h2 h0
  go_enter Tryz.func115,Tryz.ntmps115
  go_wp2
  go_ret
  exact ⟨by simp,rfl⟩
theorem get_ok {a:Nat} {S:List Slt} {nx:List Int} {fi:Int} {wr:Nat} {w:World} (h:ArW a S nx fi wr w) (i:Int) (hi:thr i=true) :
  Calls Tryz.prog 46 #[.pointer (some ⟨a,0,none⟩),.int .i64 i] w fun e w' => e = .returned (.tuple #[.agg (sl S i).cells.toArray,.nilIface])/\Below w.heap.size w w':=by
 obtain ⟨h0,h1⟩:=thr_iff.1 hi
 obtain ⟨k,rfl⟩:=Int.eq_ofNat_of_zero_le h0
 have hk:k<32:=by omega
 obtain ⟨cs,hcs⟩:∃ cs,cs=(sl S (k:Int)).cells:=⟨_,rfl⟩
 have hb:Below w.heap.size w (w.alloc (.cells cs.toArray 115)):=(Below.refl _ _).alloc (Nat.le_refl _) _
 have hrg:∀ o:Obj,(w.alloc o).rangeAt a (k * 17) cs:=fun o => by rw [hcs];exact (h.below ((Below.refl _ _).alloc (Nat.le_refl _) _)).slot hk
 have HRG:=zh hrg
 have HCL:Hid (cs.length=17):=by show _=_;rw [hcs];rfl
 have HC1:Hid (∀ u ∈ cs,u.oneCell'=true):=by show ∀ _,_;rw [hcs];exact (sl S (k:Int)).one
 have HT:=zh (fun w => there_yes (k:Int) hi w)
 have HB:=zh hb
 have hlt:=h.lt
 have HE:Hid ((w.alloc (.cells cs.toArray 115)).heap[w.heap.size]? = some (.cells cs.toArray 115 (0,0))):=Ut.alloc_at _ _
 rw [<- hcs]
 clear hcs hrg hb h hi h0
 go_enter Tryz.func46,Tryz.ntmps46
 go_wp2_with (first
  | (go_at_call 115;(with_reducible refine (HT.out _).mono ?_);rintro e w' ⟨rfl,rfl⟩)
  | (refine wpList_load_mid (by rfl) 115 _ (by rfl) _ _ (by rfl) cs _ (HRG.out _) Tryz.underlying115 rfl (by rw [HCL.out];kernel_rfl) ?_)
  | (refine Ag.wpList_store_new (by rfl) 115 (.tmp 4) (.tmp 16) (by rfl) cs (by rfl) (by rfl) (by rw [HCL.out];kernel_rfl) (by rw [HCL.out];rfl) HC1.out ?_))
 refine bodyPost_ret (results_cell_tmp rfl _ _ w.heap.size _ cs.toArray (0,0) _ rfl HE.out Tryz.underlying115 rfl (by rw [List.size_toArray,HCL.out];kernel_rfl)) rfl ?_
 exact ⟨rfl,HB.out⟩
theorem get_no {a:Nat} (i:Int) (hi:thr i=false) (w:World) :
  Calls Tryz.prog 46 #[.pointer (some ⟨a,0,none⟩),.int .i64 i] w fun e w' => e = .returned (.tuple #[.agg zeroS.cells.toArray,.iface 101 (.int .i64 1)])/\Below w.heap.size w w':=by
 obtain ⟨cs,hcs⟩:∃ cs,cs=zeroS.cells:=⟨_,rfl⟩
 have hb:Below w.heap.size w (w.alloc (.cells cs.toArray 115)):=(Below.refl _ _).alloc (Nat.le_refl _) _
 have HCS:=zh hcs
 have HCL:Hid (cs.length=17):=by show _=_;rw [hcs];rfl
 have HC1:Hid (∀ u ∈ cs,u.oneCell'=true):=by show ∀ _,_;rw [hcs];exact zeroS.one
 have HT:=zh (fun w => there_no i hi w)
 have HB:=zh hb
 have HE:Hid ((w.alloc (.cells cs.toArray 115)).heap[w.heap.size]? = some (.cells cs.toArray 115 (0,0))):=Ut.alloc_at _ _
 rw [<- hcs]
 clear hcs hb hi
 go_enter Tryz.func46,Tryz.ntmps46
 go_wp2_with (first
  | (go_at_call 115;(with_reducible refine (HT.out _).mono ?_);rintro e w' ⟨rfl,rfl⟩)
  | (refine Ag.wpList_store_new (by rfl) 115 (.tmp 4) (.tmp 9) (by rfl) cs (by rfl) (by rw [HCS.out];rfl) (by rw [HCL.out];kernel_rfl) (by rw [HCL.out];rfl) HC1.out ?_))
 refine bodyPost_ret (results_cell_tmp rfl _ _ w.heap.size _ cs.toArray (0,0) _ rfl HE.out Tryz.underlying115 rfl (by rw [List.size_toArray,HCL.out];kernel_rfl)) rfl ?_
 exact ⟨rfl,HB.out⟩
theorem put_ok {a:Nat} {S:List Slt} {nx:List Int} {fi:Int} {wr:Nat} {w:World} (h:ArW a S nx fi wr w) (hw:wr+1<=4611686018427387904) (i:Int) (hi:thr i=true) (x:Slt) :
  Calls Tryz.prog 107 #[.pointer (some ⟨a,0,none⟩),.int .i64 i,.agg x.cells.toArray] w fun e w' => e = .returned .nilIface/\ArW a (put S i x) nx fi (wr+1) w'/\Only (fun b => b=a) w w':=by
 obtain ⟨h0,h1⟩:=thr_iff.1 hi
 obtain ⟨k,rfl⟩:=Int.eq_ofNat_of_zero_le h0
 have hk:k<32:=by omega
 obtain ⟨cs,hcs⟩:∃ cs,cs=x.cells:=⟨_,rfl⟩
 obtain ⟨W,hW⟩:∃ W,W=w.alloc (.cells cs.toArray 115):=⟨_,rfl⟩
 have hb:Below w.heap.size w W:=by rw [hW];exact (Below.refl _ _).alloc (Nat.le_refl _) _
 have hA:=h.below hb
 have hrow:W.heap[w.heap.size]? = some (.cells cs.toArray 115 (0,0)):=by rw [hW];exact Ut.alloc_at _ _
 have hrg:W.drew.rangeAt w.heap.size 0 cs:=fun j u hu => by
  have hrow':W.drew.heap[w.heap.size]? = some (.cells cs.toArray 115 (0,0)):=hrow
  rw [zc hrow',Nat.zero_add];simpa using hu
 have HRG:=zh hrg
 have HCL:Hid (cs.length=17):=by show _=_;rw [hcs];rfl
 have HC1:Hid (∀ u ∈ cs,u.oneCell'=true):=by show ∀ _,_;rw [hcs];exact x.one
 have HT:=zh (fun w => there_yes (k:Int) hi w)
 have hA1:ArW a S nx fi wr W.drew:=hA.below ((Below.refl _ _).drew)
 have HTH:Hid (W.drew.there a (k * 17) cs.toArray.size):=by
  show W.drew.there _ _ _
  rw [List.size_toArray,HCL.out];exact hA1.there hk
 have hA2:ArW a (put S (k:Int) x) nx fi wr (W.drew.setCells a (k * 17) cs):=by rw [hcs];exact hA1.put hk x
 have hO2:Only (fun b => b=a) w (W.drew.setCells a (k * 17) cs):=by
  have:∀ (vs:List Value) (o:Nat) (w1:World),Only (fun b => b=a) w w1->Only (fun b => b=a) w (w1.setCells a o vs):=by
   intro vs
   induction vs with
   | nil => intro o w1 h;exact h
   | cons v r ih => intro o w1 h;rw [World.setCells];exact ih _ _ (h.setCell (p:=⟨a,o,none⟩) (fun _ => rfl) v)
  exact this _ _ _ (Only.of_below hb).drew
 obtain ⟨W2,hW2⟩:∃ W2,W2=W.drew.setCells a (k * 17) cs:=⟨_,rfl⟩
 rw [<- hW2] at hA2 hO2
 have c1:=hA2.writes
 have f1:=hA2.free 577
 have e1:((wr:Int)+1)=((wr+1:Nat):Int):=by omega
 have HF:Hid (ArW a (put S (k:Int) x) nx fi (wr+1) (W2.setCell ⟨a,577,none⟩ (.int .i64 ((wr:Int)+1)))/\Only (fun b => b=a) w (W2.setCell ⟨a,577,none⟩ (.int .i64 ((wr:Int)+1)))):=by
  rw [e1];exact ⟨hA2.setW (wr+1),hO2.setCell (p:=⟨a,577,none⟩) (fun _ => rfl) _⟩
 have HW2:=zh hW2
 have n1:(0:Int)<=(wr:Int):=by omega
 have n2:(wr:Int)<=4611686018427387903:=by omega
 rw [<- hcs]
 clear hcs hrg hb h hA hA1 hA2 hO2 hrow hi h0 e1 hW2 hw
 go_enter Tryz.func107,Tryz.ntmps107
 go_wp2_with (go_at_call 115;(with_reducible refine (HT.out _).mono ?_);rintro e w' ⟨rfl,rfl⟩)
 rw [<- hW]
 clear hW
 refine wp_region_still_tail 6 (by kernel_rfl) (by kernel_rfl) ?_
 simp only [List.take_succ_cons,List.take_zero,List.drop_succ_cons,List.drop_zero]
 still_step
 still_step
 refine St.load (by rfl) 115 _ (by rfl) w.heap.size 0 (by rfl) cs _ HRG.out Tryz.underlying115 rfl (by rw [HCL.out];kernel_rfl) ?_
 still_step
 still_step
 still_step
 refine wpStill_nil ?_
 change wpList _ _ _ _ _ W.drew
 refine wpList_store_mid (by rfl) 115 (.tmp 16) (.tmp 13) (by rfl) a (k * 17) cs.toArray (by rfl) (by rfl) HTH.out (by rw [List.size_toArray,HCL.out];kernel_rfl) (all_oneCell_toArray HC1.out) ?_
 rw [List.toList_toArray,<- HW2.out]
 clear HW2 HTH HRG HC1 HCL
 go_wp2
 go_ret
 exact ⟨rfl,HF.out⟩
theorem bare_any (w:World):Calls Tryz.prog 122 #[] w fun e w' => e = .returned (.agg bare.cells.toArray)/\w'=w.alloc (.cells bare.cells.toArray 115):=by
 obtain ⟨cs,hcs⟩:∃ cs,cs=bare.cells:=⟨_,rfl⟩
 have HCS:=zh hcs
 have HCL:Hid (cs.length=17):=by show _=_;rw [hcs];rfl
 have HC1:Hid (∀ u ∈ cs,u.oneCell'=true):=by show ∀ _,_;rw [hcs];exact bare.one
 have HE:Hid ((w.alloc (.cells cs.toArray 115)).heap[w.heap.size]? = some (.cells cs.toArray 115 (0,0))):=Ut.alloc_at _ _
 rw [<- hcs]
 clear hcs
 go_enter Tryz.func122,Tryz.ntmps122
 go_wp2_with (first
  | (refine Ag.wpList_store_new (by rfl) 115 (.tmp 0) (.tmp 1) (by rfl) cs (by rfl) (by rw [HCS.out];rfl) (by rw [HCL.out];kernel_rfl) (by rw [HCL.out];rfl) HC1.out ?_))
 refine bodyPost_ret (results_cell_row rfl _ _ w.heap.size _ cs.toArray (0,0) _ rfl HE.out Tryz.underlying115 rfl (by rw [List.size_toArray,HCL.out];kernel_rfl)) rfl ?_
 exact ⟨rfl,rfl⟩
end Fr
end
section
open Go.RowKit
namespace Fr
open Vw (Sess)
def FrL (nx:List Int):Int->List Int->Prop
 | fi,[] => fi = -1
 | fi,i :: r => fi=i/\thr i=true/\FrL nx (nx.getD i.toNat 0) r
structure ArAt (a:Nat) (S:List Slt) (fr:List Int) (nw:Nat) (w:World):Prop where
 ex:∃ nx fi,ArW a S nx fi nw w/\FrL nx fi fr/\∀ i,thr i=true->i ∉ fr->nx.getD i.toNat 0 = -2
 nd:fr.Nodup
theorem FrL.thr {nx:List Int}:∀ {fr:List Int} {fi:Int},FrL nx fi fr->∀ i ∈ fr,Fr.thr i=true
 | [],_,_,i,hi => by cases hi
 | j :: r,fi,h,i,hi => by
  rcases List.mem_cons.1 hi with rfl | hi
  ·exact h.2.1
  ·exact FrL.thr h.2.2 i hi
theorem getD_set (nx:List Int) (i j:Nat) (v:Int) (hi:i<nx.length):(nx.set i v).getD j 0=if i=j then v else nx.getD j 0:=by
 rw [List.getD_eq_getElem?_getD,List.getD_eq_getElem?_getD,List.getElem?_set]
 by_cases e:i=j
 ·subst e;simp [hi]
 ·rw [if_neg e,if_neg e]
theorem FrL.set {nx:List Int} {k:Nat} (hk:k<nx.length) (v:Int):∀ {fr:List Int} {fi:Int},FrL nx fi fr->(k:Int) ∉ fr->FrL (nx.set k v) fi fr
 | [],_,h,_ => h
 | i :: r,fi,h,hn => by
  refine ⟨h.1,h.2.1,?_⟩
  have h0:=thr_iff.1 h.2.1
  rw [getD_set nx k i.toNat v hk,if_neg (fun e => hn (by simp;left;omega))]
  exact FrL.set hk v h.2.2 (fun e => hn (List.mem_cons_of_mem _ e))
section
variable {a:Nat} {S:List Slt} {fr:List Int} {nw:Nat} {w:World}
theorem ArAt.below {w':World} (h:ArAt a S fr nw w) (hb:Below w.heap.size w w'):ArAt a S fr nw w':=by
 obtain ⟨⟨nx,fi,h1,h2,h3⟩,h4⟩:=h
 exact ⟨⟨nx,fi,h1.below hb,h2,h3⟩,h4⟩
theorem ArAt.keep {w':World} (h:ArAt a S fr nw w) (e:w'.heap[a]? = w.heap[a]?):ArAt a S fr nw w':=by
 obtain ⟨⟨nx,fi,h1,h2,h3⟩,h4⟩:=h
 exact ⟨⟨nx,fi,h1.keep e,h2,h3⟩,h4⟩
theorem ArAt.lt (h:ArAt a S fr nw w):a<w.heap.size:=by obtain ⟨⟨nx,fi,h1,h2,h3⟩,h4⟩:=h;exact h1.lt
theorem free_ok (h:ArAt a S fr nw w) (hw:nw+1<=4611686018427387904) (i:Int) (hi:thr i=true) (hn:i ∉ fr) :
  Calls Tryz.prog 227 #[.pointer (some ⟨a,0,none⟩),.int .i64 i] w fun e w' => e = .returned .nilIface/\ArAt a (put S i bare) (i :: fr) (nw+1) w'/\Only (fun b => b=a) w w':=by
 obtain ⟨⟨nx,fi,hA,hF,hT⟩,hd⟩:=h
 obtain ⟨h0,h1⟩:=thr_iff.1 hi
 have hv:=hT i hi hn
 obtain ⟨k,rfl⟩:=Int.eq_ofNat_of_zero_le h0
 have hk:k<32:=by omega
 rw [Int.toNat_natCast] at hv
 have c5:=hA.next hk
 rw [hv] at c5
 obtain ⟨cs,hcs⟩:∃ cs,cs=bare.cells:=⟨_,rfl⟩
 have HCL:Hid (cs.length=17):=by show _=_;rw [hcs];rfl
 have HC1:Hid (∀ u ∈ cs,u.oneCell'=true):=by show ∀ _,_;rw [hcs];exact bare.one
 have HTY:=zh (fun w => there_yes (k:Int) hi w)
 have HB:=zh (bare_any w.drew)
 rw [<- hcs] at HB
 obtain ⟨W,hW⟩:∃ W,W=w.drew.alloc (.cells cs.toArray 115):=⟨_,rfl⟩
 have hb:Below w.heap.size w W:=by rw [hW];exact ((Below.refl _ _).drew).alloc (Nat.le_refl _) _
 have hA1:=hA.below hb
 have HTH:Hid (W.there a (k * 17) cs.toArray.size):=by
  show W.there _ _ _
  rw [List.size_toArray,HCL.out];exact hA1.there hk
 have hA2:ArW a (put S (k:Int) bare) nx fi nw (W.setCells a (k * 17) cs):=by rw [hcs];exact hA1.put hk bare
 have hO2:Only (fun b => b=a) w (W.setCells a (k * 17) cs):=by
  have:∀ (vs:List Value) (o:Nat) (w1:World),Only (fun b => b=a) w w1->Only (fun b => b=a) w (w1.setCells a o vs):=by
   intro vs
   induction vs with
   | nil => intro o w1 h;exact h
   | cons v r ih => intro o w1 h;rw [World.setCells];exact ih _ _ (h.setCell (p:=⟨a,o,none⟩) (fun _ => rfl) v)
  exact this _ _ _ (Only.of_below hb)
 obtain ⟨W2,hW2⟩:∃ W2,W2=W.setCells a (k * 17) cs:=⟨_,rfl⟩
 rw [<- hW2] at hA2 hO2
 have c1:W2.cell? ⟨a,576,none⟩=some (.int .i64 fi):=hA2.first
 have c2:W2.cell? ⟨a,544+k,none⟩=some (.int .i64 (nx.getD k 0)):=hA2.next hk
 have f1:=hA2.free 576
 have f2:=hA2.free (544+k)
 have hA4:=(hA2.setF (k:Int)).setN hk fi
 obtain ⟨W4,hW4⟩:∃ W4,W4=(W2.setCell ⟨a,576,none⟩ (.int .i64 (k:Int))).setCell ⟨a,544+k,none⟩ (.int .i64 fi):=⟨_,rfl⟩
 have hO4:Only (fun b => b=a) w W4:=by rw [hW4];exact (hO2.setCell (p:=⟨a,576,none⟩) (fun _ => rfl) _).setCell (p:=⟨a,544+k,none⟩) (fun _ => rfl) _
 rw [<- hW4] at hA4
 have c3:W2.cell? ⟨a,577,none⟩=some (.int .i64 (nw:Int)):=hA2.writes
 have f3:W2.frozen? ⟨a,577,none⟩=false:=hA2.free 577
 have e1:((nw:Int)+1)=((nw+1:Nat):Int):=by omega
 have HR:Hid (∀ V:World,V.heap=(W4.setCell ⟨a,577,none⟩ (.int .i64 ((nw:Int)+1))).heap->V.os=w.os->V.tape=w.tape->V.output=w.output->ArAt a (put S (k:Int) bare) ((k:Int) :: fr) (nw+1) V/\Only (fun b => b=a) w V):=fun V hV v1 v2 v3 => by
  have hA5:ArW a (put S (k:Int) bare) (nx.set k fi) (k:Int) (nw+1) (W4.setCell ⟨a,577,none⟩ (.int .i64 ((nw:Int)+1))):=by rw [e1];exact hA4.setW (nw+1)
  have hO5:=hO4.setCell (p:=⟨a,577,none⟩) (fun _ => rfl) (.int .i64 ((nw:Int)+1))
  have hl:k<nx.length:=by rw [hA.ln];exact hk
  refine ⟨⟨⟨_,_,⟨by rw [hV];exact hA5.row,hA5.ls,hA5.ln⟩,⟨rfl,hi,?_⟩,fun j hj hjn => ?_⟩,List.nodup_cons.2 ⟨hn,hd⟩⟩,⟨v1,v2,v3,by rw [hV];exact hO5.size,fun b hb h => by rw [hV];exact hO5.block b hb h⟩⟩
  ·rw [Int.toNat_natCast,getD_set nx k k fi hl,if_pos rfl]
   exact hF.set hl fi hn
  ·have hj0:=thr_iff.1 hj
   rw [getD_set nx k j.toNat fi hl,if_neg (fun e => hjn (by simp;left;omega))]
   exact hT j hj (fun e => hjn (List.mem_cons_of_mem _ e))
 have HW2:=zh hW2;have HW4:=zh hW4;have HWW:=zh hW
 have n1:(0:Int)<=(nw:Int):=by omega
 have n2:(nw:Int)<=4611686018427387903:=by omega
 have HOS:Hid (W2.os=w.os/\W2.tape=w.tape/\W2.output=w.output):=⟨hO2.os,hO2.tape,hO2.output⟩
 clear hcs hb hA hA1 hA2 hA4 hO2 hO4 hF hT hd hn hi h0 e1 hW2 hW4 hW hv hw
 go_enter Tryz.func227,Tryz.ntmps227
 go_wp2_with (go_at_call 115;(with_reducible refine (HTY.out _).mono ?_);rintro e w' ⟨rfl,rfl⟩)
 refine wp_region_held_drew (S:=fun _ => True) (by kernel_rfl) trivial (fun _ => ?_)
 refine tk 0 rfl (.pointer (some ⟨a,0,none⟩)) (fun w _ => by go_simp) trivial ?_
 try simp only [zq]
 refine tk 1 rfl (.int .i64 (k:Int)) (fun w _ => by go_simp) trivial ?_
 try simp only [zq]
 refine tk 3 rfl (.pointer (some ⟨a,0,none⟩)) (fun w _ => by go_simp) trivial ?_
 try simp only [zq]
 refine tk 4 rfl (.pointer (some ⟨a,0,none⟩)) (fun w _ => by go_simp) trivial ?_
 try simp only [zq]
 refine zr 2 rfl (fun K hK => ?_)
 go_simp
 refine HB.out.mono ?_
 rintro e w3 ⟨rfl,hw3⟩
 rw [hw3]
 clear hw3 HB
 rw [<- HWW.out]
 refine hK.out _ _ trivial (fun _ => ?_)
 clear hK K
 try simp only [zq]
 refine tk 5 rfl (.pointer (some ⟨a,k * 17,none⟩)) (fun w _ => by go_simp) trivial ?_
 try simp only [zq]
 refine zr 6 rfl (fun K hK => ?_)
 rw [if_pos (by rfl)]
 refine wp_store_mid 115 (.tmp 24) (.tmp 21) (by rfl) a (k * 17) cs.toArray (by rfl) (by rfl) HTH.out (by rw [List.size_toArray,HCL.out];kernel_rfl) (all_oneCell_toArray HC1.out) ?_
 rw [List.toList_toArray,<- HW2.out]
 refine hK.out _ _ trivial (fun _ => ?_)
 clear hK K
 refine wpAnyH_done (by kernel_rfl) ?_ _
 try simp only [zq]
 go_wp2_with fail
 go_region
 go_wp2_with fail
 go_ret
 exact ⟨rfl,HR.out _ (by rw [HW4.out];rfl) HOS.out.1 HOS.out.2.1 HOS.out.2.2⟩
end
end Fr
end
section
open Go.RowKit
namespace Fr
open Vw (Sess)
theorem rthere_yes (i:Int) (h:thr i=true) (w:World):Calls Tryz.prog 190 #[.int .i64 i] w fun e w' => e = .returned (.bool true)/\w=w':=by
 obtain ⟨h0,h1⟩:=thr_iff.1 h
 clear h
 go_enter Tryz.func190,Tryz.ntmps190
 go_wp2
 go_ret
 exact ⟨rfl,rfl⟩
theorem rthere_no (i:Int) (h:thr i=false) (w:World):Calls Tryz.prog 190 #[.int .i64 i] w fun e w' => e = .returned (.bool false)/\w=w':=by
 have h2:=thr_no.1 h
 clear h
 by_cases h0:0<=i
 ·have h1:32<=i:=by omega
  clear h2
  go_enter Tryz.func190,Tryz.ntmps190
  go_wp2
  go_ret
  exact ⟨by simp;omega,rfl⟩
 ·have h1:i<0:=by omega
  clear h2 h0
  go_enter Tryz.func190,Tryz.ntmps190
  go_wp2
  go_ret
  exact ⟨by simp,rfl⟩
theorem lk_prev (p n:Int) (w:World):(Instr.field 299 (.agg #[.int .i64 p,.int .i64 n]) 0).run Tryz.prog w = .ok (.int .i64 p) w:=by kernel_rfl
theorem lk_next (p n:Int) (w:World):(Instr.field 299 (.agg #[.int .i64 p,.int .i64 n]) 1).run Tryz.prog w = .ok (.int .i64 n) w:=by kernel_rfl
section
variable {a:Nat} {S:List Slt} {nx:List Int} {fi:Int} {wr:Nat}
theorem of_ok {w:World} (h:ArW a S nx fi wr w) (i:Int) (hi:thr i=true) :
  Calls Tryz.prog 192 #[.pointer (some ⟨a,0,none⟩),.int .i64 i] w fun e w' => e = .returned (.agg #[.int .i64 (sl S i).prev,.int .i64 (sl S i).next])/\Below w.heap.size w w':=by
 obtain ⟨x,hx⟩:∃ x,x=sl S i:=⟨_,rfl⟩
 obtain ⟨cs,hcs⟩:∃ cs,cs=x.cells:=⟨_,rfl⟩
 obtain ⟨W,hW⟩:∃ W,W=w.alloc (.cells #[.int .i64 0,.int .i64 0] 299):=⟨_,rfl⟩
 have hb:Below w.heap.size w W:=by rw [hW];exact (Below.refl _ _).alloc (Nat.le_refl _) _
 have hsz:w.heap.size<W.heap.size:=by rw [hW];simp
 have hg:=get_ok (h.below hb) i hi
 rw [<- hx,<- hcs] at hg
 have HG:=zh hg
 have HB:=zh hb
 have c0:∀ v,(W.alloc v).cell? ⟨w.heap.size,0,none⟩=some (.int .i64 0)/\(W.alloc v).cell? ⟨w.heap.size,1,none⟩=some (.int .i64 0):=fun v => by rw [hW];simp
 have HR0:Hid (W.heap[w.heap.size]? = some (.cells #[.int .i64 0,.int .i64 0] 299 (0,0))):=by show _=_;rw [hW];exact Ut.alloc_at _ _
 have HCL:Hid (cs.length=17):=by show _=_;rw [hcs];rfl
 have HC1:Hid (∀ u ∈ cs,u.oneCell'=true):=by show ∀ _,_;rw [hcs];exact x.one
 have HCS:=zh hcs
 rw [<- hx]
 have hlt:=hsz
 clear hx hcs hb hg h hi c0
 go_enter Tryz.func192,Tryz.ntmps192
 go_wp2_with fail
 rw [<- hW]
 clear hW
 refine HG.out.mono ?_
 rintro e w1 ⟨rfl,hb1⟩
 have r0:w1.heap[w.heap.size]? = some (.cells #[.int .i64 0,.int .i64 0] 299 (0,0)):=(hb1.block _ hlt).trans HR0.out
 have hne:w.heap.size≠w1.heap.size:=by have:=hb1.size;omega
 have r1:(w1.alloc (.cells cs.toArray 115)).heap[w.heap.size]? = some (.cells #[.int .i64 0,.int .i64 0] 299 (0,0)):=(Below.heap_alloc _ _ _ (by have:=hb1.size;omega)).trans r0
 have r2:(w1.alloc (.cells cs.toArray 115)).heap[w1.heap.size]? = some (.cells cs.toArray 115 (0,0)):=Ut.alloc_at _ _
 have d3:(w1.alloc (.cells cs.toArray 115)).cell? ⟨w1.heap.size,3,none⟩=some (.int .i64 x.prev):=by rw [zc r2,HCS.out];rfl
 have d4:(w1.alloc (.cells cs.toArray 115)).cell? ⟨w1.heap.size,4,none⟩=some (.int .i64 x.next):=by rw [zc r2,HCS.out];rfl
 obtain ⟨W2,hW2⟩:∃ W2,W2=w1.alloc (.cells cs.toArray 115):=⟨_,rfl⟩
 have hb2:Below w.heap.size w W2:=by rw [hW2];exact (HB.out.trans (hb1.mono HB.out.size)).alloc (by have:=hb1.size;omega) _
 rw [<- hW2] at r1 r2 d3 d4
 have HW2:=zh hW2
 have HB2:=zh hb2
 have e0:W2.cell? ⟨w.heap.size,0,none⟩=some (.int .i64 0):=zl r1 rfl
 have e1:W2.cell? ⟨w.heap.size,1,none⟩=some (.int .i64 0):=zl r1 rfl
 have f0:W2.frozen? ⟨w.heap.size,0,none⟩=false:=by unfold World.frozen?;rw [r1];rfl
 have f1:W2.frozen? ⟨w.heap.size,1,none⟩=false:=by unfold World.frozen?;rw [r1];rfl
 have HE:Hid (((W2.setCell ⟨w.heap.size,0,none⟩ (.int .i64 x.prev)).setCell ⟨w.heap.size,1,none⟩ (.int .i64 x.next)).heap[w.heap.size]? = some (.cells #[.int .i64 x.prev,.int .i64 x.next] 299 (0,0))):=by
  show _=_
  rw [heap_setCell_same _ _ _ _ _ _ (heap_setCell_same _ _ _ _ _ _ r1)];rfl
 have HBE:Hid (Below w.heap.size w ((W2.setCell ⟨w.heap.size,0,none⟩ (.int .i64 x.prev)).setCell ⟨w.heap.size,1,none⟩ (.int .i64 x.next))):=(HB2.out.setCell (p:=⟨w.heap.size,0,none⟩) (Nat.le_refl _) _).setCell (p:=⟨w.heap.size,1,none⟩) (Nat.le_refl _) _
 clear hb1 r0 hne r1 r2 hW2 hb2
 go_upto_region 4 with (first
  | (refine Ag.wpList_store_new (by rfl) 115 (.tmp 5) (.tmp 11) (by rfl) cs (by rfl) (by rfl) (by rw [HCL.out];kernel_rfl) (by rw [HCL.out];rfl) HC1.out ?_))
 rw [<- HW2.out]
 go_wp2
 refine bodyPost_ret (results_cell_row rfl _ _ w.heap.size _ #[.int .i64 x.prev,.int .i64 x.next] (0,0) _ rfl HE.out Tryz.underlying299 rfl (by kernel_rfl)) rfl ?_
 exact ⟨rfl,HBE.out⟩
theorem set_ok {w:World} (h:ArW a S nx fi wr w) (hw:wr+1<=4611686018427387904) (i p n:Int) (hi:thr i=true) :
  Calls Tryz.prog 248 #[.pointer (some ⟨a,0,none⟩),.int .i64 i,.agg #[.int .i64 p,.int .i64 n]] w fun e w' => e = .returned (.tuple #[])/\(∃ wr',wr<=wr'/\wr'<=wr+1/\ArW a (setS S i p n) nx fi wr' w')/\Only (fun b => b=a) w w':=by
 obtain ⟨x,hx⟩:∃ x,x=sl S i:=⟨_,rfl⟩
 obtain ⟨cs,hcs⟩:∃ cs,cs=x.cells:=⟨_,rfl⟩
 obtain ⟨W,hW⟩:∃ W,W=w.alloc (.cells #[.int .i64 p,.int .i64 n] 299):=⟨_,rfl⟩
 have hb:Below w.heap.size w W:=by rw [hW];exact (Below.refl _ _).alloc (Nat.le_refl _) _
 have hsz:w.heap.size<W.heap.size:=by rw [hW];simp
 have hg:=get_ok (h.below hb) i hi
 rw [<- hx,<- hcs] at hg
 have HG:=zh hg
 have HB:=zh hb
 have HA:=zh h
 have HR0:Hid (W.heap[w.heap.size]? = some (.cells #[.int .i64 p,.int .i64 n] 299 (0,0))):=by show _=_;rw [hW];exact Ut.alloc_at _ _
 have HCL:Hid (cs.length=17):=by show _=_;rw [hcs];rfl
 have HC1:Hid (∀ u ∈ cs,u.oneCell'=true):=by show ∀ _,_;rw [hcs];exact x.one
 have HCS:=zh hcs
 have HX:=zh hx
 have HI:=zh hi;have HWR:=zh hw
 have hlt:=hsz
 clear hx hcs hb hg h hi hw
 go_enter Tryz.func248,Tryz.ntmps248
 go_wp2_with fail
 rw [<- hW]
 clear hW
 refine HG.out.mono ?_
 rintro e w1 ⟨rfl,hb1⟩
 have r0:w1.heap[w.heap.size]? = some (.cells #[.int .i64 p,.int .i64 n] 299 (0,0)):=(hb1.block _ hlt).trans HR0.out
 have r1:(w1.alloc (.cells cs.toArray 115)).heap[w.heap.size]? = some (.cells #[.int .i64 p,.int .i64 n] 299 (0,0)):=(Below.heap_alloc _ _ _ (by have:=hb1.size;omega)).trans r0
 have r2:(w1.alloc (.cells cs.toArray 115)).heap[w1.heap.size]? = some (.cells cs.toArray 115 (0,0)):=Ut.alloc_at _ _
 obtain ⟨N,hN⟩:∃ N,N=w1.heap.size:=⟨_,rfl⟩
 have hNw:w.heap.size<N:=by have:=hb1.size;omega
 obtain ⟨W2,hW2⟩:∃ W2,W2=w1.alloc (.cells cs.toArray 115):=⟨_,rfl⟩
 have hb2:Below w.heap.size w W2:=by rw [hW2];exact (HB.out.trans (hb1.mono HB.out.size)).alloc (by have:=hb1.size;omega) _
 rw [<- hW2] at r1 r2
 rw [<- hN] at r2
 have hA2:=HA.out.below hb2
 have HW2:=zh hW2
 have HB2:=zh hb2
 have HA2:=zh hA2
 have HN:=zh hN
 have d3:W2.cell? ⟨N,3,none⟩=some (.int .i64 x.prev):=by rw [zc r2,HCS.out];rfl
 have d4:W2.cell? ⟨N,4,none⟩=some (.int .i64 x.next):=by rw [zc r2,HCS.out];rfl
 have e0:W2.cell? ⟨w.heap.size,0,none⟩=some (.int .i64 p):=zl r1 rfl
 have e1:W2.cell? ⟨w.heap.size,1,none⟩=some (.int .i64 n):=zl r1 rfl
 have R2:=zh r2
 clear hb1 r0 r1 r2 hb2 hA2 hW2 hN
 go_upto_region 2 with (first
  | (refine Ag.wpList_store_new (by rfl) 115 (.tmp 6) (.tmp 12) (by rfl) cs (by rfl) (by rfl) (by rw [HCL.out];kernel_rfl) (by rw [HCL.out];rfl) HC1.out ?_))
 rw [<- HW2.out,<- HN.out]
 by_cases hc:x.prev=p/\x.next=n
 ·obtain ⟨hp,hn⟩:=hc
  have HR:Hid (setS S i p n=S):=setS_same S HA.out.ls i HI.out (by rw [<- HX.out];exact hp) (by rw [<- HX.out];exact hn)
  subst hp hn
  go_wp2
  go_end0
  exact ⟨rfl,⟨wr,Nat.le_refl _,by omega,by rw [HR.out];exact HA2.out⟩,Only.of_below HB2.out⟩
 ·have f3:W2.frozen? ⟨N,3,none⟩=false:=by unfold World.frozen?;rw [R2.out];rfl
  have f4:W2.frozen? ⟨N,4,none⟩=false:=by unfold World.frozen?;rw [R2.out];rfl
  obtain ⟨y,hy⟩:∃ y:Slt,y={ x with prev:=p,next:=n }:=⟨_,rfl⟩
  obtain ⟨ds,hds⟩:∃ ds,ds=y.cells:=⟨_,rfl⟩
  have r3:(((W2.setCell ⟨N,3,none⟩ (.int .i64 p)).setCell ⟨N,4,none⟩ (.int .i64 n)).drew).heap[N]? = some (.cells ds.toArray 115 (0,0)):=by
   show ((W2.setCell ⟨N,3,none⟩ (.int .i64 p)).setCell ⟨N,4,none⟩ (.int .i64 n)).heap[N]? = _
   rw [heap_setCell_same _ _ _ _ _ _ (heap_setCell_same _ _ _ _ _ _ R2.out),HCS.out,hds,hy];rfl
  have HRG:Hid ((((W2.setCell ⟨N,3,none⟩ (.int .i64 p)).setCell ⟨N,4,none⟩ (.int .i64 n)).drew).rangeAt N 0 ds):=fun j u hu => by
   rw [zc r3,Nat.zero_add];simpa using hu
  have hb3:Below w.heap.size w (((W2.setCell ⟨N,3,none⟩ (.int .i64 p)).setCell ⟨N,4,none⟩ (.int .i64 n)).drew):=((HB2.out.setCell (p:=⟨N,3,none⟩) (Nat.le_of_lt hNw) _).setCell (p:=⟨N,4,none⟩) (Nat.le_of_lt hNw) _).drew
  have HDL:Hid (ds.length=17):=by show _=_;rw [hds];rfl
  have hput:=put_ok (HA.out.below hb3) HWR.out i HI.out y
  rw [<- hds] at hput
  have HP:=zh hput
  have HPS:Hid (put S i y=setS S i p n):=by show _=_;unfold setS;rw [hy,HX.out]
  have HB3:=zh hb3
  clear hds hy r3 hb3 hput
  go_wp2_with fail
  all_goals go_region
  all_goals go_wp2_with (refine wpList_load_mid (by rfl) 115 _ (by rfl) _ _ (by rfl) ds _ HRG.out Tryz.underlying115 rfl (by rw [HDL.out];kernel_rfl) ?_)
  all_goals (
   refine HP.out.mono ?_
   rintro e w5 ⟨rfl,hA5,hO5⟩
   have HR:Hid ((∃ wr',wr<=wr'/\wr'<=wr+1/\ArW a (setS S i p n) nx fi wr' w5)/\Only (fun b => b=a) w w5):=⟨⟨wr+1,by omega,Nat.le_refl _,by rw [<- HPS.out];exact hA5⟩,(Only.of_below HB3.out).trans hO5 (fun _ _ h => h)⟩
   clear hA5 hO5
   go_wp2
   go_end0
   exact ⟨rfl,HR.out⟩)
end
end Fr
end
end Go.Proofs.YtimhglmfckfclaaGreatDoor
