/- Parts of the proof. -/
import Derived.Test.YtimhglmfckfclaaGreatDoorM32
set_option linter.unusedVariables false
set_option linter.unusedSimpArgs false
set_option maxRecDepth 100000
set_option maxHeartbeats 16000000
namespace Go.Proofs.YtimhglmfckfclaaGreatDoor
section
open Go.RowKit Go.Maps Go.Shelf
namespace Fr
open Vw (Sess)
open Ex (Ent wo ExpAt)
attribute [local go_sem] Oper.semAt_some
section
variable {lo:Nat} {P:Pa} {st st1 st2:FS} {nw c d:Nat} {Fe:Nat->Prop} {w w' w'':World}
theorem load_sess (W:World) (g:Nat) (s:Sess) (h:W.heap[g]? = some (.cells s.cells.toArray 30 (0,0))):(loadVar 30 ⟨g,0,none⟩).run Tryz.prog W = .ok (.agg s.cells.toArray) W :=
 run_loadVar_row W g _ 30 s.cells.toArray (0,0) _ h Tryz.underlying30 rfl (by kernel_rfl)
structure PlIn (us ub:Int) (r:Req) (x:Sess) (ev:Value) (w W:World):Prop where
 bel:Below w.heap.size w W
 lk:W.heap[w.heap.size]? = some (.cells #[.int .i64 us,.int .i64 ub] 26 (0,0))
 rq:W.heap[w.heap.size+1]? = some (.cells r.cells.toArray 55 (0,0))
 rs:W.heap[w.heap.size+1+1]? = some (.cells x.cells.toArray 30 (0,0))
 er:Boxed W (w.heap.size+1+1+1) 37 ev
theorem PlIn.next {us ub:Int} {r:Req} {x:Sess} {ev:Value} {w W W':World} (h:PlIn us ub r x ev w W) (hb:Below W.heap.size W W'):PlIn us ub r x ev w W' :=
 ⟨h.bel.trans (hb.mono h.bel.size),(hb.block _ (zx h.lk)).trans h.lk,(hb.block _ (zx h.rq)).trans h.rq,(hb.block _ (zx h.rs)).trans h.rs,(hb.block _ h.er.lt).trans h.er⟩
theorem pl_in (us ub:Int) (r:Req) (w:World):PlIn us ub r s0 .nilIface w ((((w.alloc (.cells #[.int .i64 us,.int .i64 ub] 26)).alloc (.cells r.cells.toArray 55)).alloc (.cells s0.cells.toArray 30)).alloc (.cells #[.nilIface] 37)):=by
 have h:=gr_in (P:=⟨0,0,0,0,0⟩) (st:=newF) us ub r w
 have hs:(((w.alloc (.cells #[.int .i64 us,.int .i64 ub] 26)).alloc (.cells r.cells.toArray 55)).alloc (.cells s0.cells.toArray 30)).heap.size=w.heap.size+1+1+1:=by simp
 obtain ⟨W,hW⟩:∃ W,W=((w.alloc (.cells #[.int .i64 us,.int .i64 ub] 26)).alloc (.cells r.cells.toArray 55)).alloc (.cells s0.cells.toArray 30):=⟨_,rfl⟩
 rw [<- hW] at h hs ⊢
 have hb:Below W.heap.size W (W.alloc (.cells #[.nilIface] 37)):=(Below.refl _ _).alloc (Nat.le_refl _) _
 have h2:=h.next hb
 exact ⟨h2.bel,h2.lk,h2.rq,h2.rs,by have:=Boxed.new W 37 .nilIface;rwa [hs] at this⟩
theorem PlIn.put {us ub:Int} {r:Req} {x:Sess} {ev:Value} {w W:World} (h:PlIn us ub r x ev w W) (y:Sess) (ev2:Value) :
  W.there (w.heap.size+1+1) 0 12/\(World.setCells W (w.heap.size+1+1) 0 y.cells).cell? ⟨w.heap.size+1+1+1,0,none⟩=some ev/\(World.setCells W (w.heap.size+1+1) 0 y.cells).frozen? ⟨w.heap.size+1+1+1,0,none⟩=false /\
   PlIn us ub r y ev2 w ((World.setCells W (w.heap.size+1+1) 0 y.cells).setCell ⟨w.heap.size+1+1+1,0,none⟩ ev2)/\Only (fun b => b=w.heap.size+1+1\/b=w.heap.size+1+1+1) W ((World.setCells W (w.heap.size+1+1) 0 y.cells).setCell ⟨w.heap.size+1+1+1,0,none⟩ ev2):=by
 have ho:Only (fun b => b=w.heap.size+1+1) W (World.setCells W (w.heap.size+1+1) 0 y.cells):=only_cells _ _ _ (Only.refl _ _)
 have k1:=put_sess h.rs (by rfl) y
 have k2:Boxed (World.setCells W (w.heap.size+1+1) 0 y.cells) (w.heap.size+1+1+1) 37 ev:=(ho.block _ h.er.lt (by omega)).trans h.er
 have ho2:Only (fun b => b=w.heap.size+1+1\/b=w.heap.size+1+1+1) W ((World.setCells W (w.heap.size+1+1) 0 y.cells).setCell ⟨w.heap.size+1+1+1,0,none⟩ ev2):=(ho.mono (fun _ _ => .inl)).setCell (p:=⟨w.heap.size+1+1+1,0,none⟩) (fun _ => .inr rfl) _
 refine ⟨Ag.there_row h.rs 12 (by show 12<=12;decide),k2.cell,k2.frozen,⟨h.bel.trans (ho2.below h.bel.size (fun i hi hf => by omega)),?_,?_,?_,k2.set _⟩,ho2⟩
 ·exact (ho2.block _ (zx h.lk) (by omega)).trans h.lk
 ·exact (ho2.block _ (zx h.rq) (by omega)).trans h.rq
 ·exact (Below.heap_setCell _ _ _ _ (by simp)).trans k1
abbrev planArgs (P:Pa) (kind us ub:Int) (r:Req):Array Value:=#[.pointer (some ⟨P.f,0,none⟩),.int .i64 kind,.agg #[.int .i64 us,.int .i64 ub],.agg r.cells.toArray]
theorem plan_arg (kind us ub:Int) (hk:kind<0\/2<kind) (r:Req) (w:World) :
  Calls Tryz.prog 21 (planArgs P kind us ub r) w fun e w' => e = .returned (.tuple #[.agg s0.cells.toArray,erV 1])/\Below w.heap.size w w':=by
 have HIN:=zh (pl_in us ub r w)
 have HPU:=zh ((pl_in us ub r w).put s0 (.iface 101 (.int .i64 1)))
 unfold planArgs
 obtain ⟨b1,b2,b3,b4,b5⟩:=r
 simp only [Req.cells] at *
 obtain ⟨W0,hW0⟩:∃ W0,W0=(((w.alloc (.cells #[.int .i64 us,.int .i64 ub] 26)).alloc (.cells #[.string b1,.string b2,.int .u64 (b3:Int),.int .i64 b4,.int .i64 b5] 55)).alloc (.cells s0.cells.toArray 30)).alloc (.cells #[.nilIface] 37):=⟨_,rfl⟩
 rw [<- hW0] at HIN HPU
 replace hW0:W0=(((w.alloc (.cells #[.int .i64 us,.int .i64 ub] 26)).alloc (.cells #[.string b1,.string b2,.int .u64 (b3:Int),.int .i64 b4,.int .i64 b5] 55)).alloc (.cells #[.int .i64 0,.int .i64 0,.int .i64 0,.int .i64 0,.int .i64 0,.string ⟨#[]⟩,.string ⟨#[]⟩,.int .u64 0,.int .i64 0,.int .i64 0,.int .i64 0,.int .i64 0] 30)).alloc (.cells #[.nilIface] 37):=hW0
 have HW0:=zh hW0
 clear hW0
 have HTH:Hid (W0.there (w.heap.size+1+1) 0 12):=HPU.out.1
 obtain ⟨W2,hW2⟩:∃ W2,W2=World.setCells W0 (w.heap.size+1+1) 0 s0.cells:=⟨_,rfl⟩
 have hpu:=HPU.out
 rw [<- hW2] at hpu
 have e1:=hpu.2.1
 have f1:=hpu.2.2.1
 have HRES:=zh hpu.2.2.2.1
 have HW2:=zh hW2
 clear hpu HPU hW2
 by_cases h0:kind<0
 ·clear hk
  go_enter Tryz.func21,Tryz.ntmps21
  go_upto_region 2 with fail
  rw [<- HW0.out]
  go_wp2_with ((refine wpList_store_mid (by rfl) 30 (.tmp 8) (.tmp 21) (by rfl) (w.heap.size+1+1) 0 s0.cells.toArray (by rfl) (by rfl) HTH.out (by kernel_rfl) (all_oneCell_toArray (sess_one _)) ?_);(rw [List.toList_toArray,<- HW2.out]))
  refine bodyPost_ret (results_cells2 rfl _ _ (w.heap.size+1+1) (w.heap.size+1+1+1) _ _ rfl rfl (load_sess _ _ s0 HRES.out.rs) (load_err _ _ _ HRES.out.er.cell)) rfl ?_
  exact ⟨rfl,HRES.out.bel⟩
 ·have h1:0<=kind:=by omega
  have h2:2<kind:=by omega
  clear hk h0
  go_enter Tryz.func21,Tryz.ntmps21
  go_upto_region 2 with fail
  rw [<- HW0.out]
  go_wp2_with ((refine wpList_store_mid (by rfl) 30 (.tmp 8) (.tmp 21) (by rfl) (w.heap.size+1+1) 0 s0.cells.toArray (by rfl) (by rfl) HTH.out (by kernel_rfl) (all_oneCell_toArray (sess_one _)) ?_);(rw [List.toList_toArray,<- HW2.out]))
  refine bodyPost_ret (results_cells2 rfl _ _ (w.heap.size+1+1) (w.heap.size+1+1+1) _ _ rfl rfl (load_sess _ _ s0 HRES.out.rs) (load_err _ _ _ HRES.out.er.cell)) rfl ?_
  exact ⟨rfl,HRES.out.bel⟩
end
end Fr
end
section
open Go.RowKit
namespace Ag
variable {F:Fence} {n:Nat} {P:Program} {ops:Array Oper} {rest:List Oper} {o:Oper} {a:Act} {w:World} {Q:Exit->Act->World->Prop}
theorem wpListIn_load (hg:o.guard=none) (ty:TypeId) (x:Operand) (ho:o.op = .load ty x) (b off:Nat) (hx:a.eval x = .pointer (some ⟨b,off,none⟩)) (cs:List Value) (d:TypeDesc) (hc:w.rangeAt b off cs)
  (hu:P.underlying ty=some d) (hd:d.isRow=true) (hi:(P.info? ty).map (·.size)=some cs.length) (h:wpListIn F n P ops Q rest (a.put o.dst (.agg cs.toArray)) w):wpListIn F n P ops Q (o :: rest) a w:=by
 refine wpListIn_plain hg fun K hK => ?_
 unfold Oper.wpIn
 refine ⟨by simp [Oper.about,ho],?_⟩
 rw [Oper.semAt_plain F _ _ (by rw [ho];intro c hc';cases hc')]
 unfold execOp
 simp only [ho,hx,Instr.loadAt,Instr.sureAddr,Sem.run_bind,Sem.run_pure,Result.andThen_ok,run_loadVar_mid w b off ty cs d hc hu hd hi]
 exact hK _ _ h
theorem wpListIn_one (hg:o.guard=none) (t e:TypeId) (x:Operand) (ho:o.op = .buildSlice t 1 #[(0,x)]) (cs:List Value) (hx:a.eval x = .agg cs.toArray) (ie:TypeInfo) (z:Value) (hu:P.underlying t=some (.slice e)) (hie:P.info? e=some ie) (hz:ie.zero=some z)
  (hn:cs.length=ie.size) (h0:0<ie.size) (hs:ie.size<=16777216) (h:wpListIn F n P ops Q rest (a.put o.dst (.slice (some ⟨w.heap.size,0,none⟩) 1 1)) (w.alloc (.cells cs.toArray e))):wpListIn F n P ops Q (o :: rest) a w:=by
 refine wpListIn_plain hg fun K hK => ?_
 unfold Oper.wpIn
 refine ⟨by simp [Oper.about,ho],?_⟩
 rw [Oper.semAt_plain F _ _ (by rw [ho];intro c hc';cases hc')]
 have hr:=Go.run_buildSlice (P:=P) w t e 1 #[(0,.agg cs.toArray)] cs.toArray ie z hu hie hz (by omega) (by omega) (fill_one ie z cs hn h0)
 unfold execOp
 have e1:(#[(0,x)]:Array (Nat × Operand)).map (fun y => (y.1,a.eval y.2))=#[(0,.agg cs.toArray)]:=by simp [hx]
 simp only [ho]
 rw [e1]
 simp only [Sem.run_bind,hr,Result.andThen_ok]
 exact hK _ _ h
theorem wpListIn_store_new {t:TypeId} {Z:Array Value} (hg:o.guard=none) (ty:TypeId) (x y:Operand) (ho:o.op = .store ty x y) (cs:List Value)
  (hx:a.eval x = .pointer (some ⟨w.heap.size,0,none⟩)) (hy:a.eval y = .agg cs.toArray) (hi:(P.info? ty).map (·.size)=some cs.length) (hZ:Z.size=cs.length) (h1:∀ v ∈ cs,v.oneCell'=true)
  (h:wpListIn F n P ops Q rest (a.put o.dst undef) (w.alloc (.cells cs.toArray t))):wpListIn F n P ops Q (o :: rest) a (w.alloc (.cells Z t)):=by
 refine wpListIn_plain hg fun K hK => ?_
 unfold Oper.wpIn
 refine ⟨by simp [Oper.about,ho],?_⟩
 rw [Oper.semAt_plain F _ _ (by rw [ho];intro c hc';cases hc')]
 have hr:=run_storeVar_mid (P:=P) (w.alloc (.cells Z t)) w.heap.size 0 ty cs.toArray (there_new w t Z _ (by simp [hZ])) (by simpa using hi) (all_oneCell_toArray h1)
 rw [setCells_new,List.toList_toArray,put_all hZ] at hr
 unfold execOp
 simp only [ho,hx,hy,Instr.storeAt,Instr.sureAddr,Sem.run_bind,Sem.run_pure,Result.andThen_ok,hr]
 exact hK _ _ h
end Ag
end
section
open Go.RowKit
namespace Ag
variable {F:Fence} {n:Nat} {P:Program} {ops:Array Oper} {rest:List Oper} {o:Oper} {a:Act} {w:World} {Q:Exit->Act->World->Prop}
theorem wpListIn_store_mid (hg:o.guard=none) (ty:TypeId) (x y:Operand) (ho:o.op = .store ty x y) (b off:Nat) (cs:List Value)
  (hx:a.eval x = .pointer (some ⟨b,off,none⟩)) (hy:a.eval y = .agg cs.toArray) (ht:w.there b off cs.length) (hi:(P.info? ty).map (·.size)=some cs.length) (h1:∀ v ∈ cs,v.oneCell'=true)
  (h:wpListIn F n P ops Q rest (a.put o.dst undef) (w.setCells b off cs)):wpListIn F n P ops Q (o :: rest) a w:=by
 refine wpListIn_plain hg fun K hK => ?_
 unfold Oper.wpIn
 refine ⟨by simp [Oper.about,ho],?_⟩
 rw [Oper.semAt_plain F _ _ (by rw [ho];intro c hc';cases hc')]
 have hr:=run_storeVar_mid (P:=P) w b off ty cs.toArray (by simpa using ht) (by simpa using hi) (all_oneCell_toArray h1)
 rw [List.toList_toArray] at hr
 unfold execOp
 simp only [ho,hx,hy,Instr.storeAt,Instr.sureAddr,Sem.run_bind,Sem.run_pure,Result.andThen_ok,hr]
 exact hK _ _ h
end Ag
end
section
open Go.RowKit Go.Maps Go.Shelf
namespace Fr
open Vw (Sess)
open Ex (Ent wo ExpAt)
attribute [local go_sem] Oper.semAt_some
section
variable {lo:Nat} {P:Pa} {st st1 st2:FS} {nw c d:Nat} {Fe:Nat->Prop} {w w' w'':World}
structure PlR (R:Nat) (x:Sess) (ev:Value) (W:World):Prop where
 rs:W.heap[R]? = some (.cells x.cells.toArray 30 (0,0))
 er:Boxed W (R+1) 37 ev
theorem PlR.only {R:Nat} {x:Sess} {ev:Value} {W W':World} {G:Nat->Prop} (h:PlR R x ev W) (ho:Only G W W') (h1:¬ G R) (h2:¬ G (R+1)):PlR R x ev W' :=
 ⟨(ho.block _ (zx h.rs) h1).trans h.rs,(ho.block _ h.er.lt h2).trans h.er⟩
theorem PlR.turn {R:Nat} {x:Sess} {ev:Value} {W W':World} {row:Option Nat} (h:PlR R x ev W) (hg:W.grownBy W' row) (hr:∀ r,row=some r->R+1<r):PlR R x ev W' :=
 ⟨(hg.block _ (zx h.rs) (fun e => by have:=hr _ e.symm;omega)).trans h.rs,h.er.kept hg (fun e => by have:=hr _ e.symm;omega)⟩
theorem PlR.put {R:Nat} {x:Sess} {ev:Value} {W:World} (h:PlR R x ev W) (y:Sess) (ev2:Value) :
  W.there R 0 12/\(World.setCells W R 0 y.cells).cell? ⟨R+1,0,none⟩=some ev/\(World.setCells W R 0 y.cells).frozen? ⟨R+1,0,none⟩=false /\
   PlR R y ev2 ((World.setCells W R 0 y.cells).setCell ⟨R+1,0,none⟩ ev2)/\Only (fun b => b=R\/b=R+1) W ((World.setCells W R 0 y.cells).setCell ⟨R+1,0,none⟩ ev2):=by
 have ho:Only (fun b => b=R) W (World.setCells W R 0 y.cells):=only_cells _ _ _ (Only.refl _ _)
 have k1:=put_sess h.rs (by rfl) y
 have k2:Boxed (World.setCells W R 0 y.cells) (R+1) 37 ev:=(ho.block _ h.er.lt (by omega)).trans h.er
 have ho2:Only (fun b => b=R\/b=R+1) W ((World.setCells W R 0 y.cells).setCell ⟨R+1,0,none⟩ ev2):=(ho.mono (fun _ _ => .inl)).setCell (p:=⟨R+1,0,none⟩) (fun _ => .inr rfl) _
 exact ⟨Ag.there_row h.rs 12 (by show 12<=12;decide),k2.cell,k2.frozen,⟨(Below.heap_setCell _ _ _ _ (by simp)).trans k1,k2.set _⟩,ho2⟩
def PG (R sx b:Nat):Prop:=b=R\/b=R+1\/b=sx
theorem plan_err (kind us ub:Int) (hk0:0<=kind) (hk2:kind<=2) (r:Req) (no:Int) (hno:no≠0) (gs:Sess)
  (hgr:∀ W,Below w.heap.size w W->Calls Tryz.prog 63 (planArgs P kind us ub r) W fun e w' => e = .returned (.tuple #[.agg gs.cells.toArray,erV no])/\Below W.heap.size W w') :
  Calls Tryz.prog 21 (planArgs P kind us ub r) w fun e w' => e = .returned (.tuple #[.agg s0.cells.toArray,erV no])/\Below w.heap.size w w':=by
 have hev:erV no = .iface 101 (.int .i64 no):=if_neg hno
 obtain ⟨cs,hcs⟩:∃ cs,cs=gs.cells:=⟨_,rfl⟩
 rw [hev] at hgr ⊢
 rw [<- hcs] at hgr
 have HGR:=zh hgr
 have HCL:Hid (cs.length=12):=by show _=_;rw [hcs];rfl
 have HC1:Hid (∀ u ∈ cs,u.oneCell'=true):=by show ∀ _,_;rw [hcs];exact sess_one _
 clear hno hev hcs hgr
 have HIN:=zh (pl_in us ub r w)
 unfold planArgs
 obtain ⟨b1,b2,b3,b4,b5⟩:=r
 simp only [Req.cells] at *
 obtain ⟨W0,hW0⟩:∃ W0,W0=(((w.alloc (.cells #[.int .i64 us,.int .i64 ub] 26)).alloc (.cells #[.string b1,.string b2,.int .u64 (b3:Int),.int .i64 b4,.int .i64 b5] 55)).alloc (.cells s0.cells.toArray 30)).alloc (.cells #[.nilIface] 37):=⟨_,rfl⟩
 rw [<- hW0] at HIN
 replace hW0:W0=(((w.alloc (.cells #[.int .i64 us,.int .i64 ub] 26)).alloc (.cells #[.string b1,.string b2,.int .u64 (b3:Int),.int .i64 b4,.int .i64 b5] 55)).alloc (.cells #[.int .i64 0,.int .i64 0,.int .i64 0,.int .i64 0,.int .i64 0,.string ⟨#[]⟩,.string ⟨#[]⟩,.int .u64 0,.int .i64 0,.int .i64 0,.int .i64 0,.int .i64 0] 30)).alloc (.cells #[.nilIface] 37):=hW0
 have HW0:=zh hW0
 clear hW0
 have l0:W0.cell? ⟨w.heap.size,0,none⟩=some (.int .i64 us):=zl HIN.out.lk rfl
 have l1:W0.cell? ⟨w.heap.size,1,none⟩=some (.int .i64 ub):=zl HIN.out.lk rfl
 have m0:W0.cell? ⟨w.heap.size+1,0,none⟩=some (.string b1):=zl HIN.out.rq rfl
 have m1:W0.cell? ⟨w.heap.size+1,1,none⟩=some (.string b2):=zl HIN.out.rq rfl
 have m2:W0.cell? ⟨w.heap.size+1,2,none⟩=some (.int .u64 (b3:Int)):=zl HIN.out.rq rfl
 have m3:W0.cell? ⟨w.heap.size+1,3,none⟩=some (.int .i64 b4):=zl HIN.out.rq rfl
 have m4:W0.cell? ⟨w.heap.size+1,4,none⟩=some (.int .i64 b5):=zl HIN.out.rq rfl
 go_enter Tryz.func21,Tryz.ntmps21
 go_upto_region 3 with fail
 rw [<- HW0.out]
 go_wp2_with fail
 refine (HGR.out _ HIN.out.bel).mono ?_
 rintro e w1 ⟨rfl,hb1⟩
 obtain ⟨W3,hW3⟩:∃ W3,W3=w1.alloc (.cells cs.toArray 30):=⟨_,rfl⟩
 obtain ⟨sx,hsx⟩:∃ sx,sx=w1.heap.size:=⟨_,rfl⟩
 have hb3:Below W0.heap.size W0 W3:=by rw [hW3];exact hb1.alloc hb1.size _
 have hrs:W3.heap[sx]? = some (.cells cs.toArray 30 (0,0)):=by rw [hW3,hsx];exact World.alloc_heap_new _ _
 have HIN3:=zh (HIN.out.next hb3)
 have HSXL:Hid (w.heap.size+1+1+1<sx):=by show _<_;rw [hsx];exact Nat.lt_of_lt_of_le HIN.out.er.lt hb1.size
 have HRS:=zh hrs;have HW3:=zh hW3;have HSX:=zh hsx
 clear hb1 hb3 hrs hW3 hsx l0 l1 m0 m1 m2 m3 m4
 go_upto_region 4 with (first
  | (refine Ag.wpList_store_new (by rfl) 30 (.tmp 10) (.tmp 29) (by rfl) cs (by rfl) (by rfl) (by rw [HCL.out];kernel_rfl) (by rw [HCL.out];rfl) HC1.out ?_))
 rw [<- HW3.out,<- HSX.out]
 have hpu:=HIN3.out.put s0 (.iface 101 (.int .i64 no))
 obtain ⟨W2,hW2⟩:∃ W2,W2=World.setCells W3 (w.heap.size+1+1) 0 s0.cells:=⟨_,rfl⟩
 rw [<- hW2] at hpu
 have HTH:Hid (W3.there (w.heap.size+1+1) 0 12):=hpu.1
 have e1:=hpu.2.1
 have f1:=hpu.2.2.1
 have HRES:=zh hpu.2.2.2.1
 have HW2:=zh hW2
 clear hpu hW2
 go_wp2_with ((refine wpList_store_mid (by rfl) 30 (.tmp 8) (.tmp 33) (by rfl) (w.heap.size+1+1) 0 s0.cells.toArray (by rfl) (by rfl) HTH.out (by kernel_rfl) (all_oneCell_toArray (sess_one _)) ?_);(rw [List.toList_toArray,<- HW2.out]))
 refine bodyPost_ret (results_cells2 rfl _ _ (w.heap.size+1+1) (w.heap.size+1+1+1) _ _ rfl rfl (load_sess _ _ s0 HRES.out.rs) (load_err _ _ _ HRES.out.er.cell)) rfl ?_
 exact ⟨rfl,HRES.out.bel⟩
theorem plan_go (h:ForAt lo P st nw Fe w) (hw:nw+8<=4611686018427387904) (kind us ub:Int) (hk0:0<=kind) (hk2:kind<=2) (r:Req) (gs:Sess) (s1:FS) (out:Sess) (no:Int) (fe:Bool) (hfe:fe=st.free.isEmpty)
  (hgr:∀ W,Below w.heap.size w W->Calls Tryz.prog 63 (planArgs P kind us ub r) W fun e w' => e = .returned (.tuple #[.agg gs.cells.toArray,.nilIface])/\Below W.heap.size W w')
  (hun:if fe then ∃ o,unitF st=some (s1,o) else s1=st) (hout:(out,no)=match s1.free with | i :: _ => ({ gs with slot:=i },0) | [] => (s0,19)) :
  Calls Tryz.prog 21 (planArgs P kind us ub r) w fun e w' => e = .returned (.tuple #[.agg out.cells.toArray,erV no])/\FoTo lo P s1 8 nw Fe w w':=by
 obtain ⟨cs,hcs⟩:∃ cs,cs=gs.cells:=⟨_,rfl⟩
 rw [<- hcs] at hgr
 have HGR:=zh hgr
 have HCL:Hid (cs.length=12):=by show _=_;rw [hcs];rfl
 have HC1:Hid (∀ u ∈ cs,u.oneCell'=true):=by show ∀ _,_;rw [hcs];exact sess_one _
 have HCS:=zh hcs;have HOUT:=zh hout;have HH:=zh h
 have HFU:Hid (∀ W,Below w.heap.size w W->Calls Tryz.prog 64 #[.pointer (some ⟨P.f,0,none⟩)] W fun e w' => e = .returned (.tuple #[.bool fe,.bool (full st)])/\Below W.heap.size W w'):=by rw [hfe];exact fun W hb => ffull (h.below hb)
 obtain ⟨fu,hfu⟩:∃ fu,fu=full st:=⟨_,rfl⟩
 rw [<- hfu] at HFU
 have HUN:Hid (if fe then ∀ W,Below w.heap.size w W->Calls Tryz.prog 65 #[.pointer (some ⟨P.g,0,none⟩)] W fun e w' => (∃ x y,e = .returned (.tuple #[.int .i64 x,.bool y]))/\FoTo lo P s1 8 nw Fe W w' else s1=st):=by
  show if fe=true then _ else _
  cases fe with
  | true =>
   rw [if_pos rfl] at hun ⊢
   obtain ⟨o,ho⟩:=hun
   intro W hb
   refine (funit (h.below hb) hw o ho).mono ?_
   rintro e w' ⟨rfl,h2⟩
   exact ⟨⟨_,_,rfl⟩,h2⟩
  | false => rw [if_neg (by decide)] at hun ⊢;exact hun
 clear hcs hgr hfe hun hout hfu h
 have HIN:=zh (pl_in us ub r w)
 unfold planArgs
 obtain ⟨b1,b2,b3,b4,b5⟩:=r
 simp only [Req.cells] at *
 obtain ⟨W0,hW0⟩:∃ W0,W0=(((w.alloc (.cells #[.int .i64 us,.int .i64 ub] 26)).alloc (.cells #[.string b1,.string b2,.int .u64 (b3:Int),.int .i64 b4,.int .i64 b5] 55)).alloc (.cells s0.cells.toArray 30)).alloc (.cells #[.nilIface] 37):=⟨_,rfl⟩
 rw [<- hW0] at HIN
 replace hW0:W0=(((w.alloc (.cells #[.int .i64 us,.int .i64 ub] 26)).alloc (.cells #[.string b1,.string b2,.int .u64 (b3:Int),.int .i64 b4,.int .i64 b5] 55)).alloc (.cells #[.int .i64 0,.int .i64 0,.int .i64 0,.int .i64 0,.int .i64 0,.string ⟨#[]⟩,.string ⟨#[]⟩,.int .u64 0,.int .i64 0,.int .i64 0,.int .i64 0,.int .i64 0] 30)).alloc (.cells #[.nilIface] 37):=hW0
 have HW0:=zh hW0
 clear hW0
 have l0:W0.cell? ⟨w.heap.size,0,none⟩=some (.int .i64 us):=zl HIN.out.lk rfl
 have l1:W0.cell? ⟨w.heap.size,1,none⟩=some (.int .i64 ub):=zl HIN.out.lk rfl
 have m0:W0.cell? ⟨w.heap.size+1,0,none⟩=some (.string b1):=zl HIN.out.rq rfl
 have m1:W0.cell? ⟨w.heap.size+1,1,none⟩=some (.string b2):=zl HIN.out.rq rfl
 have m2:W0.cell? ⟨w.heap.size+1,2,none⟩=some (.int .u64 (b3:Int)):=zl HIN.out.rq rfl
 have m3:W0.cell? ⟨w.heap.size+1,3,none⟩=some (.int .i64 b4):=zl HIN.out.rq rfl
 have m4:W0.cell? ⟨w.heap.size+1,4,none⟩=some (.int .i64 b5):=zl HIN.out.rq rfl
 refine (callsIn_wide (n:=9)).1 ?_
 refine callsIn_of_wp_marks Tryz.func21 rfl trivial ?_ rfl
 simp only [Tryz.ntmps21,List.size_toArray,List.length_cons,List.length_nil,Nat.reduceAdd,Nat.reduceSub,Array.replicate_succ,Array.replicate_zero,List.push_toArray,List.append_toArray,List.nil_append,List.cons_append]
 refine wpIn_wide.2 ?_
 go_upto_region 3 with fail
 rw [<- HW0.out]
 go_wp2_with fail
 refine (HGR.out _ HIN.out.bel).mono ?_
 rintro e w1 ⟨rfl,hb1⟩
 obtain ⟨W3,hW3⟩:∃ W3,W3=w1.alloc (.cells cs.toArray 30):=⟨_,rfl⟩
 obtain ⟨sx,hsx⟩:∃ sx,sx=w1.heap.size:=⟨_,rfl⟩
 have hb3:Below W0.heap.size W0 W3:=by rw [hW3];exact hb1.alloc hb1.size _
 have hrs:W3.heap[sx]? = some (.cells cs.toArray 30 (0,0)):=by rw [hW3,hsx];exact World.alloc_heap_new _ _
 have HIN3:=zh (HIN.out.next hb3)
 have HSXL:Hid (w.heap.size+1+1+1<sx):=by show _<_;rw [hsx];exact Nat.lt_of_lt_of_le HIN.out.er.lt hb1.size
 have HRS:=zh hrs;have HW3:=zh hW3;have HSX:=zh hsx
 clear hb1 hb3 hrs hW3 hsx l0 l1 m0 m1 m2 m3 m4
 go_upto_region 4 with (first
  | (refine Ag.wpList_store_new (by rfl) 30 (.tmp 10) (.tmp 29) (by rfl) cs (by rfl) (by rfl) (by rw [HCL.out];kernel_rfl) (by rw [HCL.out];rfl) HC1.out ?_))
 rw [<- HW3.out,<- HSX.out]
 go_wp2_with fail
 refine (HFU.out _ HIN3.out.bel).mono ?_
 rintro e w4 ⟨rfl,hb4⟩
 have hin4:=HIN3.out.next hb4
 have hrs4:=(hb4.block _ (zx HRS.out)).trans HRS.out
 have HIN4:=zh hin4;have HRS4:=zh hrs4
 clear hb4 hin4 hrs4
 have HGW:Hid (∀ k,PG (w.heap.size+1+1) sx k->w.heap.size<=k):=fun k hk => by have:=HSXL.out;rcases hk with rfl | rfl | rfl <;> omega
 cases fe with
 | false =>
  have hs1:s1=st:=HUN.out
  obtain ⟨n5,hn5⟩:∃ n5,n5=nw:=⟨_,rfl⟩
  obtain ⟨F5,hF5⟩:∃ F5,F5=Fe:=⟨_,rfl⟩
  have h5:ForAt lo P s1 n5 F5 w4:=by rw [hs1,hn5,hF5];exact HH.out.below HIN4.out.bel
  have q1:nw<=n5:=by omega
  have q2:n5<=nw+8:=by omega
  have q3:Only (Fo P Fe) w w4:=Only.of_below HIN4.out.bel
  have q4:∀ k,F5 k->Fe k\/w.heap.size<=k:=fun k hk => by rw [hF5] at hk;exact .inl hk
  have hdis:∀ k,Fo P F5 k->¬ PG (w.heap.size+1+1) sx k:=fun k hk hg => by rw [hF5] at hk;have:=(HH.out.lt hk).2;have:=HGW.out k hg;omega
  have hpr:PlR (w.heap.size+1+1) s0 .nilIface w4:=⟨HIN4.out.rs,HIN4.out.er⟩
  have hsxc:w4.heap[sx]? = some (.cells gs.cells.toArray 30 (0,0)):=by rw [<- HCS.out];exact HRS4.out
  have hrsx:w.heap.size+1+1+1<sx:=HSXL.out
  clear hs1 hn5 hF5
  have c25:=h5.ptrs.1
  have HFR:=zh (frees_any P.a s1.S s1.free n5 w4 h5.ar)
  have HFL:Hid (s1.free.length<=32):=by obtain ⟨⟨nx,fi,hA,hF,-⟩,hnd⟩:=h5.ar;exact nodup_len32 hnd hF.thr
  have H5:=zh (And.intro q1 (And.intro q2 (And.intro h5 (And.intro q3 q4))))
  have HDIS:=zh hdis;have HPR:=zh hpr;have HSXC:=zh hsxc
  have HSZ:Hid (w.heap.size+1+1+1<w4.heap.size/\sx<w4.heap.size/\w.heap.size+1+1+1<sx):=⟨hpr.er.lt,(zx hsxc),hrsx⟩
  clear h5 q1 q2 q3 q4 hdis hpr hsxc hrsx
  go_wp2_with fail
  refine HFR.out.mono ?_
  rintro e w6 ⟨⟨v,rfl,k1,k2⟩,hb6⟩
  obtain ⟨bx,hbx⟩:∃ bx,bx=w4.heap.size:=⟨_,rfl⟩
  rw [<- hbx] at k1 k2 ⊢
  have HPR6:Hid (PlR (w.heap.size+1+1) s0 .nilIface w6):=HPR.out.only (Only.of_below (F:=fun _ => False) hb6) (fun h => h) (fun h => h)
  have HSX6:Hid (w6.heap[sx]? = some (.cells gs.cells.toArray 30 (0,0))):=(hb6.block _ HSZ.out.2.1).trans HSXC.out
  have HBX:Hid (w.heap.size+1+1+1<bx/\sx<bx/\w.heap.size+1+1+1<sx):=by have:=HSZ.out;show _/\_;omega
  have HBL:Hid (bx<w6.heap.size):=k1.lt
  have HUX:=zh (fun b (e:v.ownBlock=some b) => k2.lt b e)
  have HB6:=zh hb6
  have HSEQ:=zh (frees_seq 8 bx v s1.free (by have:=HFL.out;omega) (fun b => b=bx\/v.ownBlock=some b) w6 (gathered k1 k2))
  have HFIN:Hid (∀ (A:World) (y:Sess),(out,no)=(y,no)->Only (PG (w.heap.size+1+1) sx) w6 A->∀ D2,w6.heap.size<=D2->FoTo lo P s1 8 nw Fe w (A.putObj D2 (.deferred none))):=fun A y _ ho D2 hD => by
   obtain ⟨p1,p2,p3,p4,p5⟩:=H5.out
   have o1:Only (PG (w.heap.size+1+1) sx) w4 A:=(Only.of_below (F:=PG (w.heap.size+1+1) sx) HB6.out).trans ho (fun _ _ h => h)
   have o2:Only (fun k => PG (w.heap.size+1+1) sx k\/w6.heap.size<=k) w4 (A.putObj D2 (.deferred none)):=(o1.mono (fun _ _ => .inl)).grown (grownBy_putObj' A D2 (.deferred none)) (fun k hk e => by cases e;exact .inr hD)
   refine ⟨n5,F5,p1,p2,p3.only o2 (fun k hk hg => ?_),p4.trans o2 (fun i hi hg => ?_),p5⟩
   ·rcases hg with hg | hg
    ·exact HDIS.out k hk hg
    ·have:=(p3.lt hk).2;have:=HB6.out.size;omega
   ·rcases hg with hg | hg
    ·exact absurd hi (Nat.not_lt.2 (HGW.out i hg))
    ·have:=p4.size;have:=HB6.out.size;omega
  clear k1 k2 hb6 hbx c25
  go_wp2_with fail
  refine (wpIn_wide (n:=9)).1 ?_
  refine Fo.range_foot_sl (F:=Fence.wide) (n:=9) rfl (by omega) (gf:=117) (lb:=#[.pointer (some ⟨bx,0,none⟩)]) rfl trivial (enters_of Tryz.func117 (by kernel_rfl) rfl)
   HSEQ.out (fun _ => rfl) (fun b hb => ⟨by rcases hb with rfl | hb;exact HBL.out;exact (HUX.out b hb).2,rfl⟩)
   (fun pre Fp A => pre=[]/\PlR (w.heap.size+1+1) s0 .nilIface A/\A.heap[sx]? = some (.cells gs.cells.toArray 30 (0,0))/\Only (PG (w.heap.size+1+1) sx) w6 A/\∀ b,Fp b↔PG (w.heap.size+1+1) sx b)
   (fun c pre Fp A => c = .ret/\(∃ i t,s1.free=i :: t/\PlR (w.heap.size+1+1) { gs with slot:=i } .nilIface A)/\Only (PG (w.heap.size+1+1) sx) w6 A/\∀ b,Fp b↔PG (w.heap.size+1+1) sx b)
   (PG (w.heap.size+1+1) sx)
   (fun b hb => ⟨by have h1:=HBL.out;have h2:=HBX.out;rcases hb with rfl | rfl | rfl <;> omega,fun h => by
    have h2:=HBX.out
    have h3:b<bx:=by rcases hb with rfl | rfl | rfl <;> omega
    rcases h with h | h
    ·omega
    ·have:=(HUX.out _ h).1;omega⟩)
   ?hU ?hUx ⟨rfl,HPR6.out,HSX6.out,Only.refl _ _,fun b => Iff.rfl⟩ (fun T x => (T.setIfInBounds 51 (.int .i64 x)).setIfInBounds 14 (.int .i64 x)) ?assign ?body ?done ?stop
  case hU =>
   rintro pre Fp A A' row ⟨h0,h1,h2,h3,h4⟩ hsz hg hrow
   have hr:∀ r,row=some r->w6.heap.size<=r:=fun r e => (hrow r e).1
   exact ⟨h0,h1.turn hg (fun r e => by have:=hr r e;have:=HBL.out;have:=HBX.out;omega),(hg.block _ (zx h2) (fun e => by have:=hr _ e.symm;have:=HBL.out;have:=HBX.out;omega)).trans h2,h3.grown hg (fun k hk e => by have:=hr k e;omega),h4⟩
  case hUx =>
   rintro c pre Fp A A' row ⟨hc,⟨i,t,h0,h1⟩,h3,h4⟩ hsz hg hrow
   have hr:∀ r,row=some r->w6.heap.size<=r:=fun r e => (hrow r e).1
   exact ⟨hc,⟨i,t,h0,h1.turn hg (fun r e => by have:=hr r e;have:=HBL.out;have:=HBX.out;omega)⟩,h3.grown hg (fun k hk e => by have:=hr k e;omega),h4⟩
  case assign =>
   intro l2 x A K2 hK
   unfold encI
   gi_wp2
   exact hK
  case body =>
   rintro l2 pre x Fp A ⟨rfl,hP,hS,hO,hF⟩ hszA hpre
   obtain ⟨t,ht⟩:=hpre
   have hfree:s1.free=x :: t:=ht.symm
   obtain ⟨y,hy⟩:∃ y:Sess,y={ gs with slot:=x }:=⟨_,rfl⟩
   have d0:A.cell? ⟨sx,0,none⟩=some (.int .i64 gs.slot):=zl hS rfl
   have f0:A.frozen? ⟨sx,0,none⟩=false:=by unfold World.frozen?;rw [hS];rfl
   obtain ⟨A1,hA1⟩:∃ A1,A1=A.setCell ⟨sx,0,none⟩ (.int .i64 x):=⟨_,rfl⟩
   have hS1:A1.heap[sx]? = some (.cells y.cells.toArray 30 (0,0)):=by rw [hA1,heap_setCell_same _ _ _ _ _ _ hS,hy];rfl
   have ho1:Only (PG (w.heap.size+1+1) sx) A A1:=by rw [hA1];exact (Only.refl (PG (w.heap.size+1+1) sx) A).setCell (p:=⟨sx,0,none⟩) (fun _ => .inr (.inr rfl)) _
   have hP1:PlR (w.heap.size+1+1) s0 .nilIface A1:=by
    have ho:Only (fun b => b=sx) A A1:=by rw [hA1];exact (Only.refl (fun b => b=sx) A).setCell (p:=⟨sx,0,none⟩) (fun _ => rfl) _
    exact hP.only ho (by have:=HBX.out;omega) (by have:=HBX.out;omega)
   obtain ⟨g1,g2,g3,g4,g5⟩:=hP1.put y .nilIface
   obtain ⟨A2,hA2⟩:∃ A2,A2=World.setCells A1 (w.heap.size+1+1) 0 y.cells:=⟨_,rfl⟩
   rw [<- hA2] at g2 g3 g4 g5
   have HRG:=zh (box_rng hS1)
   have HTH:=zh g1
   have HA1:=zh hA1;have HA2:=zh hA2
   have HE:Hid (PlR (w.heap.size+1+1) { gs with slot:=x } .nilIface (A2.setCell ⟨w.heap.size+1+1+1,0,none⟩ .nilIface)/\Only (PG (w.heap.size+1+1) sx) w6 (A2.setCell ⟨w.heap.size+1+1+1,0,none⟩ .nilIface)/\Only Fp A (A2.setCell ⟨w.heap.size+1+1+1,0,none⟩ .nilIface)):=by
    have o2:Only (PG (w.heap.size+1+1) sx) A (A2.setCell ⟨w.heap.size+1+1+1,0,none⟩ .nilIface):=ho1.trans (g5.mono (fun _ _ h => h.elim .inl (fun h => .inr (.inl h)))) (fun _ _ h => h)
    exact ⟨by rw [<- hy];exact g4,hO.trans o2 (fun _ _ h => h),o2.mono (fun b _ hb => (hF b).2 hb)⟩
   have HFF:=zh hF;have HFREE:=zh hfree
   clear hP hS hO hF hszA ht hfree hA1 hA2 hS1 ho1 hP1 g1 g4 g5 hy
   gi_wp2_with (first
    | ((rw [<- HA1.out]);(refine Ag.wpListIn_load (by rfl) 30 _ (by rfl) _ _ (by rfl) y.cells _ HRG.out Tryz.underlying30 rfl (by kernel_rfl) ?_))
    | ((refine Ag.wpListIn_store_mid (by rfl) 30 (.tmp 8) (.tmp 54) (by rfl) (w.heap.size+1+1) 0 y.cells (by rfl) (by rfl) HTH.out (by kernel_rfl) (sess_one _) ?_);(rw [<- HA2.out])))
   exact ⟨Fp,⟨rfl,⟨x,t,HFREE.out,HE.out.1⟩,HE.out.2.1,HFF.out⟩,HE.out.2.2,fun b hb => .inl hb⟩
  case done =>
   rintro D2 ys Fp A hys hD ⟨h0,hP,hS,hO,hF⟩ hnf hK
   have hemp:s1.free=[]:=by rw [<- hys];exact h0
   have hres:out=s0/\no=19:=by
    have:=HOUT.out
    rw [hemp] at this
    exact ⟨(Prod.mk.inj this).1,(Prod.mk.inj this).2⟩
   obtain ⟨g1,g2,g3,g4,g5⟩:=hP.put s0 (.iface 101 (.int .i64 19))
   obtain ⟨A2,hA2⟩:∃ A2,A2=World.setCells A (w.heap.size+1+1) 0 s0.cells:=⟨_,rfl⟩
   rw [<- hA2] at g2 g3 g4 g5
   have HTH:=zh g1
   have HA2:=zh hA2;have HRES:=zh hres
   have hne:D2≠w.heap.size+1+1/\D2≠w.heap.size+1+1+1:=⟨fun e => hnf ((hF _).2 (.inl e)),fun e => hnf ((hF _).2 (.inr (.inl e)))⟩
   have HK:Hid ((A2.setCell ⟨w.heap.size+1+1+1,0,none⟩ (.iface 101 (.int .i64 19))).heap[D2]? = some (.deferred (some []))):=(g5.block D2 (zx hK) (fun h => h.elim hne.1 hne.2)).trans hK
   have HE:Hid (PlR (w.heap.size+1+1) s0 (.iface 101 (.int .i64 19)) ((A2.setCell ⟨w.heap.size+1+1+1,0,none⟩ (.iface 101 (.int .i64 19))).putObj D2 (.deferred none))/\FoTo lo P s1 8 nw Fe w ((A2.setCell ⟨w.heap.size+1+1+1,0,none⟩ (.iface 101 (.int .i64 19))).putObj D2 (.deferred none))) :=
    ⟨g4.turn (grownBy_putObj' _ D2 (.deferred none)) (fun r e => by cases e;have:=HBL.out;have:=HBX.out;omega),HFIN.out _ out rfl (hO.trans (g5.mono (fun _ _ h => h.elim .inl (fun h => .inr (.inl h)))) (fun _ _ h => h)) D2 hD⟩
   clear hys h0 hP hS hO hF hnf hK hemp hres hA2 g1 g4 g5
   gi_wp2
   go_wp2_with ((refine wpList_store_mid (by rfl) 30 (.tmp 8) (.tmp 55) (by rfl) (w.heap.size+1+1) 0 s0.cells.toArray (by rfl) (by rfl) HTH.out (by kernel_rfl) (all_oneCell_toArray (sess_one _)) ?_);(rw [List.toList_toArray,<- HA2.out]))
   refine ⟨by simp,.inl ⟨_,_,rfl,run_takeDeferred (show _=_ from HK.out),?_⟩⟩
   exact ⟨_,results_cells2 rfl _ _ (w.heap.size+1+1) (w.heap.size+1+1+1) _ _ rfl rfl (load_sess _ _ s0 HE.out.1.rs) (load_err _ _ _ HE.out.1.er.cell),by rw [HRES.out.1,HRES.out.2];rfl,HE.out.2⟩
  case stop =>
   rintro D2 c pre Fp A hSp hD ⟨rfl,⟨i,t,h0,hP⟩,hO,hF⟩ hnf hK
   have hres:out={ gs with slot:=i }/\no=0:=by
    have:=HOUT.out
    rw [h0] at this
    exact ⟨(Prod.mk.inj this).1,(Prod.mk.inj this).2⟩
   have HRES:=zh hres;have HK:=zh hK
   have HE:Hid (PlR (w.heap.size+1+1) { gs with slot:=i } .nilIface (A.putObj D2 (.deferred none))/\FoTo lo P s1 8 nw Fe w (A.putObj D2 (.deferred none))) :=
    ⟨hP.turn (grownBy_putObj' _ D2 (.deferred none)) (fun r e => by cases e;have:=HBL.out;have:=HBX.out;omega),HFIN.out _ out rfl hO D2 hD⟩
   clear hSp h0 hP hO hF hnf hK hres
   gi_wp2
   go_wp2_with fail
   refine ⟨by simp,.inl ⟨_,_,rfl,run_takeDeferred (show _=_ from HK.out),?_⟩⟩
   exact ⟨_,results_cells2 rfl _ _ (w.heap.size+1+1) (w.heap.size+1+1+1) _ _ rfl rfl (load_sess _ _ _ HE.out.1.rs) (load_err _ _ _ HE.out.1.er.cell),by rw [HRES.out.1,HRES.out.2];rfl,HE.out.2⟩
 | true =>
  have c44:=(HH.out.below HIN4.out.bel).ptrs.2.2.1
  have HUN2:=zh (HUN.out w4 HIN4.out.bel)
  go_wp2_with fail
  refine HUN2.out.mono ?_
  rintro e w5 ⟨⟨ux,uy,rfl⟩,n5,F5,q1,q2,h5,o5,n55⟩
  have q3:Only (Fo P Fe) w w5:=(Only.of_below (F:=Fo P Fe) HIN4.out.bel).trans o5 (fun _ _ h => h)
  have q4:∀ k,F5 k->Fe k\/w.heap.size<=k:=fun k hk => (n55 k hk).imp id (fun h => Nat.le_trans HIN4.out.bel.size h)
  have hno:∀ k,PG (w.heap.size+1+1) sx k->¬ Fo P Fe k:=fun k hg hk => by have:=(HH.out.lt hk).2;have:=HGW.out k hg;omega
  have hlt4:∀ k,PG (w.heap.size+1+1) sx k->k<w4.heap.size:=fun k hg => by
   rcases hg with rfl | rfl | rfl
   ·exact (zx HIN4.out.rs)
   ·exact HIN4.out.er.lt
   ·exact (zx HRS4.out)
  have hdis:∀ k,Fo P F5 k->¬ PG (w.heap.size+1+1) sx k:=fun k hk hg => by
   rcases hk with hk | hk | hk | hk | hk
   ·exact hno k hg (.inl hk)
   ·exact hno k hg (.inr (.inl hk))
   ·exact hno k hg (.inr (.inr (.inl hk)))
   ·exact hno k hg (.inr (.inr (.inr (.inl hk))))
   ·rcases n55 k hk with h | h
    ·exact hno k hg (.inr (.inr (.inr (.inr h))))
    ·have:=hlt4 k hg;omega
  have hpr:PlR (w.heap.size+1+1) s0 .nilIface w5:=PlR.only ⟨HIN4.out.rs,HIN4.out.er⟩ o5 (hno _ (.inl rfl)) (hno _ (.inr (.inl rfl)))
  have hsxc:w5.heap[sx]? = some (.cells gs.cells.toArray 30 (0,0)):=by rw [<- HCS.out];exact (o5.block _ (hlt4 _ (.inr (.inr rfl))) (hno _ (.inr (.inr rfl)))).trans HRS4.out
  have hrsx:w.heap.size+1+1+1<sx:=HSXL.out
  clear o5 n55 hno hlt4 c44
  have c25:=h5.ptrs.1
  have HFR:=zh (frees_any P.a s1.S s1.free n5 w5 h5.ar)
  have HFL:Hid (s1.free.length<=32):=by obtain ⟨⟨nx,fi,hA,hF,-⟩,hnd⟩:=h5.ar;exact nodup_len32 hnd hF.thr
  have H5:=zh (And.intro q1 (And.intro q2 (And.intro h5 (And.intro q3 q4))))
  have HDIS:=zh hdis;have HPR:=zh hpr;have HSXC:=zh hsxc
  have HSZ:Hid (w.heap.size+1+1+1<w5.heap.size/\sx<w5.heap.size/\w.heap.size+1+1+1<sx):=⟨hpr.er.lt,(zx hsxc),hrsx⟩
  clear h5 q1 q2 q3 q4 hdis hpr hsxc hrsx
  go_wp2_with fail
  refine HFR.out.mono ?_
  rintro e w6 ⟨⟨v,rfl,k1,k2⟩,hb6⟩
  obtain ⟨bx,hbx⟩:∃ bx,bx=w5.heap.size:=⟨_,rfl⟩
  rw [<- hbx] at k1 k2 ⊢
  have HPR6:Hid (PlR (w.heap.size+1+1) s0 .nilIface w6):=HPR.out.only (Only.of_below (F:=fun _ => False) hb6) (fun h => h) (fun h => h)
  have HSX6:Hid (w6.heap[sx]? = some (.cells gs.cells.toArray 30 (0,0))):=(hb6.block _ HSZ.out.2.1).trans HSXC.out
  have HBX:Hid (w.heap.size+1+1+1<bx/\sx<bx/\w.heap.size+1+1+1<sx):=by have:=HSZ.out;show _/\_;omega
  have HBL:Hid (bx<w6.heap.size):=k1.lt
  have HUX:=zh (fun b (e:v.ownBlock=some b) => k2.lt b e)
  have HB6:=zh hb6
  have HSEQ:=zh (frees_seq 8 bx v s1.free (by have:=HFL.out;omega) (fun b => b=bx\/v.ownBlock=some b) w6 (gathered k1 k2))
  have HFIN:Hid (∀ (A:World) (y:Sess),(out,no)=(y,no)->Only (PG (w.heap.size+1+1) sx) w6 A->∀ D2,w6.heap.size<=D2->FoTo lo P s1 8 nw Fe w (A.putObj D2 (.deferred none))):=fun A y _ ho D2 hD => by
   obtain ⟨p1,p2,p3,p4,p5⟩:=H5.out
   have o1:Only (PG (w.heap.size+1+1) sx) w5 A:=(Only.of_below (F:=PG (w.heap.size+1+1) sx) HB6.out).trans ho (fun _ _ h => h)
   have o2:Only (fun k => PG (w.heap.size+1+1) sx k\/w6.heap.size<=k) w5 (A.putObj D2 (.deferred none)):=(o1.mono (fun _ _ => .inl)).grown (grownBy_putObj' A D2 (.deferred none)) (fun k hk e => by cases e;exact .inr hD)
   refine ⟨n5,F5,p1,p2,p3.only o2 (fun k hk hg => ?_),p4.trans o2 (fun i hi hg => ?_),p5⟩
   ·rcases hg with hg | hg
    ·exact HDIS.out k hk hg
    ·have:=(p3.lt hk).2;have:=HB6.out.size;omega
   ·rcases hg with hg | hg
    ·exact absurd hi (Nat.not_lt.2 (HGW.out i hg))
    ·have:=p4.size;have:=HB6.out.size;omega
  clear k1 k2 hb6 hbx c25
  go_wp2_with fail
  refine (wpIn_wide (n:=9)).1 ?_
  refine Fo.range_foot_sl (F:=Fence.wide) (n:=9) rfl (by omega) (gf:=117) (lb:=#[.pointer (some ⟨bx,0,none⟩)]) rfl trivial (enters_of Tryz.func117 (by kernel_rfl) rfl)
   HSEQ.out (fun _ => rfl) (fun b hb => ⟨by rcases hb with rfl | hb;exact HBL.out;exact (HUX.out b hb).2,rfl⟩)
   (fun pre Fp A => pre=[]/\PlR (w.heap.size+1+1) s0 .nilIface A/\A.heap[sx]? = some (.cells gs.cells.toArray 30 (0,0))/\Only (PG (w.heap.size+1+1) sx) w6 A/\∀ b,Fp b↔PG (w.heap.size+1+1) sx b)
   (fun c pre Fp A => c = .ret/\(∃ i t,s1.free=i :: t/\PlR (w.heap.size+1+1) { gs with slot:=i } .nilIface A)/\Only (PG (w.heap.size+1+1) sx) w6 A/\∀ b,Fp b↔PG (w.heap.size+1+1) sx b)
   (PG (w.heap.size+1+1) sx)
   (fun b hb => ⟨by have h1:=HBL.out;have h2:=HBX.out;rcases hb with rfl | rfl | rfl <;> omega,fun h => by
    have h2:=HBX.out
    have h3:b<bx:=by rcases hb with rfl | rfl | rfl <;> omega
    rcases h with h | h
    ·omega
    ·have:=(HUX.out _ h).1;omega⟩)
   ?hU ?hUx ⟨rfl,HPR6.out,HSX6.out,Only.refl _ _,fun b => Iff.rfl⟩ (fun T x => (T.setIfInBounds 51 (.int .i64 x)).setIfInBounds 14 (.int .i64 x)) ?assign ?body ?done ?stop
  case hU =>
   rintro pre Fp A A' row ⟨h0,h1,h2,h3,h4⟩ hsz hg hrow
   have hr:∀ r,row=some r->w6.heap.size<=r:=fun r e => (hrow r e).1
   exact ⟨h0,h1.turn hg (fun r e => by have:=hr r e;have:=HBL.out;have:=HBX.out;omega),(hg.block _ (zx h2) (fun e => by have:=hr _ e.symm;have:=HBL.out;have:=HBX.out;omega)).trans h2,h3.grown hg (fun k hk e => by have:=hr k e;omega),h4⟩
  case hUx =>
   rintro c pre Fp A A' row ⟨hc,⟨i,t,h0,h1⟩,h3,h4⟩ hsz hg hrow
   have hr:∀ r,row=some r->w6.heap.size<=r:=fun r e => (hrow r e).1
   exact ⟨hc,⟨i,t,h0,h1.turn hg (fun r e => by have:=hr r e;have:=HBL.out;have:=HBX.out;omega)⟩,h3.grown hg (fun k hk e => by have:=hr k e;omega),h4⟩
  case assign =>
   intro l2 x A K2 hK
   unfold encI
   gi_wp2
   exact hK
  case body =>
   rintro l2 pre x Fp A ⟨rfl,hP,hS,hO,hF⟩ hszA hpre
   obtain ⟨t,ht⟩:=hpre
   have hfree:s1.free=x :: t:=ht.symm
   obtain ⟨y,hy⟩:∃ y:Sess,y={ gs with slot:=x }:=⟨_,rfl⟩
   have d0:A.cell? ⟨sx,0,none⟩=some (.int .i64 gs.slot):=zl hS rfl
   have f0:A.frozen? ⟨sx,0,none⟩=false:=by unfold World.frozen?;rw [hS];rfl
   obtain ⟨A1,hA1⟩:∃ A1,A1=A.setCell ⟨sx,0,none⟩ (.int .i64 x):=⟨_,rfl⟩
   have hS1:A1.heap[sx]? = some (.cells y.cells.toArray 30 (0,0)):=by rw [hA1,heap_setCell_same _ _ _ _ _ _ hS,hy];rfl
   have ho1:Only (PG (w.heap.size+1+1) sx) A A1:=by rw [hA1];exact (Only.refl (PG (w.heap.size+1+1) sx) A).setCell (p:=⟨sx,0,none⟩) (fun _ => .inr (.inr rfl)) _
   have hP1:PlR (w.heap.size+1+1) s0 .nilIface A1:=by
    have ho:Only (fun b => b=sx) A A1:=by rw [hA1];exact (Only.refl (fun b => b=sx) A).setCell (p:=⟨sx,0,none⟩) (fun _ => rfl) _
    exact hP.only ho (by have:=HBX.out;omega) (by have:=HBX.out;omega)
   obtain ⟨g1,g2,g3,g4,g5⟩:=hP1.put y .nilIface
   obtain ⟨A2,hA2⟩:∃ A2,A2=World.setCells A1 (w.heap.size+1+1) 0 y.cells:=⟨_,rfl⟩
   rw [<- hA2] at g2 g3 g4 g5
   have HRG:=zh (box_rng hS1)
   have HTH:=zh g1
   have HA1:=zh hA1;have HA2:=zh hA2
   have HE:Hid (PlR (w.heap.size+1+1) { gs with slot:=x } .nilIface (A2.setCell ⟨w.heap.size+1+1+1,0,none⟩ .nilIface)/\Only (PG (w.heap.size+1+1) sx) w6 (A2.setCell ⟨w.heap.size+1+1+1,0,none⟩ .nilIface)/\Only Fp A (A2.setCell ⟨w.heap.size+1+1+1,0,none⟩ .nilIface)):=by
    have o2:Only (PG (w.heap.size+1+1) sx) A (A2.setCell ⟨w.heap.size+1+1+1,0,none⟩ .nilIface):=ho1.trans (g5.mono (fun _ _ h => h.elim .inl (fun h => .inr (.inl h)))) (fun _ _ h => h)
    exact ⟨by rw [<- hy];exact g4,hO.trans o2 (fun _ _ h => h),o2.mono (fun b _ hb => (hF b).2 hb)⟩
   have HFF:=zh hF;have HFREE:=zh hfree
   clear hP hS hO hF hszA ht hfree hA1 hA2 hS1 ho1 hP1 g1 g4 g5 hy
   gi_wp2_with (first
    | ((rw [<- HA1.out]);(refine Ag.wpListIn_load (by rfl) 30 _ (by rfl) _ _ (by rfl) y.cells _ HRG.out Tryz.underlying30 rfl (by kernel_rfl) ?_))
    | ((refine Ag.wpListIn_store_mid (by rfl) 30 (.tmp 8) (.tmp 54) (by rfl) (w.heap.size+1+1) 0 y.cells (by rfl) (by rfl) HTH.out (by kernel_rfl) (sess_one _) ?_);(rw [<- HA2.out])))
   exact ⟨Fp,⟨rfl,⟨x,t,HFREE.out,HE.out.1⟩,HE.out.2.1,HFF.out⟩,HE.out.2.2,fun b hb => .inl hb⟩
  case done =>
   rintro D2 ys Fp A hys hD ⟨h0,hP,hS,hO,hF⟩ hnf hK
   have hemp:s1.free=[]:=by rw [<- hys];exact h0
   have hres:out=s0/\no=19:=by
    have:=HOUT.out
    rw [hemp] at this
    exact ⟨(Prod.mk.inj this).1,(Prod.mk.inj this).2⟩
   obtain ⟨g1,g2,g3,g4,g5⟩:=hP.put s0 (.iface 101 (.int .i64 19))
   obtain ⟨A2,hA2⟩:∃ A2,A2=World.setCells A (w.heap.size+1+1) 0 s0.cells:=⟨_,rfl⟩
   rw [<- hA2] at g2 g3 g4 g5
   have HTH:=zh g1
   have HA2:=zh hA2;have HRES:=zh hres
   have hne:D2≠w.heap.size+1+1/\D2≠w.heap.size+1+1+1:=⟨fun e => hnf ((hF _).2 (.inl e)),fun e => hnf ((hF _).2 (.inr (.inl e)))⟩
   have HK:Hid ((A2.setCell ⟨w.heap.size+1+1+1,0,none⟩ (.iface 101 (.int .i64 19))).heap[D2]? = some (.deferred (some []))):=(g5.block D2 (zx hK) (fun h => h.elim hne.1 hne.2)).trans hK
   have HE:Hid (PlR (w.heap.size+1+1) s0 (.iface 101 (.int .i64 19)) ((A2.setCell ⟨w.heap.size+1+1+1,0,none⟩ (.iface 101 (.int .i64 19))).putObj D2 (.deferred none))/\FoTo lo P s1 8 nw Fe w ((A2.setCell ⟨w.heap.size+1+1+1,0,none⟩ (.iface 101 (.int .i64 19))).putObj D2 (.deferred none))) :=
    ⟨g4.turn (grownBy_putObj' _ D2 (.deferred none)) (fun r e => by cases e;have:=HBL.out;have:=HBX.out;omega),HFIN.out _ out rfl (hO.trans (g5.mono (fun _ _ h => h.elim .inl (fun h => .inr (.inl h)))) (fun _ _ h => h)) D2 hD⟩
   clear hys h0 hP hS hO hF hnf hK hemp hres hA2 g1 g4 g5
   gi_wp2
   go_wp2_with ((refine wpList_store_mid (by rfl) 30 (.tmp 8) (.tmp 55) (by rfl) (w.heap.size+1+1) 0 s0.cells.toArray (by rfl) (by rfl) HTH.out (by kernel_rfl) (all_oneCell_toArray (sess_one _)) ?_);(rw [List.toList_toArray,<- HA2.out]))
   refine ⟨by simp,.inl ⟨_,_,rfl,run_takeDeferred (show _=_ from HK.out),?_⟩⟩
   exact ⟨_,results_cells2 rfl _ _ (w.heap.size+1+1) (w.heap.size+1+1+1) _ _ rfl rfl (load_sess _ _ s0 HE.out.1.rs) (load_err _ _ _ HE.out.1.er.cell),by rw [HRES.out.1,HRES.out.2];rfl,HE.out.2⟩
  case stop =>
   rintro D2 c pre Fp A hSp hD ⟨rfl,⟨i,t,h0,hP⟩,hO,hF⟩ hnf hK
   have hres:out={ gs with slot:=i }/\no=0:=by
    have:=HOUT.out
    rw [h0] at this
    exact ⟨(Prod.mk.inj this).1,(Prod.mk.inj this).2⟩
   have HRES:=zh hres;have HK:=zh hK
   have HE:Hid (PlR (w.heap.size+1+1) { gs with slot:=i } .nilIface (A.putObj D2 (.deferred none))/\FoTo lo P s1 8 nw Fe w (A.putObj D2 (.deferred none))) :=
    ⟨hP.turn (grownBy_putObj' _ D2 (.deferred none)) (fun r e => by cases e;have:=HBL.out;have:=HBX.out;omega),HFIN.out _ out rfl hO D2 hD⟩
   clear hSp h0 hP hO hF hnf hK hres
   gi_wp2
   go_wp2_with fail
   refine ⟨by simp,.inl ⟨_,_,rfl,run_takeDeferred (show _=_ from HK.out),?_⟩⟩
   exact ⟨_,results_cells2 rfl _ _ (w.heap.size+1+1) (w.heap.size+1+1+1) _ _ rfl rfl (load_sess _ _ _ HE.out.1.rs) (load_err _ _ _ HE.out.1.er.cell),by rw [HRES.out.1,HRES.out.2];rfl,HE.out.2⟩
end
end Fr
end
end Go.Proofs.YtimhglmfckfclaaGreatDoor
