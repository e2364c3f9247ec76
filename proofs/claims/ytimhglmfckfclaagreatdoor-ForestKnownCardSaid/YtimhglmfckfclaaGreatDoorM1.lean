/- Parts of the proof. -/
import Derived.Test.YtimhglmfckfclaaGreatDoorQq
import Derived.RangeFuncWrites
import Derived.RangeFuncBound
import Derived.Maps.AppendAt
import Derived.RangeFuncBox
import Derived.Deep.Draws
import Derived.OwnWalk
set_option linter.unusedVariables false
set_option linter.unusedSimpArgs false
set_option maxRecDepth 100000
set_option maxHeartbeats 16000000
namespace Go.Proofs.YtimhglmfckfclaaGreatDoor
section
open Go.RowKit
namespace Mq
variable {F:Fence} {n:Nat} {P:Program}
def Seq {α:Type} (F:Fence) (n:Nat) (P:Program) (g:Nat) (lb:Array Value) (encs:α->Array Value) (I:List α->World->Prop) (Step:List α->α->World->World->Prop) (Fin:List α->World->World->Prop) (M:Nat):Prop :=
 ∀ (l:Nat) (J Jx Done:List α->World->Prop) (W:World),
  (∀ pre A,J pre A->I pre A/\pre.length<=M/\(∀ x B,Step pre x A B->YieldAt F (n-1) P l (encs x) B fun e W' => (e = .returned (.bool true)/\J (pre ++ [x]) W')\/(e = .returned (.bool false)/\Jx (pre ++ [x]) W'))/\(∀ B,Fin pre A B->Done pre B)) ->
  J [] W->CallsIn F n P g (#[.func (.yield l) #[] #[]] ++ lb) W fun e W' => (∃ v,e = .returned v)/\((∃ pre,Done pre W')\/∃ pre,Jx pre W')
def Left {α:Type} (B:Nat) (U:List α->World->Prop) (Ux:Code->List α->World->Prop) (xs:List α) (W:World):Exit->Act->World->Prop
 | .normal,_,W' => KeepsFrom B W W'/\U xs W'
 | .ret,_,W' => KeepsFrom B W W'/\Ux .ret xs W'
 | .exit id,_,W' => KeepsFrom B W W'/\Ux (.exit id) xs W'
 | .goto t,_,W' => KeepsFrom B W W'/\Ux (.goto t) xs W'
 | .panic _,_,_ => False
 | .outgrown,_,_ => False
theorem KeepsFrom.lie {B k:Nat} {o:Obj} {W W':World} (h:KeepsFrom B W W') (hB:B<=k) (hk:W.heap[k]? = some o) (ho:o.isCells=false):W'.heap[k]? = some o:=h.same k o hB hk ho
theorem range_mut {α:Type} {g:Operand} {ps:Array Tmp} {assign body:Code} {Q:Exit->Act->World->Prop} {a:Act} {w:World}
  (hro:F.round=none) (h1:1<=n) {gf:Nat} {lb:Array Value} (hg:a.eval g = .func (.func gf) #[] lb) (hFg:F.fn gf) (eg:∀ args w,(callFunc gf args).run P w = .ok (.enter gf args) w)
  {encs:α->Array Value} {I:List α->World->Prop} {Step:List α->α->World->World->Prop} {Fin:List α->World->World->Prop} {mx:Nat} (hseq:Seq F (n-1) P gf lb encs I Step Fin mx) (hps:∀ x,(encs x).size=ps.size)
  (U:List α->World->Prop) (M:List α × α->World->Prop) (M':List α × α × Nat->World->Prop) (D:List α->World->Prop) (Ux:Code->List α->World->Prop)
  (hU:OwnFrom w.heap.size U) (hM:OwnFrom w.heap.size M') (hD:OwnFrom w.heap.size D) (hUx:∀ c,OwnFrom w.heap.size (Ux c))
  (hstep:∀ pre A,U pre A->w.heap.size<=A.heap.size->I pre A/\pre.length<=mx/\(∀ x B,Step pre x A B->M (pre,x) B/\KeepsFrom w.heap.size A B)/\(∀ B,Fin pre A B->D pre B/\KeepsFrom w.heap.size A B))
  (h0:U [] w) (a₁:α->Nat->Act) (w₁:α->World->World) (hM1:∀ pre x W,M (pre,x) W->M' (pre,x,W.heap.size) (w₁ x W)/\KeepsFrom w.heap.size W (w₁ x W))
  (hassign:∀ (l:Nat) (x:α) (W:World) (K:Act->World->Prop),K (a₁ x W.heap.size) (w₁ x W) ->
   assign.wpIn (F.inRound l) (n-1-1) P (Exit.then K (fun _ _ _ => False)) { tmps:=(ps.zip (encs x)).foldl (fun t (p,v) => t.setIfInBounds p v) a.tmps,defers:=[] } W)
  (hbody:∀ (l:Nat) (pre:List α) (x:α) (b:Nat) (W:World),M' (pre,x,b) W->body.wpIn (F.inRound l) (n-1-1) P (Left w.heap.size U Ux (pre ++ [x]) W) (a₁ x b) W)
  (hdone:∀ (d:Nat) (xs:List α) (W:World),w.heap.size<=d->D xs W->W.heap[d]? = some (.deferred (some []))->Q .normal { a with defers:={ target:=.collected d,args:=#[] } :: a.defers } W)
  (hstop:∀ (d:Nat) (c:Code) (pre:List α) (W:World),w.heap.size<=d->Ux c pre W->W.heap[d]? = some (.deferred (some []))->c.wpIn F n P Q { a with defers:={ target:=.collected d,args:=#[] } :: a.defers } W) :
  (Code.rangeFunc g ps assign body).wpIn F n P Q a w:=by
 refine wpIn_rangeFunc fun fn hfn => ?_
 rw [hro]
 -- the loop's record,by its state and the pending jump
 let rec_:LoopState->Option Code->Loop:=fun st pe => { state:=st,pending:=pe,fn,tmps:=a.tmps,params:=ps,assign,body,defers:=w.heap.size }
 have hrs:∀ st pe,(rec_ st pe).state=st:=fun _ _ => rfl
 have hrp:∀ st pe,(rec_ st pe).params=ps:=fun _ _ => rfl
 have hrb:∀ st pe st' pe',{ rec_ st pe with state:=st',pending:=pe' }=rec_ st' pe':=fun _ _ _ _ => rfl
 have hrb2:∀ st pe st',{ rec_ st pe with state:=st' }=rec_ st' pe:=fun _ _ _ => rfl
 have hrf:∀ st pe,(rec_ st pe).fn=fn/\(rec_ st pe).assign=assign/\(rec_ st pe).body=body/\(rec_ st pe).tmps=a.tmps/\(rec_ st pe).pending=pe:=fun _ _ => ⟨rfl,rfl,rfl,rfl,rfl⟩
 have hent:(Instr.enterLoop fn a.tmps ps assign body none).run P w = .ok (w.heap.size+1,[{ target:=.collected w.heap.size,args:=#[] }]) ((w.alloc (.deferred (some []))).alloc (.loop (rec_ .ready none))):=run_enterLoop_outer fn a.tmps ps assign body
 -- two facts of book-keeping
 let Bk:Loop->World->Prop:=fun r W => W.heap[w.heap.size+1]? = some (.loop r)/\W.heap[w.heap.size]? = some (.deferred (some []))
 have hBk:∀ r W,Bk r W↔(W.heap[w.heap.size+1]? = some (.loop r)/\W.heap[w.heap.size]? = some (.deferred (some []))):=fun _ _ => Iff.rfl
 generalize hW1:(w.alloc (.deferred (some []))).alloc (.loop (rec_ .ready none))=W1 at hent
 have hB1:Bk (rec_ .ready none) W1:=by
  subst hW1
  refine ⟨?_,(Below.heap_alloc _ _ _ (by simp)).trans (World.alloc_heap_new w _)⟩
  have:=World.alloc_heap_new (w.alloc (.deferred (some []))) (.loop (rec_ .ready none))
  rwa [World.size_alloc] at this
 have hU1:U [] W1:=by subst hW1;exact hU.alloc _ (hU.alloc _ h0)
 clear_value Bk rec_
 have keep:∀ {r A B},KeepsFrom w.heap.size A B->Bk r A->Bk r B:=fun hk hb => by
  rw [hBk] at hb ⊢
  exact ⟨KeepsFrom.lie hk (Nat.le_succ _) hb.1 rfl,KeepsFrom.lie hk (Nat.le_refl _) hb.2 rfl⟩
 have big:∀ {r A},Bk r A->w.heap.size+1<A.heap.size:=fun hb => by rw [hBk] at hb;exact (zx hb.1)
 have turn:∀ {r A} (r':Loop),Bk r A->Bk r' (A.putObj (w.heap.size+1) (.loop r')):=fun r' hb => by
  have h:=big hb
  rw [hBk] at hb ⊢
  exact ⟨World.putObj_heap_same h,(World.putObj_heap_other (by omega)).trans hb.2⟩
 refine ⟨w.heap.size+1,[{ target:=.collected w.heap.size,args:=#[] }],W1,{ target:=.fn (.func gf) lb,args:=#[.func (.yield (w.heap.size+1)) #[] #[]] },W1,gf,#[.func (.yield (w.heap.size+1)) #[] #[]] ++ lb,W1,hent,?_,?_,?_,fun _ => h1,?_⟩
 ·simp only [resolve,hg]
  simp [go_sem]
 ·intro f' hf';simp [Target.leads] at hf';subst hf';exact hFg
 ·simp [invoke,go_sem,eg]
 refine (hseq (w.heap.size+1) (fun pre W => U pre W/\Bk (rec_ .ready none) W) (fun pre W => ∃ c,Ux c pre W/\Bk (rec_ .done (some c)) W) (fun pre W => D pre W/\Bk (rec_ .ready none) W) W1 ?_ ⟨hU1,hB1⟩).mono ?_
 ·rintro pre A ⟨hu,hb⟩
  obtain ⟨hI,hmx,hst,hfi⟩:=hstep pre A hu (by have:=big hb;omega)
  refine ⟨hI,hmx,fun x B hs => ?_,fun B hf => ⟨(hfi B hf).1,keep (hfi B hf).2 hb⟩⟩
  obtain ⟨hm0,hk⟩:=hst x B hs
  have hbB:=keep hk hb
  have hl0:=((hBk _ _).1 hbB).1
  obtain ⟨hm,hk2⟩:=hM1 pre x B hm0
  have hbB2:=keep hk2 hbB
  have hl:=((hBk _ _).1 hbB2).1
  have hy:=run_yield (P:=P) (args:=encs x) hl0 (by rw [hrp];exact hps x)
  obtain ⟨f1,f2,f3,f4,f5⟩:=hrf .ready none
  rw [f1,f2,f3,f4,hrp] at hy
  have hm2:M' (pre,x,B.heap.size) ((w₁ x B).putObj (w.heap.size+1) (.loop (rec_ .busy none))):=hM.putObj _ hm (Nat.le_succ _) hl rfl
  have hb2:Bk (rec_ .busy none) ((w₁ x B).putObj (w.heap.size+1) (.loop (rec_ .busy none))):=turn _ hbB2
  refine ⟨fn,_,assign,body,hy,roundIn_of_wpIn hfn (hassign _ x B _ ⟨_,by have:=run_beginRound (P:=P) hl (hrs _ _);rw [hrb2] at this;exact this,?_⟩)⟩
  refine wpIn_mono (hbody _ pre x _ _ hm2) ?_
  have fin:∀ (jump:Option Code) (W3:World),KeepsFrom w.heap.size ((w₁ x B).putObj (w.heap.size+1) (.loop (rec_ .busy none))) W3 ->
    (Instr.endRound (w.heap.size+1) jump).run P W3 = .ok (.bool jump.isNone) (W3.putObj (w.heap.size+1) (.loop (rec_ (if jump.isNone then .ready else .done) jump))) /\
    W3.heap[w.heap.size+1]? = some (.loop (rec_ .busy none))/\Bk (rec_ (if jump.isNone then .ready else .done) jump) (W3.putObj (w.heap.size+1) (.loop (rec_ (if jump.isNone then .ready else .done) jump))):=fun jump W3 hk3 => by
   have hb3:=keep hk3 hb2
   have hl3:=((hBk _ _).1 hb3).1
   have:=run_endRound (P:=P) jump hl3
   rw [hrb] at this
   exact ⟨this,hl3,turn _ hb3⟩
  rintro e a3 W3 hp
  cases e with
  | normal =>
   obtain ⟨hr,hl3,hb4⟩:=fin none W3 hp.1
   exact ⟨_,_,hr,.inl ⟨rfl,hU.putObj _ hp.2 (Nat.le_succ _) hl3 rfl,hb4⟩⟩
  | ret =>
   obtain ⟨hr,hl3,hb4⟩:=fin (some .ret) W3 hp.1
   exact ⟨_,_,hr,.inr ⟨rfl,.ret,(hUx _).putObj _ hp.2 (Nat.le_succ _) hl3 rfl,hb4⟩⟩
  | exit id =>
   obtain ⟨hr,hl3,hb4⟩:=fin (some (.exit id)) W3 hp.1
   exact ⟨_,_,hr,.inr ⟨rfl,.exit id,(hUx _).putObj _ hp.2 (Nat.le_succ _) hl3 rfl,hb4⟩⟩
  | goto t =>
   obtain ⟨hr,hl3,hb4⟩:=fin (some (.goto t)) W3 hp.1
   exact ⟨_,_,hr,.inr ⟨rfl,.goto t,(hUx _).putObj _ hp.2 (Nat.le_succ _) hl3 rfl,hb4⟩⟩
  | panic ch => exact hp.elim
  | outgrown => exact hp.elim
 ·rintro e W2 ⟨⟨v,rfl⟩,(⟨pre,hd,hb⟩ | ⟨pre,c,hx,hb⟩)⟩
  ·have hb2:=(hBk _ _).1 hb
   refine ⟨none,_,by have:=run_endLoop (P:=P) hb2.1 (by rw [hrs];simp);rw [(hrf .ready none).2.2.2.2] at this;exact this,hdone _ pre _ (Nat.le_refl _) (hD.putObj _ hd (Nat.le_succ _) hb2.1 rfl) ((World.putObj_heap_other (by omega)).trans hb2.2)⟩
  ·have hb2:=(hBk _ _).1 hb
   refine ⟨some c,_,by have:=run_endLoop (P:=P) hb2.1 (by rw [hrs];simp);rw [(hrf .done (some c)).2.2.2.2] at this;exact this,hstop _ c pre _ (Nat.le_refl _) ((hUx c).putObj _ hx (Nat.le_succ _) hb2.1 rfl) ((World.putObj_heap_other (by omega)).trans hb2.2)⟩
theorem range_mut_sl {α:Type} {g:Operand} {ps:Array Tmp} {assign body:Code} {Q:Exit->Act->World->Prop} {a:Act} {w:World}
  (hro:F.round=none) (h1:1<=n) {gf:Nat} {lb:Array Value} (hg:a.eval g = .func (.func gf) #[] lb) (hFg:F.fn gf) (eg:∀ args w,(callFunc gf args).run P w = .ok (.enter gf args) w)
  {encs:α->Array Value} {I:List α->World->Prop} {Step:List α->α->World->World->Prop} {Fin:List α->World->World->Prop} {mx:Nat} (hseq:Seq F (n-1) P gf lb encs I Step Fin mx) (hps:∀ x,(encs x).size=ps.size)
  (U:List α->World->Prop) (M:List α × α->World->Prop) (M':List α × α × Nat->World->Prop) (D:List α->World->Prop) (Ux:Code->List α->World->Prop)
  (hU:OwnFrom w.heap.size U) (hM:OwnFrom w.heap.size M') (hD:OwnFrom w.heap.size D) (hUx:∀ c,OwnFrom w.heap.size (Ux c))
  (hstep:∀ pre A,U pre A->w.heap.size<=A.heap.size->I pre A/\pre.length<=mx/\(∀ x B,Step pre x A B->M (pre,x) B/\KeepsFrom w.heap.size A B)/\(∀ B,Fin pre A B->D pre B/\KeepsFrom w.heap.size A B))
  (h0:U [] w) (sl:Array Value->α->Nat->Array Value) (w₁:α->World->World) (hM1:∀ pre x W,M (pre,x) W->M' (pre,x,W.heap.size) (w₁ x W)/\KeepsFrom w.heap.size W (w₁ x W))
  (hassign:∀ (l:Nat) (x:α) (W:World) (K:Act->World->Prop),K { tmps:=sl a.tmps x W.heap.size,defers:=[] } (w₁ x W) ->
   assign.wpIn (F.inRound l) (n-1-1) P (Exit.then K (fun _ _ _ => False)) { tmps:=(ps.zip (encs x)).foldl (fun t (p,v) => t.setIfInBounds p v) a.tmps,defers:=[] } W)
  (hbody:∀ (l:Nat) (pre:List α) (x:α) (b:Nat) (W:World),M' (pre,x,b) W->body.wpIn (F.inRound l) (n-1-1) P (Left w.heap.size U Ux (pre ++ [x]) W) { tmps:=sl a.tmps x b,defers:=[] } W)
  (hdone:∀ (d:Nat) (xs:List α) (W:World),w.heap.size<=d->D xs W->W.heap[d]? = some (.deferred (some []))->Q .normal { a with defers:={ target:=.collected d,args:=#[] } :: a.defers } W)
  (hstop:∀ (d:Nat) (c:Code) (pre:List α) (W:World),w.heap.size<=d->Ux c pre W->W.heap[d]? = some (.deferred (some []))->c.wpIn F n P Q { a with defers:={ target:=.collected d,args:=#[] } :: a.defers } W) :
  (Code.rangeFunc g ps assign body).wpIn F n P Q a w :=
 range_mut hro h1 hg hFg eg hseq hps U M M' D Ux hU hM hD hUx hstep h0 (fun x b => { tmps:=sl a.tmps x b,defers:=[] }) w₁ hM1 hassign hbody hdone hstop
end Mq
end
section
open Go.RowKit
namespace Mu
variable {F:Fence} {n:Nat} {P:Program}
def Seq {α σ:Type} (F:Fence) (n:Nat) (P:Program) (g:Nat) (lb:Array Value) (encs:α->Array Value) (I:σ->World->Prop) (Step:σ->α->World->World->Prop) (Fin:σ->World->World->Prop) (M:Nat):Prop :=
 ∀ (l:Nat) (J Jx Done:List α->World->Prop) (W:World),
  (∀ pre A,J pre A->∃ s,I s A/\pre.length<=M/\(∀ x B,Step s x A B->YieldAt F (n-1) P l (encs x) B fun e W' => (e = .returned (.bool true)/\J (pre ++ [x]) W')\/(e = .returned (.bool false)/\Jx (pre ++ [x]) W'))/\(∀ B,Fin s A B->Done pre B)) ->
  J [] W->CallsIn F n P g (#[.func (.yield l) #[] #[]] ++ lb) W fun e W' => (∃ v,e = .returned v)/\((∃ pre,Done pre W')\/∃ pre,Jx pre W')
def Left {α:Type} (B:Nat) (U:List α->World->Prop) (Ux:Code->List α->World->Prop) (xs:List α) (W:World):Exit->Act->World->Prop
 | .normal,_,W' => KeepsFrom B W W'/\U xs W'
 | .ret,_,W' => KeepsFrom B W W'/\Ux .ret xs W'
 | .exit id,_,W' => KeepsFrom B W W'/\Ux (.exit id) xs W'
 | .goto t,_,W' => KeepsFrom B W W'/\Ux (.goto t) xs W'
 | .panic _,_,_ => False
 | .outgrown,_,_ => False
theorem KeepsFrom.lie {B k:Nat} {o:Obj} {W W':World} (h:KeepsFrom B W W') (hB:B<=k) (hk:W.heap[k]? = some o) (ho:o.isCells=false):W'.heap[k]? = some o:=h.same k o hB hk ho
theorem range_mut {α σ:Type} {g:Operand} {ps:Array Tmp} {assign body:Code} {Q:Exit->Act->World->Prop} {a:Act} {w:World}
  (hro:F.round=none) (h1:1<=n) {gf:Nat} {lb:Array Value} (hg:a.eval g = .func (.func gf) #[] lb) (hFg:F.fn gf) (eg:∀ args w,(callFunc gf args).run P w = .ok (.enter gf args) w)
  {encs:α->Array Value} {I:σ->World->Prop} {Step:σ->α->World->World->Prop} {Fin:σ->World->World->Prop} {mx:Nat} (hseq:Seq F (n-1) P gf lb encs I Step Fin mx) (hps:∀ x,(encs x).size=ps.size)
  (U:List α->World->Prop) (M:List α × α->World->Prop) (M':List α × α × Nat->World->Prop) (D:List α->World->Prop) (Ux:Code->List α->World->Prop)
  (hU:OwnFrom w.heap.size U) (hM:OwnFrom w.heap.size M') (hD:OwnFrom w.heap.size D) (hUx:∀ c,OwnFrom w.heap.size (Ux c))
  (hstep:∀ pre A,U pre A->w.heap.size<=A.heap.size->∃ s,I s A/\pre.length<=mx/\(∀ x B,Step s x A B->M (pre,x) B/\KeepsFrom w.heap.size A B)/\(∀ B,Fin s A B->D pre B/\KeepsFrom w.heap.size A B))
  (h0:U [] w) (a₁:α->Nat->Act) (w₁:α->World->World) (hM1:∀ pre x W,M (pre,x) W->M' (pre,x,W.heap.size) (w₁ x W)/\KeepsFrom w.heap.size W (w₁ x W))
  (hassign:∀ (l:Nat) (x:α) (W:World) (K:Act->World->Prop),K (a₁ x W.heap.size) (w₁ x W) ->
   assign.wpIn (F.inRound l) (n-1-1) P (Exit.then K (fun _ _ _ => False)) { tmps:=(ps.zip (encs x)).foldl (fun t (p,v) => t.setIfInBounds p v) a.tmps,defers:=[] } W)
  (hbody:∀ (l:Nat) (pre:List α) (x:α) (b:Nat) (W:World),M' (pre,x,b) W->body.wpIn (F.inRound l) (n-1-1) P (Left w.heap.size U Ux (pre ++ [x]) W) (a₁ x b) W)
  (hdone:∀ (d:Nat) (xs:List α) (W:World),w.heap.size<=d->D xs W->W.heap[d]? = some (.deferred (some []))->Q .normal { a with defers:={ target:=.collected d,args:=#[] } :: a.defers } W)
  (hstop:∀ (d:Nat) (c:Code) (pre:List α) (W:World),w.heap.size<=d->Ux c pre W->W.heap[d]? = some (.deferred (some []))->c.wpIn F n P Q { a with defers:={ target:=.collected d,args:=#[] } :: a.defers } W) :
  (Code.rangeFunc g ps assign body).wpIn F n P Q a w:=by
 refine wpIn_rangeFunc fun fn hfn => ?_
 rw [hro]
 -- the loop's record,by its state and the pending jump
 let rec_:LoopState->Option Code->Loop:=fun st pe => { state:=st,pending:=pe,fn,tmps:=a.tmps,params:=ps,assign,body,defers:=w.heap.size }
 have hrs:∀ st pe,(rec_ st pe).state=st:=fun _ _ => rfl
 have hrp:∀ st pe,(rec_ st pe).params=ps:=fun _ _ => rfl
 have hrb:∀ st pe st' pe',{ rec_ st pe with state:=st',pending:=pe' }=rec_ st' pe':=fun _ _ _ _ => rfl
 have hrb2:∀ st pe st',{ rec_ st pe with state:=st' }=rec_ st' pe:=fun _ _ _ => rfl
 have hrf:∀ st pe,(rec_ st pe).fn=fn/\(rec_ st pe).assign=assign/\(rec_ st pe).body=body/\(rec_ st pe).tmps=a.tmps/\(rec_ st pe).pending=pe:=fun _ _ => ⟨rfl,rfl,rfl,rfl,rfl⟩
 have hent:(Instr.enterLoop fn a.tmps ps assign body none).run P w = .ok (w.heap.size+1,[{ target:=.collected w.heap.size,args:=#[] }]) ((w.alloc (.deferred (some []))).alloc (.loop (rec_ .ready none))):=run_enterLoop_outer fn a.tmps ps assign body
 -- two facts of book-keeping
 let Bk:Loop->World->Prop:=fun r W => W.heap[w.heap.size+1]? = some (.loop r)/\W.heap[w.heap.size]? = some (.deferred (some []))
 have hBk:∀ r W,Bk r W↔(W.heap[w.heap.size+1]? = some (.loop r)/\W.heap[w.heap.size]? = some (.deferred (some []))):=fun _ _ => Iff.rfl
 generalize hW1:(w.alloc (.deferred (some []))).alloc (.loop (rec_ .ready none))=W1 at hent
 have hB1:Bk (rec_ .ready none) W1:=by
  subst hW1
  refine ⟨?_,(Below.heap_alloc _ _ _ (by simp)).trans (World.alloc_heap_new w _)⟩
  have:=World.alloc_heap_new (w.alloc (.deferred (some []))) (.loop (rec_ .ready none))
  rwa [World.size_alloc] at this
 have hU1:U [] W1:=by subst hW1;exact hU.alloc _ (hU.alloc _ h0)
 clear_value Bk rec_
 have keep:∀ {r A B},KeepsFrom w.heap.size A B->Bk r A->Bk r B:=fun hk hb => by
  rw [hBk] at hb ⊢
  exact ⟨KeepsFrom.lie hk (Nat.le_succ _) hb.1 rfl,KeepsFrom.lie hk (Nat.le_refl _) hb.2 rfl⟩
 have big:∀ {r A},Bk r A->w.heap.size+1<A.heap.size:=fun hb => by rw [hBk] at hb;exact (zx hb.1)
 have turn:∀ {r A} (r':Loop),Bk r A->Bk r' (A.putObj (w.heap.size+1) (.loop r')):=fun r' hb => by
  have h:=big hb
  rw [hBk] at hb ⊢
  exact ⟨World.putObj_heap_same h,(World.putObj_heap_other (by omega)).trans hb.2⟩
 refine ⟨w.heap.size+1,[{ target:=.collected w.heap.size,args:=#[] }],W1,{ target:=.fn (.func gf) lb,args:=#[.func (.yield (w.heap.size+1)) #[] #[]] },W1,gf,#[.func (.yield (w.heap.size+1)) #[] #[]] ++ lb,W1,hent,?_,?_,?_,fun _ => h1,?_⟩
 ·simp only [resolve,hg]
  simp [go_sem]
 ·intro f' hf';simp [Target.leads] at hf';subst hf';exact hFg
 ·simp [invoke,go_sem,eg]
 refine (hseq (w.heap.size+1) (fun pre W => U pre W/\Bk (rec_ .ready none) W) (fun pre W => ∃ c,Ux c pre W/\Bk (rec_ .done (some c)) W) (fun pre W => D pre W/\Bk (rec_ .ready none) W) W1 ?_ ⟨hU1,hB1⟩).mono ?_
 ·rintro pre A ⟨hu,hb⟩
  obtain ⟨s,hI,hmx,hst,hfi⟩:=hstep pre A hu (by have:=big hb;omega)
  refine ⟨s,hI,hmx,fun x B hs => ?_,fun B hf => ⟨(hfi B hf).1,keep (hfi B hf).2 hb⟩⟩
  obtain ⟨hm0,hk⟩:=hst x B hs
  have hbB:=keep hk hb
  have hl0:=((hBk _ _).1 hbB).1
  obtain ⟨hm,hk2⟩:=hM1 pre x B hm0
  have hbB2:=keep hk2 hbB
  have hl:=((hBk _ _).1 hbB2).1
  have hy:=run_yield (P:=P) (args:=encs x) hl0 (by rw [hrp];exact hps x)
  obtain ⟨f1,f2,f3,f4,f5⟩:=hrf .ready none
  rw [f1,f2,f3,f4,hrp] at hy
  have hm2:M' (pre,x,B.heap.size) ((w₁ x B).putObj (w.heap.size+1) (.loop (rec_ .busy none))):=hM.putObj _ hm (Nat.le_succ _) hl rfl
  have hb2:Bk (rec_ .busy none) ((w₁ x B).putObj (w.heap.size+1) (.loop (rec_ .busy none))):=turn _ hbB2
  refine ⟨fn,_,assign,body,hy,roundIn_of_wpIn hfn (hassign _ x B _ ⟨_,by have:=run_beginRound (P:=P) hl (hrs _ _);rw [hrb2] at this;exact this,?_⟩)⟩
  refine wpIn_mono (hbody _ pre x _ _ hm2) ?_
  have fin:∀ (jump:Option Code) (W3:World),KeepsFrom w.heap.size ((w₁ x B).putObj (w.heap.size+1) (.loop (rec_ .busy none))) W3 ->
    (Instr.endRound (w.heap.size+1) jump).run P W3 = .ok (.bool jump.isNone) (W3.putObj (w.heap.size+1) (.loop (rec_ (if jump.isNone then .ready else .done) jump))) /\
    W3.heap[w.heap.size+1]? = some (.loop (rec_ .busy none))/\Bk (rec_ (if jump.isNone then .ready else .done) jump) (W3.putObj (w.heap.size+1) (.loop (rec_ (if jump.isNone then .ready else .done) jump))):=fun jump W3 hk3 => by
   have hb3:=keep hk3 hb2
   have hl3:=((hBk _ _).1 hb3).1
   have:=run_endRound (P:=P) jump hl3
   rw [hrb] at this
   exact ⟨this,hl3,turn _ hb3⟩
  rintro e a3 W3 hp
  cases e with
  | normal =>
   obtain ⟨hr,hl3,hb4⟩:=fin none W3 hp.1
   exact ⟨_,_,hr,.inl ⟨rfl,hU.putObj _ hp.2 (Nat.le_succ _) hl3 rfl,hb4⟩⟩
  | ret =>
   obtain ⟨hr,hl3,hb4⟩:=fin (some .ret) W3 hp.1
   exact ⟨_,_,hr,.inr ⟨rfl,.ret,(hUx _).putObj _ hp.2 (Nat.le_succ _) hl3 rfl,hb4⟩⟩
  | exit id =>
   obtain ⟨hr,hl3,hb4⟩:=fin (some (.exit id)) W3 hp.1
   exact ⟨_,_,hr,.inr ⟨rfl,.exit id,(hUx _).putObj _ hp.2 (Nat.le_succ _) hl3 rfl,hb4⟩⟩
  | goto t =>
   obtain ⟨hr,hl3,hb4⟩:=fin (some (.goto t)) W3 hp.1
   exact ⟨_,_,hr,.inr ⟨rfl,.goto t,(hUx _).putObj _ hp.2 (Nat.le_succ _) hl3 rfl,hb4⟩⟩
  | panic ch => exact hp.elim
  | outgrown => exact hp.elim
 ·rintro e W2 ⟨⟨v,rfl⟩,(⟨pre,hd,hb⟩ | ⟨pre,c,hx,hb⟩)⟩
  ·have hb2:=(hBk _ _).1 hb
   refine ⟨none,_,by have:=run_endLoop (P:=P) hb2.1 (by rw [hrs];simp);rw [(hrf .ready none).2.2.2.2] at this;exact this,hdone _ pre _ (Nat.le_refl _) (hD.putObj _ hd (Nat.le_succ _) hb2.1 rfl) ((World.putObj_heap_other (by omega)).trans hb2.2)⟩
  ·have hb2:=(hBk _ _).1 hb
   refine ⟨some c,_,by have:=run_endLoop (P:=P) hb2.1 (by rw [hrs];simp);rw [(hrf .done (some c)).2.2.2.2] at this;exact this,hstop _ c pre _ (Nat.le_refl _) ((hUx c).putObj _ hx (Nat.le_succ _) hb2.1 rfl) ((World.putObj_heap_other (by omega)).trans hb2.2)⟩
theorem range_mut_sl {α σ:Type} {g:Operand} {ps:Array Tmp} {assign body:Code} {Q:Exit->Act->World->Prop} {a:Act} {w:World}
  (hro:F.round=none) (h1:1<=n) {gf:Nat} {lb:Array Value} (hg:a.eval g = .func (.func gf) #[] lb) (hFg:F.fn gf) (eg:∀ args w,(callFunc gf args).run P w = .ok (.enter gf args) w)
  {encs:α->Array Value} {I:σ->World->Prop} {Step:σ->α->World->World->Prop} {Fin:σ->World->World->Prop} {mx:Nat} (hseq:Seq F (n-1) P gf lb encs I Step Fin mx) (hps:∀ x,(encs x).size=ps.size)
  (U:List α->World->Prop) (M:List α × α->World->Prop) (M':List α × α × Nat->World->Prop) (D:List α->World->Prop) (Ux:Code->List α->World->Prop)
  (hU:OwnFrom w.heap.size U) (hM:OwnFrom w.heap.size M') (hD:OwnFrom w.heap.size D) (hUx:∀ c,OwnFrom w.heap.size (Ux c))
  (hstep:∀ pre A,U pre A->w.heap.size<=A.heap.size->∃ s,I s A/\pre.length<=mx/\(∀ x B,Step s x A B->M (pre,x) B/\KeepsFrom w.heap.size A B)/\(∀ B,Fin s A B->D pre B/\KeepsFrom w.heap.size A B))
  (h0:U [] w) (sl:Array Value->α->Nat->Array Value) (w₁:α->World->World) (hM1:∀ pre x W,M (pre,x) W->M' (pre,x,W.heap.size) (w₁ x W)/\KeepsFrom w.heap.size W (w₁ x W))
  (hassign:∀ (l:Nat) (x:α) (W:World) (K:Act->World->Prop),K { tmps:=sl a.tmps x W.heap.size,defers:=[] } (w₁ x W) ->
   assign.wpIn (F.inRound l) (n-1-1) P (Exit.then K (fun _ _ _ => False)) { tmps:=(ps.zip (encs x)).foldl (fun t (p,v) => t.setIfInBounds p v) a.tmps,defers:=[] } W)
  (hbody:∀ (l:Nat) (pre:List α) (x:α) (b:Nat) (W:World),M' (pre,x,b) W->body.wpIn (F.inRound l) (n-1-1) P (Left w.heap.size U Ux (pre ++ [x]) W) { tmps:=sl a.tmps x b,defers:=[] } W)
  (hdone:∀ (d:Nat) (xs:List α) (W:World),w.heap.size<=d->D xs W->W.heap[d]? = some (.deferred (some []))->Q .normal { a with defers:={ target:=.collected d,args:=#[] } :: a.defers } W)
  (hstop:∀ (d:Nat) (c:Code) (pre:List α) (W:World),w.heap.size<=d->Ux c pre W->W.heap[d]? = some (.deferred (some []))->c.wpIn F n P Q { a with defers:={ target:=.collected d,args:=#[] } :: a.defers } W) :
  (Code.rangeFunc g ps assign body).wpIn F n P Q a w :=
 range_mut hro h1 hg hFg eg hseq hps U M M' D Ux hU hM hD hUx hstep h0 (fun x b => { tmps:=sl a.tmps x b,defers:=[] }) w₁ hM1 hassign hbody hdone hstop
end Mu
end
end Go.Proofs.YtimhglmfckfclaaGreatDoor
namespace Go.Proofs.Ut
open Go.RowKit
theorem ret_bool {a b:Bool} (h:a=b):Ending.returned (.bool a) = .returned (.bool b):=by rw [h]
theorem below_drewN {B:Nat} {a w:World} (h:Below B a w) (n:Nat):Below B a (w.drewN n):=h.trans ⟨rfl,rfl,rfl,Nat.le_refl _,fun _ _ => rfl⟩
theorem own_below {w w':World} {base e size n:Nat} {v:Value} {xs:List Value} (h:w.ownsRow base e size v n xs) (hb:Below w.heap.size w w'):w'.ownsRow base e size v n xs:=by
 refine ⟨h.1,?_⟩
 rcases h.2 with h2 | ⟨g,cap,cur,h1,h2,h3,h4⟩
 ·exact .inl h2
 ·refine .inr ⟨g,cap,cur,h1,h2,?_,h4⟩
  rw [hb.block g (Array.getElem?_eq_some_iff.1 h3).1];exact h3
theorem own_cells {w:World} {base e n:Nat} {v:Value} {xs:List Value} (h:w.ownsRow base e 1 v n xs) (hn:0<n) :
  ∃ g cap,v = .slice (some ⟨g,0,none⟩) n cap∧n≤cap∧cap≤maxLen∧base≤g∧g<w.heap.size∧∀ j,j<n→w.cell? ⟨g,j,none⟩=xs[j]?:=by
 obtain ⟨hl,h0⟩:=h
 rcases h0 with ⟨_,h0⟩ | ⟨g,cap,cur,rfl,h2,h3,h4,h5,h6⟩
 ·omega
 ·exact ⟨g,cap,rfl,h4,h5,h2,(Array.getElem?_eq_some_iff.1 h3).1,fun j hj => World.ownsRow.cellAt (w:=w) ⟨hl,.inr ⟨g,cap,cur,rfl,h2,h3,h4,h5,h6⟩⟩ j (by omega)⟩
theorem alloc_at (w:World) (o:Obj):(w.alloc o).heap[w.heap.size]? = some o:=by
 show (w.heap.push o)[w.heap.size]? = some o
 simp
end Go.Proofs.Ut
namespace Go.Proofs.YtimhglmfckfclaaGreatDoor
section
open Go.RowKit
structure Only (F:Nat->Prop) (w w':World):Prop where
 os:w'.os=w.os
 tape:w'.tape=w.tape
 output:w'.output=w.output
 size:w.heap.size<=w'.heap.size
 block:∀ k,k<w.heap.size->¬ F k->w'.heap[k]? = w.heap[k]?
theorem Only.refl (F:Nat->Prop) (w:World):Only F w w:=⟨rfl,rfl,rfl,Nat.le_refl _,fun _ _ _ => rfl⟩
theorem Only.trans {F G:Nat->Prop} {a b c:World} (h:Only F a b) (k:Only G b c) (hG:∀ i,i<a.heap.size->G i->F i):Only F a c :=
 ⟨k.os.trans h.os,k.tape.trans h.tape,k.output.trans h.output,Nat.le_trans h.size k.size,fun i hi hF => (k.block i (Nat.lt_of_lt_of_le hi h.size) (fun hg => hF (hG i hi hg))).trans (h.block i hi hF)⟩
theorem Only.mono {F G:Nat->Prop} {w w':World} (h:Only F w w') (hF:∀ i,i<w.heap.size->F i->G i):Only G w w' :=
 ⟨h.os,h.tape,h.output,h.size,fun i hi hg => h.block i hi (fun hf => hg (hF i hi hf))⟩
theorem Only.drew {F:Nat->Prop} {a w:World} (h:Only F a w):Only F a w.drew:=⟨h.os,h.tape,h.output,h.size,h.block⟩
theorem Only.alloc {F:Nat->Prop} {a w:World} (h:Only F a w) (o:Obj):Only F a (w.alloc o) :=
 ⟨h.os,h.tape,h.output,by simp;exact Nat.le_succ_of_le h.size,fun i hi hF => (Below.heap_alloc _ _ _ (Nat.lt_of_lt_of_le hi h.size)).trans (h.block i hi hF)⟩
theorem Only.setCell {F:Nat->Prop} {a w:World} (h:Only F a w) {p:Addr} (hp:p.block<a.heap.size->F p.block) (u:Value):Only F a (w.setCell p u) :=
 ⟨h.os,h.tape,h.output,by simp [World.setCell];exact h.size,fun i hi hF => (Below.heap_setCell _ _ _ _ (fun e => hF (by subst e;exact hp hi))).trans (h.block i hi hF)⟩
theorem Only.of_below {F:Nat->Prop} {w w':World} (h:Below w.heap.size w w'):Only F w w':=⟨h.os,h.tape,h.output,h.size,fun i hi _ => h.block i hi⟩
theorem Only.below {F:Nat->Prop} {w w':World} (h:Only F w w') {B:Nat} (hB:B<=w.heap.size) (hF:∀ i,i<B->¬ F i):Below B w w' :=
 ⟨h.os,h.tape,h.output,h.size,fun i hi => h.block i (Nat.lt_of_lt_of_le hi hB) (hF i hi)⟩
theorem Only.grown {F:Nat->Prop} {a w w':World} {row:Option Nat} (h:Only F a w) (hg:w.grownBy w' row) (hr:∀ k,k<a.heap.size->row=some k->F k):Only F a w' :=
 ⟨hg.os.trans h.os,hg.tape.trans h.tape,hg.output.trans h.output,Nat.le_trans h.size hg.size,fun i hi hF => (hg.block i (Nat.lt_of_lt_of_le hi h.size) (fun e => hF (hr i hi e.symm))).trans (h.block i hi hF)⟩
theorem Only.row {F:Nat->Prop} {w w':World} (h:Only F w w') {base e size n:Nat} {v:Value} {xs:List Value} (ho:w.ownsRow base e size v n xs) (hF:∀ k,v.ownBlock=some k->¬ F k):w'.ownsRow base e size v n xs:=by
 refine ⟨ho.1,?_⟩
 rcases ho.2 with h2 | ⟨g,cap,cur,h1,h2,h3,h4⟩
 ·exact .inl h2
 ·exact .inr ⟨g,cap,cur,h1,h2,(h.block g (zx h3) (hF g (by rw [h1];rfl))).trans h3,h4⟩
theorem Only.cell {F:Nat->Prop} {w w':World} (h:Only F w w') {p:Addr} (hp:p.block<w.heap.size) (hF:¬ F p.block):w'.cell? p=w.cell? p:=World.cell?_of_block (w:=w) (h.block p.block hp hF)
end
section
open Go.RowKit
namespace Fo
variable {F:Fence} {n:Nat} {P:Program}
def SeqF {α:Type} (F:Fence) (n:Nat) (P:Program) (g:Nat) (lb:Array Value) (encs:α->Array Value) (S Sp:List α->Prop) (C:Nat->Prop) (w:World):Prop :=
 ∀ (l:Nat) (J Jx:List α->(Nat->Prop)->World->Prop) (W:World) (Fp0:Nat->Prop),(∀ b,C b->b<W.heap.size/\W.heap[b]? = w.heap[b]?)->(∀ b,Fp0 b->b<W.heap.size/\¬ C b) ->
  (∀ pre Fp A A' row,J pre Fp A->W.heap.size<=A.heap.size->A.grownBy A' row->(∀ r,row=some r->W.heap.size<=r/\¬ Fp r)->J pre Fp A') ->
  (∀ pre Fp A A' row,Jx pre Fp A->W.heap.size<=A.heap.size->A.grownBy A' row->(∀ r,row=some r->W.heap.size<=r/\¬ Fp r)->Jx pre Fp A') ->
  (∀ pre x Fp A,J pre Fp A->W.heap.size<=A.heap.size->Sp (pre ++ [x])->YieldAt F (n-1) P l (encs x) A fun e W' =>
   (e = .returned (.bool true)/\∃ Fp',J (pre ++ [x]) Fp' W'/\Only Fp A W'/\∀ b,Fp' b->Fp b\/A.heap.size<=b)\/(e = .returned (.bool false)/\∃ Fp',Jx (pre ++ [x]) Fp' W'/\Only Fp A W'/\∀ b,Fp' b->Fp b\/A.heap.size<=b)) ->
  J [] Fp0 W->CallsIn F n P g (#[.func (.yield l) #[] #[]] ++ lb) W fun e W' => (∃ v,e = .returned v)/\((∃ xs Fp,S xs/\J xs Fp W')\/∃ pre Fp,Sp pre/\Jx pre Fp W')
def Left {α:Type} (Fp:Nat->Prop) (U:List α->(Nat->Prop)->World->Prop) (Ux:Code->List α->(Nat->Prop)->World->Prop) (xs:List α) (W:World):Exit->Act->World->Prop
 | .normal,_,W' => ∃ Fp',U xs Fp' W'/\Only Fp W W'/\∀ b,Fp' b->Fp b\/W.heap.size<=b
 | .ret,_,W' => ∃ Fp',Ux .ret xs Fp' W'/\Only Fp W W'/\∀ b,Fp' b->Fp b\/W.heap.size<=b
 | .exit id,_,W' => ∃ Fp',Ux (.exit id) xs Fp' W'/\Only Fp W W'/\∀ b,Fp' b->Fp b\/W.heap.size<=b
 | .goto t,_,W' => ∃ Fp',Ux (.goto t) xs Fp' W'/\Only Fp W W'/\∀ b,Fp' b->Fp b\/W.heap.size<=b
 | .panic _,_,_ => False
 | .outgrown,_,_ => False
theorem range_foot {α:Type} {g:Operand} {ps:Array Tmp} {assign body:Code} {Q:Exit->Act->World->Prop} {a:Act} {w w0:World}
  (hro:F.round=none) (h1:1<=n) {gf:Nat} {lb:Array Value} (hg:a.eval g = .func (.func gf) #[] lb) (hFg:F.fn gf) (eg:∀ args w,(callFunc gf args).run P w = .ok (.enter gf args) w)
  {encs:α->Array Value} {S Sp:List α->Prop} {C:Nat->Prop} (hseq:SeqF F (n-1) P gf lb encs S Sp C w0) (hps:∀ x,(encs x).size=ps.size) (hC:∀ b,C b->b<w.heap.size/\w.heap[b]? = w0.heap[b]?)
  (U:List α->(Nat->Prop)->World->Prop) (Ux:Code->List α->(Nat->Prop)->World->Prop) (Fp0:Nat->Prop) (hFp0:∀ b,Fp0 b->b<w.heap.size/\¬ C b)
  (hU:∀ pre Fp A A' row,U pre Fp A->w.heap.size<=A.heap.size->A.grownBy A' row->(∀ r,row=some r->w.heap.size<=r/\¬ Fp r)->U pre Fp A')
  (hUx:∀ c pre Fp A A' row,Ux c pre Fp A->w.heap.size<=A.heap.size->A.grownBy A' row->(∀ r,row=some r->w.heap.size<=r/\¬ Fp r)->Ux c pre Fp A')
  (h0:U [] Fp0 w) (a₁:α->Act)
  (hassign:∀ (l:Nat) (x:α) (W:World) (K:Act->World->Prop),K (a₁ x) W->assign.wpIn (F.inRound l) (n-1-1) P (Exit.then K (fun _ _ _ => False)) { tmps:=(ps.zip (encs x)).foldl (fun t (p,v) => t.setIfInBounds p v) a.tmps,defers:=[] } W)
  (hbody:∀ (l:Nat) (pre:List α) (x:α) (Fp:Nat->Prop) (W:World),U pre Fp W->w.heap.size<=W.heap.size->Sp (pre ++ [x])->body.wpIn (F.inRound l) (n-1-1) P (Left Fp U Ux (pre ++ [x]) W) (a₁ x) W)
  (hdone:∀ (d:Nat) (xs:List α) (Fp:Nat->Prop) (W:World),S xs->w.heap.size<=d->U xs Fp W->¬ Fp d->W.heap[d]? = some (.deferred (some []))->Q .normal { a with defers:={ target:=.collected d,args:=#[] } :: a.defers } W)
  (hstop:∀ (d:Nat) (c:Code) (pre:List α) (Fp:Nat->Prop) (W:World),Sp pre->w.heap.size<=d->Ux c pre Fp W->¬ Fp d->W.heap[d]? = some (.deferred (some []))->c.wpIn F n P Q { a with defers:={ target:=.collected d,args:=#[] } :: a.defers } W) :
  (Code.rangeFunc g ps assign body).wpIn F n P Q a w:=by
 refine wpIn_rangeFunc fun fn hfn => ?_
 rw [hro]
 let rec_:LoopState->Option Code->Loop:=fun st pe => { state:=st,pending:=pe,fn,tmps:=a.tmps,params:=ps,assign,body,defers:=w.heap.size }
 have hrs:∀ st pe,(rec_ st pe).state=st:=fun _ _ => rfl
 have hrp:∀ st pe,(rec_ st pe).params=ps:=fun _ _ => rfl
 have hrb:∀ st pe st' pe',{ rec_ st pe with state:=st',pending:=pe' }=rec_ st' pe':=fun _ _ _ _ => rfl
 have hrb2:∀ st pe st',{ rec_ st pe with state:=st' }=rec_ st' pe:=fun _ _ _ => rfl
 have hrf:∀ st pe,(rec_ st pe).fn=fn/\(rec_ st pe).assign=assign/\(rec_ st pe).body=body/\(rec_ st pe).tmps=a.tmps/\(rec_ st pe).pending=pe:=fun _ _ => ⟨rfl,rfl,rfl,rfl,rfl⟩
 have hent:(Instr.enterLoop fn a.tmps ps assign body none).run P w = .ok (w.heap.size+1,[{ target:=.collected w.heap.size,args:=#[] }]) ((w.alloc (.deferred (some []))).alloc (.loop (rec_ .ready none))):=run_enterLoop_outer fn a.tmps ps assign body
 let Bk:Loop->World->Prop:=fun r W => W.heap[w.heap.size+1]? = some (.loop r)/\W.heap[w.heap.size]? = some (.deferred (some []))
 have hBk:∀ r W,Bk r W↔(W.heap[w.heap.size+1]? = some (.loop r)/\W.heap[w.heap.size]? = some (.deferred (some []))):=fun _ _ => Iff.rfl
 generalize hW1:(w.alloc (.deferred (some []))).alloc (.loop (rec_ .ready none))=W1 at hent
 have hs1:W1.heap.size=w.heap.size+2:=by subst hW1;rw [World.size_alloc,World.size_alloc]
 have hB1:Bk (rec_ .ready none) W1:=by
  subst hW1
  refine ⟨?_,(Below.heap_alloc _ _ _ (by simp)).trans (World.alloc_heap_new w _)⟩
  have:=World.alloc_heap_new (w.alloc (.deferred (some []))) (.loop (rec_ .ready none))
  rwa [World.size_alloc] at this
 have hg1:w.grownBy W1 none:=by subst hW1;exact ⟨rfl,rfl,rfl,by simp;omega,fun k hk _ => by rw [Below.heap_alloc _ _ _ (by simp;omega),Below.heap_alloc _ _ _ hk]⟩
 have hU1:U [] Fp0 W1:=hU _ _ _ _ _ h0 (Nat.le_refl _) hg1 (fun r e => by cases e)
 have hC1:∀ b,C b->b<W1.heap.size/\W1.heap[b]? = w0.heap[b]?:=fun b hb => by
  obtain ⟨h1,h2⟩:=hC b hb
  exact ⟨by omega,by rw [hg1.block b h1 (fun e => by cases e)];exact h2⟩
 clear_value Bk rec_
 have keep:∀ {r A B} {Fp:Nat->Prop},Only Fp A B->¬ Fp w.heap.size->¬ Fp (w.heap.size+1)->Bk r A->Bk r B:=fun hk f0 f1 hb => by
  rw [hBk] at hb ⊢
  exact ⟨(hk.block _ (zx hb.1) f1).trans hb.1,(hk.block _ (zx hb.2) f0).trans hb.2⟩
 have big:∀ {r A},Bk r A->w.heap.size+1<A.heap.size:=fun hb => by rw [hBk] at hb;exact (zx hb.1)
 have turn:∀ {r A} (r':Loop),Bk r A->Bk r' (A.putObj (w.heap.size+1) (.loop r')):=fun r' hb => by
  have h:=big hb
  rw [hBk] at hb ⊢
  exact ⟨World.putObj_heap_same h,(World.putObj_heap_other (by omega)).trans hb.2⟩
 refine ⟨w.heap.size+1,[{ target:=.collected w.heap.size,args:=#[] }],W1,{ target:=.fn (.func gf) lb,args:=#[.func (.yield (w.heap.size+1)) #[] #[]] },W1,gf,#[.func (.yield (w.heap.size+1)) #[] #[]] ++ lb,W1,hent,?_,?_,?_,fun _ => h1,?_⟩
 ·simp only [resolve,hg]
  simp [go_sem]
 ·intro f' hf';simp [Target.leads] at hf';subst hf';exact hFg
 ·simp [invoke,go_sem,eg]
 refine (hseq (w.heap.size+1) (fun pre Fp' A => ∃ Fp,(∀ b,Fp' b↔Fp b\/b=w.heap.size+1)/\U pre Fp A/\Bk (rec_ .ready none) A/\¬ Fp w.heap.size/\¬ Fp (w.heap.size+1)) (fun pre Fp' A => ∃ Fp c,(∀ b,Fp' b↔Fp b\/b=w.heap.size+1)/\Ux c pre Fp A/\Bk (rec_ .done (some c)) A/\¬ Fp w.heap.size/\¬ Fp (w.heap.size+1)) W1 (fun b => Fp0 b\/b=w.heap.size+1) hC1 ?_ ?_ ?_ ?_ ?_).mono ?_
 ·rintro b (hb | rfl)
  ·exact ⟨by have:=(hFp0 b hb).1;omega,(hFp0 b hb).2⟩
  ·exact ⟨by omega,fun hc => by have:=(hC _ hc).1;omega⟩
 ·rintro pre Fp' A A' row ⟨Fp,hF,hu,hb,f0,f1⟩ hsz hg hrow
  have hnl:∀ r,row=some r->w.heap.size<=r/\¬ Fp r:=fun r e => ⟨by have:=(hrow r e).1;omega,fun hf => (hrow r e).2 ((hF r).2 (.inl hf))⟩
  refine ⟨Fp,hF,hU _ _ _ _ _ hu (by omega) hg hnl,?_,f0,f1⟩
  rw [hBk] at hb ⊢
  exact ⟨(hg.block _ (zx hb.1) (fun e => by have:=(hrow _ e.symm).1;omega)).trans hb.1,(hg.block _ (zx hb.2) (fun e => by have:=(hrow _ e.symm).1;omega)).trans hb.2⟩
 ·rintro pre Fp' A A' row ⟨Fp,c,hF,hu,hb,f0,f1⟩ hsz hg hrow
  have hnl:∀ r,row=some r->w.heap.size<=r/\¬ Fp r:=fun r e => ⟨by have:=(hrow r e).1;omega,fun hf => (hrow r e).2 ((hF r).2 (.inl hf))⟩
  refine ⟨Fp,c,hF,hUx _ _ _ _ _ _ hu (by omega) hg hnl,?_,f0,f1⟩
  rw [hBk] at hb ⊢
  exact ⟨(hg.block _ (zx hb.1) (fun e => by have:=(hrow _ e.symm).1;omega)).trans hb.1,(hg.block _ (zx hb.2) (fun e => by have:=(hrow _ e.symm).1;omega)).trans hb.2⟩
 ·rintro pre x Fp' A ⟨Fp,hF,hu,hb,f0,f1⟩ hsz hlen
  have hl0:=((hBk _ _).1 hb).1
  have hy:=run_yield (P:=P) (args:=encs x) hl0 (by rw [hrp];exact hps x)
  obtain ⟨e1,e2,e3,e4,e5⟩:=hrf .ready none
  rw [e1,e2,e3,e4,hrp] at hy
  have hub:U pre Fp (A.putObj (w.heap.size+1) (.loop (rec_ .busy none))):=hU _ _ _ _ _ hu (by omega) (grownBy_putObj' A (w.heap.size+1) _) (fun r e => by cases e;exact ⟨Nat.le_succ _,f1⟩)
  have hbb:Bk (rec_ .busy none) (A.putObj (w.heap.size+1) (.loop (rec_ .busy none))):=turn _ hb
  have hsb:(A.putObj (w.heap.size+1) (.loop (rec_ .busy none))).heap.size=A.heap.size:=by simp
  refine ⟨fn,_,assign,body,hy,roundIn_of_wpIn hfn (hassign _ x A _ ⟨_,by have:=run_beginRound (P:=P) hl0 (hrs _ _);rw [hrb2] at this;exact this,?_⟩)⟩
  refine wpIn_mono (hbody _ pre x Fp _ hub (by rw [hsb];omega) hlen) ?_
  have fin:∀ (jump:Option Code) (W3:World),Only Fp (A.putObj (w.heap.size+1) (.loop (rec_ .busy none))) W3 ->
    (Instr.endRound (w.heap.size+1) jump).run P W3 = .ok (.bool jump.isNone) (W3.putObj (w.heap.size+1) (.loop (rec_ (if jump.isNone then .ready else .done) jump))) /\
    W3.heap[w.heap.size+1]? = some (.loop (rec_ .busy none))/\Bk (rec_ (if jump.isNone then .ready else .done) jump) (W3.putObj (w.heap.size+1) (.loop (rec_ (if jump.isNone then .ready else .done) jump))):=fun jump W3 hk3 => by
   have hb3:=keep hk3 f0 f1 hbb
   have hl3:=((hBk _ _).1 hb3).1
   have:=run_endRound (P:=P) jump hl3
   rw [hrb] at this
   exact ⟨this,hl3,turn _ hb3⟩
  have hbs:=big hb
  have grow_:∀ (W3:World) (Fp2:Nat->Prop) (jump:Option Code),Only Fp (A.putObj (w.heap.size+1) (.loop (rec_ .busy none))) W3->(∀ b,Fp2 b->Fp b\/(A.putObj (w.heap.size+1) (.loop (rec_ .busy none))).heap.size<=b)->¬ Fp2 w.heap.size/\¬ Fp2 (w.heap.size+1) /\
    Only Fp' A (W3.putObj (w.heap.size+1) (.loop (rec_ (if jump.isNone then .ready else .done) jump)))/\∀ b,(Fp2 b\/b=w.heap.size+1)->Fp' b\/A.heap.size<=b:=fun W3 Fp2 jump ho2 hn2 => by
   rw [hsb] at hn2
   refine ⟨fun h => ?_,fun h => ?_,?_,?_⟩
   ·rcases hn2 _ h with h | h
    ·exact f0 h
    ·omega
   ·rcases hn2 _ h with h | h
    ·exact f1 h
    ·omega
   ·have s0:W3.heap.size=(W3.putObj (w.heap.size+1) (.loop (rec_ (if jump.isNone then .ready else .done) jump))).heap.size:=by simp
    refine ⟨ho2.os,ho2.tape,ho2.output,?_,fun k hk hnf => ?_⟩
    ·have:=ho2.size;rw [hsb] at this;rw [<- s0];exact this
    ·have hk1:k≠w.heap.size+1:=fun e => hnf ((hF k).2 (.inr e))
     have hk2:¬ Fp k:=fun h => hnf ((hF k).2 (.inl h))
     rw [World.putObj_heap_other hk1,ho2.block k (by rw [hsb];exact hk) hk2,World.putObj_heap_other hk1]
   ·rintro b (hb5 | rfl)
    ·rcases hn2 b hb5 with h | h
     ·exact .inl ((hF b).2 (.inl h))
     ·exact .inr h
    ·exact .inl ((hF _).2 (.inr rfl))
  rintro e a3 W3 hp
  cases e with
  | normal =>
   obtain ⟨Fp2,hu2,ho2,hn2⟩:=hp
   obtain ⟨hr,hl3,hb4⟩:=fin none W3 ho2
   obtain ⟨g0,g1,k1,k2⟩:=grow_ W3 Fp2 none ho2 hn2
   exact ⟨_,_,hr,.inl ⟨rfl,fun b => Fp2 b\/b=w.heap.size+1,⟨Fp2,fun b => Iff.rfl,hU _ _ _ _ _ hu2 (by have:=ho2.size;rw [hsb] at this;omega) (grownBy_putObj' W3 (w.heap.size+1) _) (fun r e => by cases e;exact ⟨Nat.le_succ _,g1⟩),hb4,g0,g1⟩,k1,k2⟩⟩
  | ret =>
   obtain ⟨Fp2,hu2,ho2,hn2⟩:=hp
   obtain ⟨hr,hl3,hb4⟩:=fin (some .ret) W3 ho2
   obtain ⟨g0,g1,k1,k2⟩:=grow_ W3 Fp2 (some .ret) ho2 hn2
   exact ⟨_,_,hr,.inr ⟨rfl,fun b => Fp2 b\/b=w.heap.size+1,⟨Fp2,.ret,fun b => Iff.rfl,hUx _ _ _ _ _ _ hu2 (by have:=ho2.size;rw [hsb] at this;omega) (grownBy_putObj' W3 (w.heap.size+1) _) (fun r e => by cases e;exact ⟨Nat.le_succ _,g1⟩),hb4,g0,g1⟩,k1,k2⟩⟩
  | exit id =>
   obtain ⟨Fp2,hu2,ho2,hn2⟩:=hp
   obtain ⟨hr,hl3,hb4⟩:=fin (some (.exit id)) W3 ho2
   obtain ⟨g0,g1,k1,k2⟩:=grow_ W3 Fp2 (some (.exit id)) ho2 hn2
   exact ⟨_,_,hr,.inr ⟨rfl,fun b => Fp2 b\/b=w.heap.size+1,⟨Fp2,(.exit id),fun b => Iff.rfl,hUx _ _ _ _ _ _ hu2 (by have:=ho2.size;rw [hsb] at this;omega) (grownBy_putObj' W3 (w.heap.size+1) _) (fun r e => by cases e;exact ⟨Nat.le_succ _,g1⟩),hb4,g0,g1⟩,k1,k2⟩⟩
  | goto t =>
   obtain ⟨Fp2,hu2,ho2,hn2⟩:=hp
   obtain ⟨hr,hl3,hb4⟩:=fin (some (.goto t)) W3 ho2
   obtain ⟨g0,g1,k1,k2⟩:=grow_ W3 Fp2 (some (.goto t)) ho2 hn2
   exact ⟨_,_,hr,.inr ⟨rfl,fun b => Fp2 b\/b=w.heap.size+1,⟨Fp2,(.goto t),fun b => Iff.rfl,hUx _ _ _ _ _ _ hu2 (by have:=ho2.size;rw [hsb] at this;omega) (grownBy_putObj' W3 (w.heap.size+1) _) (fun r e => by cases e;exact ⟨Nat.le_succ _,g1⟩),hb4,g0,g1⟩,k1,k2⟩⟩
  | panic ch => exact hp.elim
  | outgrown => exact hp.elim
 ·exact ⟨Fp0,fun b => Iff.rfl,hU1,hB1,fun h => by have:=(hFp0 _ h).1;omega,fun h => by have:=(hFp0 _ h).1;omega⟩
 ·rintro e W2 ⟨⟨v,rfl⟩,(⟨pre,Fp',hS,Fp,hF,hd,hb,f0,f1⟩ | ⟨pre,Fp',hSp,Fp,c,hF,hx,hb,f0,f1⟩)⟩
  ·have hb2:=(hBk _ _).1 hb
   have hbs:=big hb
   exact ⟨none,_,by have:=run_endLoop (P:=P) hb2.1 (by rw [hrs];simp);rw [(hrf .ready none).2.2.2.2] at this;exact this,hdone _ pre Fp _ hS (Nat.le_refl _) (hU _ _ _ _ _ hd (by omega) (grownBy_putObj' W2 (w.heap.size+1) _) (fun r e => by cases e;exact ⟨Nat.le_succ _,f1⟩)) f0 ((World.putObj_heap_other (by omega)).trans hb2.2)⟩
  ·have hb2:=(hBk _ _).1 hb
   have hbs:=big hb
   exact ⟨some c,_,by have:=run_endLoop (P:=P) hb2.1 (by rw [hrs];simp);rw [(hrf .done (some c)).2.2.2.2] at this;exact this,hstop _ c pre Fp _ hSp (Nat.le_refl _) (hUx _ _ _ _ _ _ hx (by omega) (grownBy_putObj' W2 (w.heap.size+1) _) (fun r e => by cases e;exact ⟨Nat.le_succ _,f1⟩)) f0 ((World.putObj_heap_other (by omega)).trans hb2.2)⟩
end Fo
end
end Go.Proofs.YtimhglmfckfclaaGreatDoor
