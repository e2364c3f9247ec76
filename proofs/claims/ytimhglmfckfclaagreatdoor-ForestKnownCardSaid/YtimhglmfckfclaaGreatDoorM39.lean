/- Parts of the proof. -/
import Derived.Test.YtimhglmfckfclaaGreatDoorM38
import Derived.OrdersIn
set_option linter.unusedVariables false
set_option linter.unusedSimpArgs false
set_option maxRecDepth 100000
set_option maxHeartbeats 16000000
namespace Go.Proofs.YtimhglmfckfclaaGreatDoor
section
open Go.RowKit
namespace Fo
variable {F:Fence} {n:Nat} {P:Program}
theorem range_foot_own {α:Type} {g:Operand} {ps:Array Tmp} {assign body:Code} {Q:Exit->Act->World->Prop} {a:Act} {w w0:World}
  (hro:F.round=none) (h1:1<=n) {gf:Nat} {lb:Array Value} (hg:a.eval g = .func (.func gf) #[] lb) (hFg:F.fn gf) (eg:∀ args w,(callFunc gf args).run P w = .ok (.enter gf args) w)
  {encs:α->Array Value} {S Sp:List α->Prop} {C:Nat->Prop} (hseq:SeqF F (n-1) P gf lb encs S Sp C w0) (hps:∀ x,(encs x).size=ps.size) (hC:∀ b,C b->b<w.heap.size/\w.heap[b]? = w0.heap[b]?)
  (U:List α->(Nat->Prop)->World->Prop) (Ux:Code->List α->(Nat->Prop)->World->Prop) (Fp0:Nat->Prop) (hFp0:∀ b,Fp0 b->b<w.heap.size/\¬ C b)
  (hU:∀ pre Fp A A' row,U pre Fp A->w.heap.size<=A.heap.size->A.grownBy A' row->(∀ r,row=some r->w.heap.size<=r/\¬ Fp r)->U pre Fp A')
  (hUx:∀ c pre Fp A A' row,Ux c pre Fp A->w.heap.size<=A.heap.size->A.grownBy A' row->(∀ r,row=some r->w.heap.size<=r/\¬ Fp r)->Ux c pre Fp A')
  (h0:U [] Fp0 w) (a₁:α->Nat->Act) (ob:α->Obj)
  (hassign:∀ (l:Nat) (x:α) (W:World) (K:Act->World->Prop),(∃ pre,Sp (pre ++ [x]))->K (a₁ x W.heap.size) (W.alloc (ob x))->assign.wpIn (F.inRound l) (n-1-1) P (Exit.then K (fun _ _ _ => False)) { tmps:=(ps.zip (encs x)).foldl (fun t (p,v) => t.setIfInBounds p v) a.tmps,defers:=[] } W)
  (hbody:∀ (l:Nat) (pre:List α) (x:α) (Fp:Nat->Prop) (b:Nat) (W:World),U pre Fp W->w.heap.size<=W.heap.size->Sp (pre ++ [x])->(∃ A,U pre Fp A/\w.heap.size<=A.heap.size/\A.heap.size=b)->b<W.heap.size->W.heap[b]? = some (ob x)->(w.heap.size<=l/\¬ Fp l/\∃ r,W.heap[l]? = some (.loop r))->body.wpIn (F.inRound l) (n-1-1) P (Left Fp U Ux (pre ++ [x]) W) (a₁ x b) W)
  (hdone:∀ (d:Nat) (xs:List α) (Fp:Nat->Prop) (W:World),S xs->w.heap.size<=d->U xs Fp W->¬ Fp d->W.heap[d]? = some (.deferred (some []))->Q .normal { a with defers:={ target:=.collected d,args:=#[] } :: a.defers } W)
  (hstop:∀ (d:Nat) (c:Code) (pre:List α) (Fp:Nat->Prop) (W:World),Sp pre->w.heap.size<=d->Ux c pre Fp W->¬ Fp d->W.heap[d]? = some (.deferred (some []))->c.wpIn F n P Q { a with defers:={ target:=.collected d,args:=#[] } :: a.defers } W) :
  (Code.rangeFunc g ps assign body).wpIn F n P Q a w:=by
 refine wpIn_rangeFunc fun fn hfn => ?_
 rw [hro]
 let rec_:LoopState->Option Code->Loop:=fun st pe => { state:=st,pending:=pe,fn,tmps:=a.tmps,params:=ps,assign,body,defers:=w.heap.size }
 have hrs:∀ st pe,(rec_ st pe).state=st:=fun _ _ => rfl
 have hrp:∀ st pe,(rec_ st pe).params=ps:=fun _ _ => rfl
 have hrb:∀ st pe st' pe',{ rec_ st pe with state:=st',pending:=pe' }=rec_ st' pe':=fun _ _ _ _ => rfl
 have hrb2:∀ st pe st',{ rec_ st pe with state:=st' }=rec_ st' pe:=fun _ _ _ => rfl
 have hrf:∀ st pe,(rec_ st pe).fn=fn/\(rec_ st pe).assign=assign/\(rec_ st pe).body=body/\(rec_ st pe).tmps=a.tmps/\(rec_ st pe).pending=pe:=fun _ _ => ⟨rfl,rfl,rfl,rfl,rfl⟩
 have hent:(Instr.enterLoop fn a.tmps ps assign body none).run P w = .ok (w.heap.size+1,[{ target:=.collected w.heap.size,args:=#[] }]) ((w.alloc (.deferred (some []))).alloc (.loop (rec_ .ready none))):=run_enterLoop_outer fn a.tmps ps assign body
 let Bk:Loop->World->Prop:=fun r W => W.heap[w.heap.size+1]? = some (.loop r)/\W.heap[w.heap.size]? = some (.deferred (some []))
 have hBk:∀ r W,Bk r W↔(W.heap[w.heap.size+1]? = some (.loop r)/\W.heap[w.heap.size]? = some (.deferred (some []))):=fun _ _ => Iff.rfl
 generalize hW1:(w.alloc (.deferred (some []))).alloc (.loop (rec_ .ready none))=W1 at hent
 have hs1:W1.heap.size=w.heap.size+2:=by subst hW1;rw [World.size_alloc,World.size_alloc]
 have hB1:Bk (rec_ .ready none) W1:=by
  subst hW1
  refine ⟨?_,(Below.heap_alloc _ _ _ (by simp)).trans (World.alloc_heap_new w _)⟩
  have:=World.alloc_heap_new (w.alloc (.deferred (some []))) (.loop (rec_ .ready none))
  rwa [World.size_alloc] at this
 have hg1:w.grownBy W1 none:=by subst hW1;exact ⟨rfl,rfl,rfl,by simp;omega,fun k hk _ => by rw [Below.heap_alloc _ _ _ (by simp;omega),Below.heap_alloc _ _ _ hk]⟩
 have hU1:U [] Fp0 W1:=hU _ _ _ _ _ h0 (Nat.le_refl _) hg1 (fun r e => by cases e)
 have hC1:∀ b,C b->b<W1.heap.size/\W1.heap[b]? = w0.heap[b]?:=fun b hb => by
  obtain ⟨h1,h2⟩:=hC b hb
  exact ⟨by omega,by rw [hg1.block b h1 (fun e => by cases e)];exact h2⟩
 clear_value Bk rec_
 have keep:∀ {r A B} {Fp:Nat->Prop},Only Fp A B->¬ Fp w.heap.size->¬ Fp (w.heap.size+1)->Bk r A->Bk r B:=fun hk f0 f1 hb => by
  rw [hBk] at hb ⊢
  exact ⟨(hk.block _ (zx hb.1) f1).trans hb.1,(hk.block _ (zx hb.2) f0).trans hb.2⟩
 have big:∀ {r A},Bk r A->w.heap.size+1<A.heap.size:=fun hb => by rw [hBk] at hb;exact (zx hb.1)
 have turn:∀ {r A} (r':Loop),Bk r A->Bk r' (A.putObj (w.heap.size+1) (.loop r')):=fun r' hb => by
  have h:=big hb
  rw [hBk] at hb ⊢
  exact ⟨World.putObj_heap_same h,(World.putObj_heap_other (by omega)).trans hb.2⟩
 refine ⟨w.heap.size+1,[{ target:=.collected w.heap.size,args:=#[] }],W1,{ target:=.fn (.func gf) lb,args:=#[.func (.yield (w.heap.size+1)) #[] #[]] },W1,gf,#[.func (.yield (w.heap.size+1)) #[] #[]] ++ lb,W1,hent,?_,?_,?_,fun _ => h1,?_⟩
 ·simp only [resolve,hg]
  simp [go_sem]
 ·intro f' hf';simp [Target.leads] at hf';subst hf';exact hFg
 ·simp [invoke,go_sem,eg]
 refine (hseq (w.heap.size+1) (fun pre Fp' A => ∃ Fp,(∀ b,Fp' b↔Fp b\/b=w.heap.size+1)/\U pre Fp A/\Bk (rec_ .ready none) A/\¬ Fp w.heap.size/\¬ Fp (w.heap.size+1)) (fun pre Fp' A => ∃ Fp c,(∀ b,Fp' b↔Fp b\/b=w.heap.size+1)/\Ux c pre Fp A/\Bk (rec_ .done (some c)) A/\¬ Fp w.heap.size/\¬ Fp (w.heap.size+1)) W1 (fun b => Fp0 b\/b=w.heap.size+1) hC1 ?_ ?_ ?_ ?_ ?_).mono ?_
 ·rintro b (hb | rfl)
  ·exact ⟨by have:=(hFp0 b hb).1;omega,(hFp0 b hb).2⟩
  ·exact ⟨by omega,fun hc => by have:=(hC _ hc).1;omega⟩
 ·rintro pre Fp' A A' row ⟨Fp,hF,hu,hb,f0,f1⟩ hsz hg hrow
  have hnl:∀ r,row=some r->w.heap.size<=r/\¬ Fp r:=fun r e => ⟨by have:=(hrow r e).1;omega,fun hf => (hrow r e).2 ((hF r).2 (.inl hf))⟩
  refine ⟨Fp,hF,hU _ _ _ _ _ hu (by omega) hg hnl,?_,f0,f1⟩
  rw [hBk] at hb ⊢
  exact ⟨(hg.block _ (zx hb.1) (fun e => by have:=(hrow _ e.symm).1;omega)).trans hb.1,(hg.block _ (zx hb.2) (fun e => by have:=(hrow _ e.symm).1;omega)).trans hb.2⟩
 ·rintro pre Fp' A A' row ⟨Fp,c,hF,hu,hb,f0,f1⟩ hsz hg hrow
  have hnl:∀ r,row=some r->w.heap.size<=r/\¬ Fp r:=fun r e => ⟨by have:=(hrow r e).1;omega,fun hf => (hrow r e).2 ((hF r).2 (.inl hf))⟩
  refine ⟨Fp,c,hF,hUx _ _ _ _ _ _ hu (by omega) hg hnl,?_,f0,f1⟩
  rw [hBk] at hb ⊢
  exact ⟨(hg.block _ (zx hb.1) (fun e => by have:=(hrow _ e.symm).1;omega)).trans hb.1,(hg.block _ (zx hb.2) (fun e => by have:=(hrow _ e.symm).1;omega)).trans hb.2⟩
 ·rintro pre x Fp' A0 ⟨Fp,hF,hu,hb,f0,f1⟩ hsz hlen
  have hl00:=((hBk _ _).1 hb).1
  have hy:=run_yield (P:=P) (args:=encs x) hl00 (by rw [hrp];exact hps x)
  obtain ⟨e1,e2,e3,e4,e5⟩:=hrf .ready none
  rw [e1,e2,e3,e4,hrp] at hy
  have hbs0:=big hb
  obtain ⟨A,hA⟩:∃ A,A=A0.alloc (ob x):=⟨_,rfl⟩
  have hsA:A.heap.size=A0.heap.size+1:=by rw [hA,World.size_alloc]
  have hoA:∀ k,k<A0.heap.size->A.heap[k]? = A0.heap[k]?:=fun k hk => by rw [hA];exact Below.heap_alloc _ _ _ hk
  have hgA:A0.grownBy A none:=by rw [hA];exact ⟨rfl,rfl,rfl,by simp,fun k hk _ => Below.heap_alloc _ _ _ hk⟩
  have huA:U pre Fp A:=hU _ _ _ _ _ hu (by omega) hgA (fun r e => by cases e)
  have hbA:Bk (rec_ .ready none) A:=by
   rw [hBk] at hb ⊢
   exact ⟨(hoA _ hbs0).trans hb.1,(hoA _ (by omega)).trans hb.2⟩
  have hl0:=((hBk _ _).1 hbA).1
  have hub:U pre Fp (A.putObj (w.heap.size+1) (.loop (rec_ .busy none))):=hU _ _ _ _ _ huA (by omega) (grownBy_putObj' A (w.heap.size+1) _) (fun r e => by cases e;exact ⟨Nat.le_succ _,f1⟩)
  have hbb:Bk (rec_ .busy none) (A.putObj (w.heap.size+1) (.loop (rec_ .busy none))):=turn _ hbA
  have hsb:(A.putObj (w.heap.size+1) (.loop (rec_ .busy none))).heap.size=A0.heap.size+1:=by rw [<- hsA];simp
  have hnew:(A.putObj (w.heap.size+1) (.loop (rec_ .busy none))).heap[A0.heap.size]? = some (ob x):=by
   rw [World.putObj_heap_other (by omega),hA];exact World.alloc_heap_new _ _
  refine ⟨fn,_,assign,body,hy,roundIn_of_wpIn hfn (hassign _ x A0 _ ⟨pre,hlen⟩ ⟨_,by have:=run_beginRound (P:=P) hl0 (hrs _ _);rw [hrb2] at this;rw [<- hA];exact this,?_⟩)⟩
  refine wpIn_mono (hbody _ pre x Fp A0.heap.size _ hub (by rw [hsb];omega) hlen ⟨A0,hu,by omega,rfl⟩ (by rw [hsb];omega) hnew ⟨Nat.le_succ _,f1,_,((hBk _ _).1 hbb).1⟩) ?_
  have fin:∀ (jump:Option Code) (W3:World),Only Fp (A.putObj (w.heap.size+1) (.loop (rec_ .busy none))) W3 ->
    (Instr.endRound (w.heap.size+1) jump).run P W3 = .ok (.bool jump.isNone) (W3.putObj (w.heap.size+1) (.loop (rec_ (if jump.isNone then .ready else .done) jump))) /\
    W3.heap[w.heap.size+1]? = some (.loop (rec_ .busy none))/\Bk (rec_ (if jump.isNone then .ready else .done) jump) (W3.putObj (w.heap.size+1) (.loop (rec_ (if jump.isNone then .ready else .done) jump))):=fun jump W3 hk3 => by
   have hb3:=keep hk3 f0 f1 hbb
   have hl3:=((hBk _ _).1 hb3).1
   have:=run_endRound (P:=P) jump hl3
   rw [hrb] at this
   exact ⟨this,hl3,turn _ hb3⟩
  have hbs:=big hbA
  have grow_:∀ (W3:World) (Fp2:Nat->Prop) (jump:Option Code),Only Fp (A.putObj (w.heap.size+1) (.loop (rec_ .busy none))) W3->(∀ b,Fp2 b->Fp b\/(A.putObj (w.heap.size+1) (.loop (rec_ .busy none))).heap.size<=b)->¬ Fp2 w.heap.size/\¬ Fp2 (w.heap.size+1) /\
    Only Fp' A0 (W3.putObj (w.heap.size+1) (.loop (rec_ (if jump.isNone then .ready else .done) jump)))/\∀ b,(Fp2 b\/b=w.heap.size+1)->Fp' b\/A0.heap.size<=b:=fun W3 Fp2 jump ho2 hn2 => by
   rw [hsb] at hn2
   refine ⟨fun h => ?_,fun h => ?_,?_,?_⟩
   ·rcases hn2 _ h with h | h
    ·exact f0 h
    ·omega
   ·rcases hn2 _ h with h | h
    ·exact f1 h
    ·omega
   ·have s0:W3.heap.size=(W3.putObj (w.heap.size+1) (.loop (rec_ (if jump.isNone then .ready else .done) jump))).heap.size:=by simp
    refine ⟨ho2.os.trans hgA.os,ho2.tape.trans hgA.tape,ho2.output.trans hgA.output,?_,fun k hk hnf => ?_⟩
    ·have:=ho2.size;rw [hsb] at this;rw [<- s0];omega
    ·have hk1:k≠w.heap.size+1:=fun e => hnf ((hF k).2 (.inr e))
     have hk2:¬ Fp k:=fun h => hnf ((hF k).2 (.inl h))
     rw [World.putObj_heap_other hk1,ho2.block k (by rw [hsb];omega) hk2,World.putObj_heap_other hk1,hoA k hk]
   ·rintro b (hb5 | rfl)
    ·rcases hn2 b hb5 with h | h
     ·exact .inl ((hF b).2 (.inl h))
     ·exact .inr (by omega)
    ·exact .inl ((hF _).2 (.inr rfl))
  rintro e a3 W3 hp
  cases e with
  | normal =>
   obtain ⟨Fp2,hu2,ho2,hn2⟩:=hp
   obtain ⟨hr,hl3,hb4⟩:=fin none W3 ho2
   obtain ⟨g0,g1,k1,k2⟩:=grow_ W3 Fp2 none ho2 hn2
   exact ⟨_,_,hr,.inl ⟨rfl,fun b => Fp2 b\/b=w.heap.size+1,⟨Fp2,fun b => Iff.rfl,hU _ _ _ _ _ hu2 (by have:=ho2.size;rw [hsb] at this;omega) (grownBy_putObj' W3 (w.heap.size+1) _) (fun r e => by cases e;exact ⟨Nat.le_succ _,g1⟩),hb4,g0,g1⟩,k1,k2⟩⟩
  | ret =>
   obtain ⟨Fp2,hu2,ho2,hn2⟩:=hp
   obtain ⟨hr,hl3,hb4⟩:=fin (some .ret) W3 ho2
   obtain ⟨g0,g1,k1,k2⟩:=grow_ W3 Fp2 (some .ret) ho2 hn2
   exact ⟨_,_,hr,.inr ⟨rfl,fun b => Fp2 b\/b=w.heap.size+1,⟨Fp2,.ret,fun b => Iff.rfl,hUx _ _ _ _ _ _ hu2 (by have:=ho2.size;rw [hsb] at this;omega) (grownBy_putObj' W3 (w.heap.size+1) _) (fun r e => by cases e;exact ⟨Nat.le_succ _,g1⟩),hb4,g0,g1⟩,k1,k2⟩⟩
  | exit id =>
   obtain ⟨Fp2,hu2,ho2,hn2⟩:=hp
   obtain ⟨hr,hl3,hb4⟩:=fin (some (.exit id)) W3 ho2
   obtain ⟨g0,g1,k1,k2⟩:=grow_ W3 Fp2 (some (.exit id)) ho2 hn2
   exact ⟨_,_,hr,.inr ⟨rfl,fun b => Fp2 b\/b=w.heap.size+1,⟨Fp2,(.exit id),fun b => Iff.rfl,hUx _ _ _ _ _ _ hu2 (by have:=ho2.size;rw [hsb] at this;omega) (grownBy_putObj' W3 (w.heap.size+1) _) (fun r e => by cases e;exact ⟨Nat.le_succ _,g1⟩),hb4,g0,g1⟩,k1,k2⟩⟩
  | goto t =>
   obtain ⟨Fp2,hu2,ho2,hn2⟩:=hp
   obtain ⟨hr,hl3,hb4⟩:=fin (some (.goto t)) W3 ho2
   obtain ⟨g0,g1,k1,k2⟩:=grow_ W3 Fp2 (some (.goto t)) ho2 hn2
   exact ⟨_,_,hr,.inr ⟨rfl,fun b => Fp2 b\/b=w.heap.size+1,⟨Fp2,(.goto t),fun b => Iff.rfl,hUx _ _ _ _ _ _ hu2 (by have:=ho2.size;rw [hsb] at this;omega) (grownBy_putObj' W3 (w.heap.size+1) _) (fun r e => by cases e;exact ⟨Nat.le_succ _,g1⟩),hb4,g0,g1⟩,k1,k2⟩⟩
  | panic ch => exact hp.elim
  | outgrown => exact hp.elim
 ·exact ⟨Fp0,fun b => Iff.rfl,hU1,hB1,fun h => by have:=(hFp0 _ h).1;omega,fun h => by have:=(hFp0 _ h).1;omega⟩
 ·rintro e W2 ⟨⟨v,rfl⟩,(⟨pre,Fp',hS,Fp,hF,hd,hb,f0,f1⟩ | ⟨pre,Fp',hSp,Fp,c,hF,hx,hb,f0,f1⟩)⟩
  ·have hb2:=(hBk _ _).1 hb
   have hbs:=big hb
   exact ⟨none,_,by have:=run_endLoop (P:=P) hb2.1 (by rw [hrs];simp);rw [(hrf .ready none).2.2.2.2] at this;exact this,hdone _ pre Fp _ hS (Nat.le_refl _) (hU _ _ _ _ _ hd (by omega) (grownBy_putObj' W2 (w.heap.size+1) _) (fun r e => by cases e;exact ⟨Nat.le_succ _,f1⟩)) f0 ((World.putObj_heap_other (by omega)).trans hb2.2)⟩
  ·have hb2:=(hBk _ _).1 hb
   have hbs:=big hb
   exact ⟨some c,_,by have:=run_endLoop (P:=P) hb2.1 (by rw [hrs];simp);rw [(hrf .done (some c)).2.2.2.2] at this;exact this,hstop _ c pre Fp _ hSp (Nat.le_refl _) (hUx _ _ _ _ _ _ hx (by omega) (grownBy_putObj' W2 (w.heap.size+1) _) (fun r e => by cases e;exact ⟨Nat.le_succ _,f1⟩)) f0 ((World.putObj_heap_other (by omega)).trans hb2.2)⟩
theorem range_foot_in {α:Type} {g:Operand} {ps:Array Tmp} {assign body:Code} {Q:Exit->Act->World->Prop} {a:Act} {w w0:World}
  {l₀:Nat} {r₀:Loop} (hro:F.round=some l₀) (hl₀:w.heap[l₀]? = some (.loop r₀)) (h1:1<=n) {gf:Nat} {lb:Array Value} (hg:a.eval g = .func (.func gf) #[] lb) (hFg:F.fn gf) (eg:∀ args w,(callFunc gf args).run P w = .ok (.enter gf args) w)
  {encs:α->Array Value} {S Sp:List α->Prop} {C:Nat->Prop} (hseq:SeqF F (n-1) P gf lb encs S Sp C w0) (hps:∀ x,(encs x).size=ps.size) (hC:∀ b,C b->b<w.heap.size/\w.heap[b]? = w0.heap[b]?)
  (U:List α->(Nat->Prop)->World->Prop) (Ux:Code->List α->(Nat->Prop)->World->Prop) (Fp0:Nat->Prop) (hFp0:∀ b,Fp0 b->b<w.heap.size/\¬ C b)
  (hU:∀ pre Fp A A' row,U pre Fp A->w.heap.size<=A.heap.size->A.grownBy A' row->(∀ r,row=some r->w.heap.size<=r/\¬ Fp r)->U pre Fp A')
  (hUx:∀ c pre Fp A A' row,Ux c pre Fp A->w.heap.size<=A.heap.size->A.grownBy A' row->(∀ r,row=some r->w.heap.size<=r/\¬ Fp r)->Ux c pre Fp A')
  (h0:U [] Fp0 w) (a₁:α->Nat->Act) (ob:α->Obj)
  (hassign:∀ (l:Nat) (x:α) (W:World) (K:Act->World->Prop),(∃ pre,Sp (pre ++ [x]))->K (a₁ x W.heap.size) (W.alloc (ob x))->assign.wpIn (F.inRound l) (n-1-1) P (Exit.then K (fun _ _ _ => False)) { tmps:=(ps.zip (encs x)).foldl (fun t (p,v) => t.setIfInBounds p v) a.tmps,defers:=[] } W)
  (hbody:∀ (l:Nat) (pre:List α) (x:α) (Fp:Nat->Prop) (b:Nat) (W:World),U pre Fp W->w.heap.size<=W.heap.size->Sp (pre ++ [x])->(∃ A,U pre Fp A/\w.heap.size<=A.heap.size/\A.heap.size=b)->b<W.heap.size->W.heap[b]? = some (ob x)->body.wpIn (F.inRound l) (n-1-1) P (Left Fp U Ux (pre ++ [x]) W) (a₁ x b) W)
  (hdone:∀ (xs:List α) (Fp:Nat->Prop) (W:World),S xs->w.heap.size<=W.heap.size->U xs Fp W->Q .normal a W)
  (hstop:∀ (c:Code) (pre:List α) (Fp:Nat->Prop) (W:World),Sp pre->w.heap.size<=W.heap.size->Ux c pre Fp W->c.wpIn F n P Q a W) :
  (Code.rangeFunc g ps assign body).wpIn F n P Q a w:=by
 refine wpIn_rangeFunc fun fn hfn => ?_
 rw [hro]
 let rec_:LoopState->Option Code->Loop:=fun st pe => { state:=st,pending:=pe,fn,tmps:=a.tmps,params:=ps,assign,body,defers:=r₀.defers }
 have hrs:∀ st pe,(rec_ st pe).state=st:=fun _ _ => rfl
 have hrp:∀ st pe,(rec_ st pe).params=ps:=fun _ _ => rfl
 have hrb:∀ st pe st' pe',{ rec_ st pe with state:=st',pending:=pe' }=rec_ st' pe':=fun _ _ _ _ => rfl
 have hrb2:∀ st pe st',{ rec_ st pe with state:=st' }=rec_ st' pe:=fun _ _ _ => rfl
 have hrf:∀ st pe,(rec_ st pe).fn=fn/\(rec_ st pe).assign=assign/\(rec_ st pe).body=body/\(rec_ st pe).tmps=a.tmps/\(rec_ st pe).pending=pe:=fun _ _ => ⟨rfl,rfl,rfl,rfl,rfl⟩
 have hent:(Instr.enterLoop fn a.tmps ps assign body (some l₀)).run P w = .ok (w.heap.size,[]) (w.alloc (.loop (rec_ .ready none))):=run_enterLoop_inner hl₀ fn a.tmps ps assign body
 let Bk:Loop->World->Prop:=fun r W => W.heap[w.heap.size]? = some (.loop r)
 have hBk:∀ r W,Bk r W↔(W.heap[w.heap.size]? = some (.loop r)):=fun _ _ => Iff.rfl
 generalize hW1:w.alloc (.loop (rec_ .ready none))=W1 at hent
 have hs1:W1.heap.size=w.heap.size+1:=by subst hW1;rw [World.size_alloc]
 have hB1:Bk (rec_ .ready none) W1:=by
  subst hW1
  exact World.alloc_heap_new w _
 have hg1:w.grownBy W1 none:=by subst hW1;exact ⟨rfl,rfl,rfl,by simp,fun k hk _ => by rw [Below.heap_alloc _ _ _ hk]⟩
 have hU1:U [] Fp0 W1:=hU _ _ _ _ _ h0 (Nat.le_refl _) hg1 (fun r e => by cases e)
 have hC1:∀ b,C b->b<W1.heap.size/\W1.heap[b]? = w0.heap[b]?:=fun b hb => by
  obtain ⟨h1,h2⟩:=hC b hb
  exact ⟨by omega,by rw [hg1.block b h1 (fun e => by cases e)];exact h2⟩
 clear_value Bk rec_
 have keep:∀ {r A B} {Fp:Nat->Prop},Only Fp A B->¬ Fp w.heap.size->Bk r A->Bk r B:=fun hk f0 hb => by
  rw [hBk] at hb ⊢
  exact (hk.block _ (zx hb) f0).trans hb
 have big:∀ {r A},Bk r A->w.heap.size<A.heap.size:=fun hb => by rw [hBk] at hb;exact (zx hb)
 have turn:∀ {r A} (r':Loop),Bk r A->Bk r' (A.putObj w.heap.size (.loop r')):=fun r' hb => by
  have h:=big hb
  rw [hBk]
  exact World.putObj_heap_same h
 refine ⟨w.heap.size,[],W1,{ target:=.fn (.func gf) lb,args:=#[.func (.yield w.heap.size) #[] #[]] },W1,gf,#[.func (.yield w.heap.size) #[] #[]] ++ lb,W1,hent,?_,?_,?_,fun _ => h1,?_⟩
 ·simp only [resolve,hg]
  simp [go_sem]
 ·intro f' hf';simp [Target.leads] at hf';subst hf';exact hFg
 ·simp [invoke,go_sem,eg]
 refine (hseq w.heap.size (fun pre Fp' A => ∃ Fp,(∀ b,Fp' b↔Fp b\/b=w.heap.size)/\U pre Fp A/\Bk (rec_ .ready none) A/\¬ Fp w.heap.size) (fun pre Fp' A => ∃ Fp c,(∀ b,Fp' b↔Fp b\/b=w.heap.size)/\Ux c pre Fp A/\Bk (rec_ .done (some c)) A/\¬ Fp w.heap.size) W1 (fun b => Fp0 b\/b=w.heap.size) hC1 ?_ ?_ ?_ ?_ ?_).mono ?_
 ·rintro b (hb | rfl)
  ·exact ⟨by have:=(hFp0 b hb).1;omega,(hFp0 b hb).2⟩
  ·exact ⟨by omega,fun hc => by have:=(hC _ hc).1;omega⟩
 ·rintro pre Fp' A A' row ⟨Fp,hF,hu,hb,f0⟩ hsz hg hrow
  have hnl:∀ r,row=some r->w.heap.size<=r/\¬ Fp r:=fun r e => ⟨by have:=(hrow r e).1;omega,fun hf => (hrow r e).2 ((hF r).2 (.inl hf))⟩
  refine ⟨Fp,hF,hU _ _ _ _ _ hu (by omega) hg hnl,?_,f0⟩
  rw [hBk] at hb ⊢
  exact (hg.block _ (zx hb) (fun e => by have:=(hrow _ e.symm).1;omega)).trans hb
 ·rintro pre Fp' A A' row ⟨Fp,c,hF,hu,hb,f0⟩ hsz hg hrow
  have hnl:∀ r,row=some r->w.heap.size<=r/\¬ Fp r:=fun r e => ⟨by have:=(hrow r e).1;omega,fun hf => (hrow r e).2 ((hF r).2 (.inl hf))⟩
  refine ⟨Fp,c,hF,hUx _ _ _ _ _ _ hu (by omega) hg hnl,?_,f0⟩
  rw [hBk] at hb ⊢
  exact (hg.block _ (zx hb) (fun e => by have:=(hrow _ e.symm).1;omega)).trans hb
 ·rintro pre x Fp' A0 ⟨Fp,hF,hu,hb,f0⟩ hsz hlen
  have hl00:=(hBk _ _).1 hb
  have hy:=run_yield (P:=P) (args:=encs x) hl00 (by rw [hrp];exact hps x)
  obtain ⟨e1,e2,e3,e4,e5⟩:=hrf .ready none
  rw [e1,e2,e3,e4,hrp] at hy
  have hbs0:=big hb
  obtain ⟨A,hA⟩:∃ A,A=A0.alloc (ob x):=⟨_,rfl⟩
  have hsA:A.heap.size=A0.heap.size+1:=by rw [hA,World.size_alloc]
  have hoA:∀ k,k<A0.heap.size->A.heap[k]? = A0.heap[k]?:=fun k hk => by rw [hA];exact Below.heap_alloc _ _ _ hk
  have hgA:A0.grownBy A none:=by rw [hA];exact ⟨rfl,rfl,rfl,by simp,fun k hk _ => Below.heap_alloc _ _ _ hk⟩
  have huA:U pre Fp A:=hU _ _ _ _ _ hu (by omega) hgA (fun r e => by cases e)
  have hbA:Bk (rec_ .ready none) A:=by
   rw [hBk] at hb ⊢
   exact (hoA _ hbs0).trans hb
  have hl0:=(hBk _ _).1 hbA
  have hub:U pre Fp (A.putObj (w.heap.size) (.loop (rec_ .busy none))):=hU _ _ _ _ _ huA (by omega) (grownBy_putObj' A (w.heap.size) _) (fun r e => by cases e;exact ⟨Nat.le_refl _,f0⟩)
  have hbb:Bk (rec_ .busy none) (A.putObj (w.heap.size) (.loop (rec_ .busy none))):=turn _ hbA
  have hsb:(A.putObj (w.heap.size) (.loop (rec_ .busy none))).heap.size=A0.heap.size+1:=by rw [<- hsA];simp
  have hnew:(A.putObj (w.heap.size) (.loop (rec_ .busy none))).heap[A0.heap.size]? = some (ob x):=by
   rw [World.putObj_heap_other (by omega),hA];exact World.alloc_heap_new _ _
  refine ⟨fn,_,assign,body,hy,roundIn_of_wpIn hfn (hassign _ x A0 _ ⟨pre,hlen⟩ ⟨_,by have:=run_beginRound (P:=P) hl0 (hrs _ _);rw [hrb2] at this;rw [<- hA];exact this,?_⟩)⟩
  refine wpIn_mono (hbody _ pre x Fp A0.heap.size _ hub (by rw [hsb];omega) hlen ⟨A0,hu,by omega,rfl⟩ (by rw [hsb];omega) hnew) ?_
  have fin:∀ (jump:Option Code) (W3:World),Only Fp (A.putObj (w.heap.size) (.loop (rec_ .busy none))) W3 ->
    (Instr.endRound (w.heap.size) jump).run P W3 = .ok (.bool jump.isNone) (W3.putObj (w.heap.size) (.loop (rec_ (if jump.isNone then .ready else .done) jump))) /\
    W3.heap[w.heap.size]? = some (.loop (rec_ .busy none))/\Bk (rec_ (if jump.isNone then .ready else .done) jump) (W3.putObj (w.heap.size) (.loop (rec_ (if jump.isNone then .ready else .done) jump))):=fun jump W3 hk3 => by
   have hb3:=keep hk3 f0 hbb
   have hl3:=(hBk _ _).1 hb3
   have:=run_endRound (P:=P) jump hl3
   rw [hrb] at this
   exact ⟨this,hl3,turn _ hb3⟩
  have hbs:=big hbA
  have grow_:∀ (W3:World) (Fp2:Nat->Prop) (jump:Option Code),Only Fp (A.putObj (w.heap.size) (.loop (rec_ .busy none))) W3->(∀ b,Fp2 b->Fp b\/(A.putObj (w.heap.size) (.loop (rec_ .busy none))).heap.size<=b)->¬ Fp2 w.heap.size /\
    Only Fp' A0 (W3.putObj (w.heap.size) (.loop (rec_ (if jump.isNone then .ready else .done) jump)))/\∀ b,(Fp2 b\/b=w.heap.size)->Fp' b\/A0.heap.size<=b:=fun W3 Fp2 jump ho2 hn2 => by
   rw [hsb] at hn2
   refine ⟨fun h => ?_,?_,?_⟩
   ·rcases hn2 _ h with h | h
    ·exact f0 h
    ·omega
   ·have s0:W3.heap.size=(W3.putObj (w.heap.size) (.loop (rec_ (if jump.isNone then .ready else .done) jump))).heap.size:=by simp
    refine ⟨ho2.os.trans hgA.os,ho2.tape.trans hgA.tape,ho2.output.trans hgA.output,?_,fun k hk hnf => ?_⟩
    ·have:=ho2.size;rw [hsb] at this;rw [<- s0];omega
    ·have hk1:k≠w.heap.size:=fun e => hnf ((hF k).2 (.inr e))
     have hk2:¬ Fp k:=fun h => hnf ((hF k).2 (.inl h))
     rw [World.putObj_heap_other hk1,ho2.block k (by rw [hsb];omega) hk2,World.putObj_heap_other hk1,hoA k hk]
   ·rintro b (hb5 | rfl)
    ·rcases hn2 b hb5 with h | h
     ·exact .inl ((hF b).2 (.inl h))
     ·exact .inr (by omega)
    ·exact .inl ((hF _).2 (.inr rfl))
  rintro e a3 W3 hp
  cases e with
  | normal =>
   obtain ⟨Fp2,hu2,ho2,hn2⟩:=hp
   obtain ⟨hr,hl3,hb4⟩:=fin none W3 ho2
   obtain ⟨g0,k1,k2⟩:=grow_ W3 Fp2 none ho2 hn2
   exact ⟨_,_,hr,.inl ⟨rfl,fun b => Fp2 b\/b=w.heap.size,⟨Fp2,fun b => Iff.rfl,hU _ _ _ _ _ hu2 (by have:=ho2.size;rw [hsb] at this;omega) (grownBy_putObj' W3 (w.heap.size) _) (fun r e => by cases e;exact ⟨Nat.le_refl _,g0⟩),hb4,g0⟩,k1,k2⟩⟩
  | ret =>
   obtain ⟨Fp2,hu2,ho2,hn2⟩:=hp
   obtain ⟨hr,hl3,hb4⟩:=fin (some .ret) W3 ho2
   obtain ⟨g0,k1,k2⟩:=grow_ W3 Fp2 (some .ret) ho2 hn2
   exact ⟨_,_,hr,.inr ⟨rfl,fun b => Fp2 b\/b=w.heap.size,⟨Fp2,.ret,fun b => Iff.rfl,hUx _ _ _ _ _ _ hu2 (by have:=ho2.size;rw [hsb] at this;omega) (grownBy_putObj' W3 (w.heap.size) _) (fun r e => by cases e;exact ⟨Nat.le_refl _,g0⟩),hb4,g0⟩,k1,k2⟩⟩
  | exit id =>
   obtain ⟨Fp2,hu2,ho2,hn2⟩:=hp
   obtain ⟨hr,hl3,hb4⟩:=fin (some (.exit id)) W3 ho2
   obtain ⟨g0,k1,k2⟩:=grow_ W3 Fp2 (some (.exit id)) ho2 hn2
   exact ⟨_,_,hr,.inr ⟨rfl,fun b => Fp2 b\/b=w.heap.size,⟨Fp2,(.exit id),fun b => Iff.rfl,hUx _ _ _ _ _ _ hu2 (by have:=ho2.size;rw [hsb] at this;omega) (grownBy_putObj' W3 (w.heap.size) _) (fun r e => by cases e;exact ⟨Nat.le_refl _,g0⟩),hb4,g0⟩,k1,k2⟩⟩
  | goto t =>
   obtain ⟨Fp2,hu2,ho2,hn2⟩:=hp
   obtain ⟨hr,hl3,hb4⟩:=fin (some (.goto t)) W3 ho2
   obtain ⟨g0,k1,k2⟩:=grow_ W3 Fp2 (some (.goto t)) ho2 hn2
   exact ⟨_,_,hr,.inr ⟨rfl,fun b => Fp2 b\/b=w.heap.size,⟨Fp2,(.goto t),fun b => Iff.rfl,hUx _ _ _ _ _ _ hu2 (by have:=ho2.size;rw [hsb] at this;omega) (grownBy_putObj' W3 (w.heap.size) _) (fun r e => by cases e;exact ⟨Nat.le_refl _,g0⟩),hb4,g0⟩,k1,k2⟩⟩
  | panic ch => exact hp.elim
  | outgrown => exact hp.elim
 ·exact ⟨Fp0,fun b => Iff.rfl,hU1,hB1,fun h => by have:=(hFp0 _ h).1;omega⟩
 ·rintro e W2 ⟨⟨v,rfl⟩,(⟨pre,Fp',hS,Fp,hF,hd,hb,f0⟩ | ⟨pre,Fp',hSp,Fp,c,hF,hx,hb,f0⟩)⟩
  ·have hb2:=(hBk _ _).1 hb
   have hbs:=big hb
   exact ⟨none,_,by have:=run_endLoop (P:=P) hb2 (by rw [hrs];simp);rw [(hrf .ready none).2.2.2.2] at this;exact this,hdone pre Fp _ hS (by simp;omega) (hU _ _ _ _ _ hd (by omega) (grownBy_putObj' W2 (w.heap.size) _) (fun r e => by cases e;exact ⟨Nat.le_refl _,f0⟩))⟩
  ·have hb2:=(hBk _ _).1 hb
   have hbs:=big hb
   exact ⟨some c,_,by have:=run_endLoop (P:=P) hb2 (by rw [hrs];simp);rw [(hrf .done (some c)).2.2.2.2] at this;exact this,hstop c pre Fp _ hSp (by simp;omega) (hUx _ _ _ _ _ _ hx (by omega) (grownBy_putObj' W2 (w.heap.size) _) (fun r e => by cases e;exact ⟨Nat.le_refl _,f0⟩))⟩
end Fo
end
section
open Go.RowKit
namespace Mu
variable {P:Program} {ops:Array Oper} {Q:Exit->Act->World->Prop} {l n:Nat}
theorem rowsIn_wide {row:String} {args:Array Value} {w:World} {R:Value->World->Prop} (h:Rows P row args w R):RowsIn (Fence.wide.inRound l) n P row args w R :=
 fun c cs _ => let ⟨v,w',r,s⟩:=h c cs;⟨v,w',r,stepsIn_wide.2 s⟩
theorem oper_round {o:Oper} {a:Act} {w:World} {K:Act->World->Prop} (hd:∀ c,o.op≠.defer c) (h:o.wp P a w K Q):o.wpIn (Fence.wide.inRound l) n P a w K Q:=by
 refine ⟨fun _ _ => trivial,?_⟩
 unfold Oper.wp at h
 rw [Oper.semAt_eq _ _ _ hd]
 generalize (execOp a.eval o).run P w=r at *
 cases r with
 | ok x w' =>
  cases x <;> simp only [Oper.upon,Oper.uponIn] at h ⊢ <;>
   first
    | exact h
    | exact ⟨fun hh => by simp [Fence.wide] at hh,CallsIn.inRound l (callsIn_wide.2 h)⟩
    | exact ⟨fun hh => by simp [Fence.wide] at hh,rowsIn_wide h⟩
 | halt x w' => cases x <;> simp only [Oper.upon,Oper.uponIn] at h ⊢ <;> exact h
theorem any_round {md:Region.Mode} (hno:¬ LetsOut Q) (hd:∀ o ∈ ops,∀ c,o.op≠.defer c):∀ (fuel:Nat) (listed:Array Bool) (a:Act) (w:World),wpAny P md ops Q fuel listed a w->wpAnyIn (Fence.wide.inRound l) n P md ops Q fuel listed a w
 | 0,listed,a,w,h => h
 | fuel+1,listed,a,w,h => by
  refine ⟨h.1,fun i hi => ?_⟩
  have h2:=h.2 i hi
  unfold wpOp at h2
  unfold wpOpIn
  cases ho:ops[i]? with
  | none => simp only [ho] at h2 ⊢;exact any_round hno hd fuel _ _ _ h2
  | some o =>
   simp only [ho] at h2 ⊢
   have hdo:∀ c,o.op≠.defer c:=hd o (by
    obtain ⟨hlt,e⟩:=Array.getElem?_eq_some_iff.1 ho
    rw [<- e];exact Array.getElem_mem hlt)
   by_cases hw:Region.wanted o (yielded ops a.tmps)=true
   ·rw [if_pos hw] at h2 ⊢
    rcases h2 with h2 | ⟨_,h2⟩
    ·exact Oper.wpIn_mono (fun a w h => any_round hno hd fuel _ a w h) (oper_round hdo h2)
    ·exact absurd h2 hno
   ·rw [if_neg hw] at h2 ⊢
    exact ⟨fun _ _ => trivial,any_round hno hd fuel _ _ _ h2⟩
theorem region_round {S:World->Prop} {id:Nat} {a:Act} {w:World} (hm:P.follows .mixedOrders=true) (hno:¬ LetsOut Q) (hd:∀ o ∈ ops,∀ c,o.op≠.defer c) (hS:S w.drew)
  (h:S w.drew->wpAnyH P .any ops Q S ops.size (Array.replicate ops.size false) a w.drew):(Code.region id ops true).wpIn (Fence.wide.inRound l) n P Q a w :=
 wpIn_region_any hm (any_round hno hd _ _ _ _ (wpAny_of_held _ _ _ _ (h hS)))
theorem take_some {md:Region.Mode} {S:World->Prop} {i k:Nat} {oi:Oper} {v:Value} {fuel:Nat} {listed:Array Bool} {t:List Value} {d:List Deferred} {w:World} (hi:ops[i]? = some oi) (hk:oi.dst=some k)
  (hs:Region.noSelect ops=true) (hf:Region.free md ops listed i=true) (hr:(Region.ready md ops listed).contains i=true)
  (hQ:∀ c a w,Q (.panic c) (a.put (some k) v) w->Q (.panic c) a w) (hy:YieldsIf P ops S oi v { tmps:=t.toArray,defers:=d }) (hS:S w)
  (h:wpAnyH P md ops Q S fuel (listed.setIfInBounds i true) { tmps:=(t.set k v).toArray,defers:=d } w):wpAnyH P md ops Q S (fuel+1) listed { tmps:=t.toArray,defers:=d } w:=by
 refine wpAnyH_take hi hs hf hr (fun c a w h => hQ c a w (by rwa [hk] at h)) hy hS ?_
 rw [hk]
 have e:Act.put { tmps:=t.toArray,defers:=d } (some k) v={ tmps:=(t.set k v).toArray,defers:=d }:=by simp [Act.put]
 rw [e];exact h
theorem call_step {md:Region.Mode} {S:World->Prop} {i k:Nat} {oi:Oper} {fuel:Nat} {listed:Array Bool} {t:List Value} {d:List Deferred} {w:World} {f:FuncId} {args:Array Value} (hi:ops[i]? = some oi) (hk:oi.dst=some k)
  (hr:Region.ready md ops listed=[i]) (hw:Region.wanted oi (yielded ops t.toArray)=true) (hrun:(execOp (Act.eval { tmps:=t.toArray,defers:=d }) oi).run P w = .ok (.enter f args) w)
  (hc:Calls P f args w fun e w' => ∃ v,e = .returned v/\S w'/\(S w'->wpAnyH P md ops Q S fuel (listed.setIfInBounds i true) { tmps:=(t.set k v).toArray,defers:=d } w')):wpAnyH P md ops Q S (fuel+1) listed { tmps:=t.toArray,defers:=d } w:=by
 refine wpAnyH_all hr (by simp) (fun j hj => ?_)
 obtain rfl:j=i:=by simpa using hj
 unfold wpOp
 simp only [hi]
 rw [if_pos hw]
 left
 unfold Oper.wp
 rw [hrun]
 unfold Oper.upon
 refine Calls.mono hc ?_
 rintro e w' ⟨v,rfl,h1,h2⟩
 refine ⟨h1,?_⟩
 rw [hk]
 have e:Act.put { tmps:=t.toArray,defers:=d } (some k) v={ tmps:=(t.set k v).toArray,defers:=d }:=by simp [Act.put]
 rw [e];exact h2 h1
end Mu
end
end Go.Proofs.YtimhglmfckfclaaGreatDoor
