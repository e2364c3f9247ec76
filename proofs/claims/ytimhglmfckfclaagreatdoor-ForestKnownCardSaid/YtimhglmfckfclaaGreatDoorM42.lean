/- Parts of the proof. -/
import Derived.Test.YtimhglmfckfclaaGreatDoorM41
import Derived.Test.YtimhglmfckfclaaGreatDoorRows
import Derived.ProofKit
import Derived.LaidLaws
import Derived.LaidHandle
import Derived.LaidSub
import Derived.Stop.Joined
import Derived.Laws.Slices
set_option linter.unusedVariables false
set_option linter.unusedSimpArgs false
set_option maxRecDepth 100000
set_option maxHeartbeats 16000000
namespace Go.Proofs.YtimhglmfckfclaaGreatDoor
section
open Go.RowKit Go.Maps Go.Shelf
namespace Fr
open Vw (Sess)
theorem Is.born_of {st st':FS} {A:List Sess} (h:Is st A) {s:Sess} (e:bornF st s=some (st',0)):Is st' (A ++ [s]):=by
 rcases h.born s with ⟨no,e1,hn,_⟩ | ⟨st2,e1,_,h2,_⟩
 ·rw [e] at e1;cases e1;exact absurd rfl hn
 ·rw [e] at e1;cases e1;exact h2
theorem Is.tick_of {st st':FS} {A:List Sess} (h:Is st A) {n:Int} (e:tickF st n=some (st',0)):∃ B,Is st' B:=by
 rcases h.tick n with ⟨_,e1⟩ | ⟨st2,B,_,e1,h2,_⟩
 ·rw [e] at e1;cases e1
 ·rw [e] at e1;cases e1;exact ⟨B,h2⟩
theorem Is.revoke_of {st st':FS} {A:List Sess} (h:Is st A) {us ub:Int} (e:revokeF st us ub=some (st',0)):∃ B,Is st' B:=by
 rcases h.revoke us ub with ⟨_,e1⟩ | ⟨st2,s,_,_,_,e1,h2,_⟩
 ·rw [e] at e1;cases e1
 ·rw [e] at e1;cases e1;exact ⟨_,h2⟩
theorem Is.sweep_of {st st':FS} {A:List Sess} (h:Is st A) {n:Int} (e:sweepF st n=some (st',0)):Is st' A:=by
 rcases h.sweep n with ⟨_,e1⟩ | ⟨st2,_,e1,h2,_⟩
 ·rw [e] at e1;cases e1
 ·rw [e] at e1;cases e1;exact h2
namespace Fk
theorem i0:Is newF []:=is_new
theorem i1:Is k1 [top1]:=i0.born_of b1
theorem i2:Is k2 [top1,two]:=i1.born_of b2
theorem i3:Is k3 [top1,two,three]:=i2.born_of b3
theorem i4:∃ A,Is k4 A:=i3.tick_of t1
theorem i5:∃ A,Is k5 A:=i4.elim fun _ h => h.revoke_of r1
theorem i6:∃ A,Is k6 A:=i5.elim fun A h => ⟨A,h.sweep_of w1⟩
theorem i7:∃ A,Is k7 A:=i6.elim fun A h => ⟨A,h.sweep_of w3⟩
theorem own_row {w:World} {base e size n:Nat} {v:Value} {xs:List Value} (h:w.ownsRow base e size v n xs) (hx:xs≠[]):∃ g cap cur,v = .slice (some ⟨g,0,none⟩) n cap/\base<=g/\w.heap[g]? = some (.cells cur e (0,0))/\∀ (k:Nat) (u:Value),xs[k]? = some u->cur[k]? = some u:=by
 rcases h.2 with ⟨_,h2⟩ | ⟨g,cap,cur,h1,h2,h3,h4,h5,h6,h7⟩
 ·exact absurd (List.eq_nil_of_length_eq_zero (by rw [h.1,h2,Nat.zero_mul])) hx
 ·refine ⟨g,cap,cur,h1,h2,h3,fun k u hk => ?_⟩
  rw [<- h7] at hk
  rw [List.getElem?_take] at hk
  split at hk
  ·simpa using hk
  ·cases hk
theorem ints_row {W:World} {g cap:Nat} {t:TypeId} {cur:Array Value} {ps fr:List Int} (n:Nat) (hn:n=ps.length) (h:W.heap[g]? = some (.cells cur t (0,0))) (hc:∀ (k:Nat) (x:Int),fr[k]? = some x->cur[k]? = some (.int .i64 x)) (hp:∀ (k:Nat) (x:Int),ps[k]? = some x->fr[k]? = some x):In.IntArg W (.slice (some ⟨g,0,none⟩) n cap) ps:=by
 subst hn
 exact ⟨_,cap,rfl,fun j hj => ⟨g,0,rfl,(zx h),by
  rw [zc h,Nat.zero_add];exact hc _ _ (hp _ _ (List.getElem?_eq_getElem hj))⟩⟩
theorem sessArg_row {W:World} {g cap:Nat} {t:TypeId} {cur:Array Value} {ss:List Sess} (h:W.heap[g]? = some (.cells cur t (0,0))) (hc:∀ (k:Nat) (u:Value),(allC ss)[k]? = some u->cur[k]? = some u):Vw.SessArg W (.slice (some ⟨g,0,none⟩) ss.length cap) ss :=
 ⟨_,cap,rfl,fun j hj => ⟨g,0,rfl,(zx h),fun i u hi => by
  have hi2:i<12:=(List.getElem?_eq_some_iff.1 hi).1
  rw [zc h,Nat.zero_add];exact hc _ _ (by rw [allC_cell hj hi2];exact hi)⟩⟩
structure KA (w0:World) (lo:Nat) (P:Pa) (st:FS) (nw:Nat) (F:Nat->Prop) (xs:List (Nat × Obj)) (W:World):Prop where
 fa:ForAt lo P st nw F W
 bel:Below w0.heap.size w0 W
 lo_:w0.heap.size<=lo
 nd:(xs.map (·.1)).Nodup
 vrs:∀ x ∈ xs,W.heap[x.1]? = some x.2/\¬ Fo P F x.1/\w0.heap.size<=x.1
def KE (w0:World) (lo:Nat) (P:Pa) (st:FS) (N:Nat) (xs:List (Nat × Obj)) (W:World):Prop:=∃ nw F,nw<=N/\KA w0 lo P st nw F xs W
section
variable {w0:World} {lo:Nat} {P:Pa} {st st1 st2:FS} {N M c:Nat} {xs ys:List (Nat × Obj)} {W W':World} {f:Nat} {args:Array Value} {r:Ending}
theorem KE.only {G:Nat->Prop} (h:KE w0 lo P st N xs W) (ho:Only G W W') (h0:∀ k,G k->W.heap.size<=k\/(w0.heap.size<=k/\k ∉ xs.map (·.1)/\∀ nw F,ForAt lo P st nw F W->¬ Fo P F k)):KE w0 lo P st N xs W':=by
 obtain ⟨n,F,hn,h⟩:=h
 have hF:∀ k,Fo P F k->¬ G k:=fun k hk hg => by
  rcases h0 k hg with h1 | ⟨_,_,h1⟩
  ·have:=(h.fa.lt hk).2;omega
  ·exact h1 _ _ h.fa hk
 refine ⟨n,F,hn,h.fa.only ho hF,h.bel.trans (ho.below h.bel.size (fun k hk hg => by
  have:=h.bel.size
  rcases h0 k hg with h1 | ⟨h1,_,_⟩ <;> omega)),h.lo_,h.nd,fun x hx => ?_⟩
 obtain ⟨k1,k2,k3⟩:=h.vrs x hx
 have hl:=(zx k1)
 refine ⟨(ho.block _ hl (fun hg => ?_)).trans k1,k2,k3⟩
 rcases h0 _ hg with h1 | ⟨_,h1,_⟩
 ·omega
 ·exact h1 (List.mem_map.2 ⟨x,hx,rfl⟩)
theorem KE.below (h:KE w0 lo P st N xs W) (hb:Below W.heap.size W W'):KE w0 lo P st N xs W':=h.only (G:=fun _ => False) (Only.of_below hb) (fun _ h => h.elim)
theorem KE.drew (h:KE w0 lo P st N xs W):KE w0 lo P st N xs W.drew:=h.below ((Below.refl _ _).drew)
theorem KE.sub (h:KE w0 lo P st N xs W) (hs:ys.Sublist xs) (hn:N<=M):KE w0 lo P st M ys W:=by
 obtain ⟨n,F,hn,h⟩:=h
 exact ⟨n,F,by omega,h.fa,h.bel,h.lo_,h.nd.sublist (hs.map _),fun x hx => h.vrs x (hs.subset hx)⟩
theorem KE.bel (h:KE w0 lo P st N xs W):Below w0.heap.size w0 W:=by
 obtain ⟨n,F,hn,h⟩:=h
 exact h.bel
theorem KE.row {b:Nat} {o:Obj} (h:KE w0 lo P st N xs W) (hx:(b,o) ∈ xs):W.heap[b]? = some o:=by
 obtain ⟨n,F,hn,h⟩:=h
 exact (h.vrs _ hx).1
theorem KE.cell {b:Nat} {cs:Array Value} {t:TypeId} (h:KE w0 lo P st N xs W) (hx:(b,Obj.cells cs t (0,0)) ∈ xs) (k:Nat):W.cell? ⟨b,k,none⟩=cs[k]?:=zc (h.row hx)
theorem KE.grow1 (h:KE w0 lo P st N xs W) (hb:Below W.heap.size W W') {b:Nat} {o:Obj} (hr:W'.heap[b]? = some o) (hl:W.heap.size<=b):KE w0 lo P st N ((b,o) :: xs) W':=by
 obtain ⟨n,F,hn,h⟩:=h
 obtain ⟨h1,h2,h3,h5,h4⟩:=h
 refine ⟨n,F,hn,h1.below hb,h2.trans (hb.mono h2.size),h3,List.nodup_cons.2 ⟨fun hm => ?_,h5⟩,fun x hx => ?_⟩
 ·obtain ⟨x,hx,e⟩:=List.mem_map.1 hm
  have l1:x.1<W.heap.size:=(Array.getElem?_eq_some_iff.1 (h4 x hx).1).1
  have e':x.1=b:=e
  omega
 ·rcases List.mem_cons.1 hx with rfl | hx
  ·exact ⟨hr,fun hf => by have:=(h1.lt hf).2;omega,Nat.le_trans h2.size hl⟩
  ·obtain ⟨k1,k2,k3⟩:=h4 x hx
   exact ⟨(hb.block _ (zx k1)).trans k1,k2,k3⟩
theorem KE.grow (h:KE w0 lo P st N xs W) (hb:Below W.heap.size W W') (ys:List (Nat × Obj)) (hn:(ys.map (·.1)).Nodup) (hy:∀ y ∈ ys,W'.heap[y.1]? = some y.2/\W.heap.size<=y.1):KE w0 lo P st N (ys ++ xs) W':=by
 obtain ⟨n,F,hN,h1,h2,h3,h5,h4⟩:=h
 refine ⟨n,F,hN,h1.below hb,h2.trans (hb.mono h2.size),h3,?_,fun x hx => ?_⟩
 ·rw [List.map_append]
  refine List.nodup_append.2 ⟨hn,h5,fun x hx y hz e => ?_⟩
  obtain ⟨u,hu,rfl⟩:=List.mem_map.1 hx
  obtain ⟨v,hv,rfl⟩:=List.mem_map.1 hz
  have l1:v.1<W.heap.size:=(Array.getElem?_eq_some_iff.1 (h4 v hv).1).1
  have l2:W.heap.size<=u.1:=(hy u hu).2
  exact Nat.lt_irrefl _ (Nat.lt_of_lt_of_le l1 (e ▸ l2))
 ·rcases List.mem_append.1 hx with hx | hx
  ·exact ⟨(hy x hx).1,fun hf => by have:=(h1.lt hf).2;have:=(hy x hx).2;omega,Nat.le_trans h2.size (hy x hx).2⟩
  ·obtain ⟨k1,k2,k3⟩:=h4 x hx
   exact ⟨(hb.block _ (zx k1)).trans k1,k2,k3⟩
theorem KE.alloc (h:KE w0 lo P st N xs W) (cs:Array Value) (t:TypeId):KE w0 lo P st N ((W.heap.size,.cells cs t (0,0)) :: xs) (W.alloc (.cells cs t)):=h.grow1 ((Below.refl _ _).alloc (Nat.le_refl _) _) (World.alloc_heap_new _ _) (Nat.le_refl _)
theorem KE.set {b:Nat} {Z:Array Value} {t:TypeId} (h:KE w0 lo P st N ((b,.cells Z t (0,0)) :: xs) W) (cs:List Value) (hz:Z.size=cs.length):KE w0 lo P st N ((b,.cells cs.toArray t (0,0)) :: xs) (W.setCells b 0 cs):=by
 have ho:Only (fun k => k=b) W (W.setCells b 0 cs):=only_cells _ _ _ (Only.refl _ _)
 obtain ⟨n,F,hn,h⟩:=h
 obtain ⟨k1,k2,k3⟩:=h.vrs _ (List.mem_cons_self ..)
 have hx:=(List.nodup_cons.1 h.nd).1
 refine ⟨n,F,hn,h.fa.only ho (fun k hk e => by subst e;exact k2 hk),h.bel.trans (ho.below h.bel.size (fun i hi e => by subst e;have:w0.heap.size<=i:=k3;omega)),h.lo_,h.nd,fun x hx2 => ?_⟩
 rcases List.mem_cons.1 hx2 with rfl | hx2
 ·refine ⟨?_,k2,k3⟩
  have:=Ag.setCells_row b t cs 0 Z W k1
  rwa [Ag.put_all hz] at this
 ·obtain ⟨j1,j2,j3⟩:=h.vrs x (List.mem_cons_of_mem _ hx2)
  exact ⟨(ho.block _ (zx j1) (fun e => hx (List.mem_map.2 ⟨x,hx2,e⟩))).trans j1,j2,j3⟩
theorem KE.swap {x y:Nat × Obj} (h:KE w0 lo P st N (x :: y :: xs) W):KE w0 lo P st N (y :: x :: xs) W:=by
 obtain ⟨n,F,hn,h1,h2,h3,h5,h4⟩:=h
 exact ⟨n,F,hn,h1,h2,h3,((List.Perm.swap y x xs).map _).nodup_iff.1 h5,fun z hz => h4 z ((List.Perm.swap y x xs).mem_iff.2 hz)⟩
theorem KE.done {D:Nat} (h:KE w0 lo P st N xs W) (hx:(D,Obj.deferred (some [])) ∈ xs):Below w0.heap.size w0 (W.putObj D (.deferred none)):=by
 obtain ⟨n,F,hn,h⟩:=h
 exact h.bel.grown (grownBy_putObj' _ D (.deferred none)) h.bel.size (fun k e => by cases e;exact (h.vrs _ hx).2.2)
theorem KE.call (h:KE w0 lo P st N xs W) (hc:∀ nw F,nw<=N->ForAt lo P st nw F W->Calls Tryz.prog f args W fun e w' => e=r/\FoTo lo P st2 c nw F W w'):Calls Tryz.prog f args W fun e w' => e=r/\KE w0 lo P st2 (N+c) xs w':=by
 obtain ⟨n,F,hn,h⟩:=h
 refine (hc n F hn h.fa).mono ?_
 rintro e w' ⟨he,h2⟩
 obtain ⟨n2,F2,a1,a2,hf,ho,hn'⟩:=h2
 refine ⟨he,n2,F2,by omega,hf,h.bel.trans (ho.below h.bel.size (fun i hi hF => by have:=(h.fa.lt hF).1;have:=h.lo_;omega)),h.lo_,h.nd,fun x hx => ?_⟩
 obtain ⟨k1,k2,k3⟩:=h.vrs x hx
 have hl:=(zx k1)
 exact ⟨(ho.block _ hl k2).trans k1,Fo.new hn' k2 hl,k3⟩
theorem cWorks (h:KE w0 lo P st N xs W):Calls Tryz.prog 17 #[] W fun e w' => e = .returned (.bool true)/\KE w0 lo P st N xs w':=(lworks_any W).mono fun _ _ h2 => ⟨h2.1,h.below h2.2⟩
theorem cAsk (level life:Int) (h:KE w0 lo P st N xs W):Calls Tryz.prog 19 #[.int .i64 level,.int .i64 life] W fun e w' => e = .returned (.agg (askR level life).cells.toArray)/\KE w0 lo P st N xs w':=(lask_any level life W).mono fun _ _ h2 => ⟨h2.1,h.below h2.2⟩
theorem cBirth (kind us ub level life:Int) (s:Sess) (hp:planF st kind us ub (askR level life)=some (st1,s,0)) (hc:bornF st1 s=some (st2,0)) {A:List Sess} (hA:IsN st1 A) (hs:s.user.size<=32/\s.label.size<=32/\s.scopes<=255) (hN:N<=10000000) (h:KE w0 lo P st N xs W) :
  Calls Tryz.prog 18 (planArgs P kind us ub (askR level life)) W fun e w' => e = .returned (.tuple #[.agg s.cells.toArray,.bool true])/\KE w0 lo P st2 (N+14) xs w' :=
 h.call fun nw F hn hf => lbirth_any hf (by omega) kind us ub (askR level life) (show annB.size<=9223372036854775807 by decide) (show tvB.size<=9223372036854775807 by decide) s hp hc hA.deep hA.tm.2 (by omega) (by omega) (by omega)
theorem cPlan (kind us ub level life no:Int) (s:Sess) (hp:planF st kind us ub (askR level life)=some (st2,s,no)) (hN:N<=10000000) (h:KE w0 lo P st N xs W) :
  Calls Tryz.prog 21 (planArgs P kind us ub (askR level life)) W fun e w' => e = .returned (.tuple #[.agg s.cells.toArray,erV no])/\KE w0 lo P st2 (N+8) xs w' :=
 h.call fun nw F hn hf => fplan hf (by omega) kind us ub (askR level life) (show annB.size<=9223372036854775807 by decide) (show tvB.size<=9223372036854775807 by decide) s no hp
theorem cBorn (no:Int) (s:Sess) (hc:bornF st s=some (st2,no)) {A:List Sess} (hA:IsN st A) (hs:s.user.size<=32/\s.label.size<=32/\s.scopes<=255) (hN:N<=10000000) (h:KE w0 lo P st N xs W) :
  Calls Tryz.prog 24 #[.pointer (some ⟨P.f,0,none⟩),.agg s.cells.toArray] W fun e w' => e = .returned (erV no)/\KE w0 lo P st2 (N+6) xs w' :=
 h.call fun nw F hn hf => fborn hf hA.deep hA.tm.2 (by omega) s (by omega) (by omega) (by omega) no hc
theorem cTick (n no:Int) (hc:tickF st n=some (st2,no)) (hN:N<=10000000) (h:KE w0 lo P st N xs W) :
  Calls Tryz.prog 25 #[.pointer (some ⟨P.f,0,none⟩),.int .i64 n] W fun e w' => e = .returned (erV no)/\KE w0 lo P st2 (N+256) xs w' :=
 h.call fun nw F hn hf => ftick hf (by omega) n no hc
theorem cRevoke (us ub no:Int) (hc:revokeF st us ub=some (st2,no)) (hN:N<=10000000) (h:KE w0 lo P st N xs W) :
  Calls Tryz.prog 26 #[.pointer (some ⟨P.f,0,none⟩),.agg #[.int .i64 us,.int .i64 ub]] W fun e w' => e = .returned (erV no)/\KE w0 lo P st2 (N+8) xs w' :=
 h.call fun nw F hn hf => frevoke hf (by omega) us ub no hc
theorem cSweep (n no:Int) (hc:sweepF st n=some (st2,no)) (hN:N<=10000000) (h:KE w0 lo P st N xs W) :
  Calls Tryz.prog 27 #[.pointer (some ⟨P.f,0,none⟩),.int .i64 n] W fun e w' => e = .returned (erV no)/\KE w0 lo P st2 (N+524288) xs w' :=
 h.call fun nw F hn hf => fsweep hf n no (by omega) hc
theorem cNum (no:Int) (h1:1<=no) (h2:no<=24) (h:KE w0 lo P st N xs W):Calls Tryz.prog 23 #[erV no] W fun e w' => e = .returned (.int .i64 no)/\KE w0 lo P st N xs w':=by
 rw [show erV no = .iface 101 (.int .i64 no) from if_neg (by omega)]
 exact (num_errno no h1 h2 W).mono fun _ _ h2 => ⟨h2.1,h2.2 ▸ h⟩
theorem cUnder (us ub:Int) {A:List Sess} (hA:IsN st A) (h:KE w0 lo P st N xs W) :
  Calls Tryz.prog 20 #[.pointer (some ⟨P.f,0,none⟩),.agg #[.int .i64 us,.int .i64 ub]] W fun e w' => FUndPost (underF st us ub) W e w'/\KE w0 lo P st N xs w':=by
 obtain ⟨n,F,hn,hL⟩:=id h
 exact (funder_any hL.fa hA us ub).mono fun e w' h2 => ⟨h2,h.below h2.2⟩
theorem cDump (n:Nat) (fr:List Int) (hn0:fr.length=n) (hne:fr≠[]) (cl bi gb ro:Int) (hst:(st.clock,st.births,st.garb,st.roots,st.free)=(cl,bi,gb,ro,fr)) (h:KE w0 lo P st N xs W) :
  Calls Tryz.prog 11 #[.pointer (some ⟨P.f,0,none⟩)] W fun e w' => ∃ g cap cur q r,e = .returned (.agg #[.int .i64 cl,.int .i64 bi,.slice q 32 r,.slice (some ⟨g,0,none⟩) n cap,.int .i64 gb,.int .i64 ro])/\n<=cap/\(∀ (k:Nat) (x:Int),fr[k]? = some x->cur[k]? = some (.int .i64 x))/\KE w0 lo P st N ((g,.cells cur 3 (0,0)) :: xs) w':=by
 obtain ⟨nw,F,hn,hL⟩:=id h
 refine (fdump hL.fa).mono ?_
 rintro e w' ⟨⟨v1,v2,rfl,h1,h2,-⟩,hb⟩
 simp only [Prod.mk.injEq] at hst
 obtain ⟨rfl,rfl,rfl,rfl,rfl⟩:=hst
 obtain ⟨g,cap,cur,rfl,hg,hr,hc⟩:=own_row h2 (by simpa using hne)
 have hcap:st.free.length<=cap:=by obtain ⟨_,_,e2,h⟩:=own_shape h2;cases e2;exact h
 obtain ⟨q,r,rfl,-⟩:=own_shape h1
 subst hn0
 exact ⟨g,cap,cur,q,r,rfl,hcap,fun k x hk => hc k _ (by rw [List.getElem?_map,hk];rfl),h.grow1 hb hr hg⟩
theorem cState (n:Nat) (a:Sess) (ss:List Sess) (hn0:ss.length+1=n) (hss:stateF st=a :: ss) {A:List Sess} (hA:IsN st A) (h:KE w0 lo P st N xs W) :
  Calls Tryz.prog 13 #[.pointer (some ⟨P.f,0,none⟩)] W fun e w' => ∃ g cap cur,e = .returned (.agg #[.int .i64 st.clock,.int .i64 st.births,.slice (some ⟨g,0,none⟩) n cap])/\(∀ (k:Nat) (u:Value),(allC (a :: ss))[k]? = some u->cur[k]? = some u)/\KE w0 lo P st N ((g,.cells cur 30 (0,0)) :: xs) w':=by
 obtain ⟨nw,F,hn,hL⟩:=id h
 refine (fstate hL.fa hA).mono ?_
 rintro e w' ⟨⟨v,rfl,h2⟩,hb⟩
 rw [hss] at h2
 obtain ⟨g,cap,cur,rfl,hg,hr,hc⟩:=own_row h2 (by intro e;have:=congrArg List.length e;rw [allC_len] at this;simp at this)
 subst hn0
 exact ⟨g,cap,cur,rfl,hc,h.grow1 hb hr hg⟩
theorem cState0 (hss:stateF st=[]) {A:List Sess} (hA:IsN st A) (h:KE w0 lo P st N xs W) :
  Calls Tryz.prog 13 #[.pointer (some ⟨P.f,0,none⟩)] W fun e w' => ∃ q cap,e = .returned (.agg #[.int .i64 st.clock,.int .i64 st.births,.slice q 0 cap])/\KE w0 lo P st N xs w':=by
 obtain ⟨n,F,hn,hL⟩:=id h
 refine (fstate hL.fa hA).mono ?_
 rintro e w' ⟨⟨v,rfl,h2⟩,hb⟩
 rw [hss] at h2
 obtain ⟨q,r,rfl,-⟩:=own_shape h2
 exact ⟨q,r,rfl,h.below hb⟩
end
end Fk
end Fr
end
section
open Go.RowKit
theorem er_et : Tryz.prog.globalNamed "errors.errorType" = some 0 := by kernel_rfl
theorem er_rt : (Tryz.prog.cutTypes.find? (·.1 == "internal/reflectlite.rtype")).map (·.2) = some 286 := by kernel_rfl
theorem er_oneRow:((List.range 418).filter fun t => Tryz.prog.rowNamed t [101,114,114,111,114])=[37]:=by kernel_rfl
theorem er_size:Tryz.prog.types.size=418:=by kernel_rfl
theorem handle_of_laid {l : List (String × DataW Unit)} {W : World} (h : laidMetH Tryz.prog l W) (e : (l.filter fun x => x.1 == "errors.errorType") = [("errors.errorType", Rows.laid_errors_errorType)]) : erHandle W := by
 have h0 := laidMetH.filter (fun x => x.1 == "errors.errorType") h
 rw [e] at h0
 have h' : laidMet Tryz.prog [] W ∧ handlesMet Tryz.prog [("errors.errorType", Rows.laid_errors_errorType)] W := h0
 obtain ⟨name,u,ty,e1,e2,e3,e4,e5⟩:=h'.2 _ (List.mem_singleton.2 rfl)
 have en:name=[101,114,114,111,114]:=(Option.some.inj e1).symm
 subst en
 obtain rfl:=Option.some.inj (er_rt.symm.trans e2)
 have hm:ty ∈ (List.range 418).filter fun t => Tryz.prog.rowNamed t [101,114,114,111,114]:=List.mem_filter.2 ⟨List.mem_range.2 (by rw [<- er_size];exact e3),e4⟩
 rw [er_oneRow] at hm
 obtain rfl:=List.mem_singleton.1 hm
 have hh:typeHandle Tryz.prog 37 = .pointer (some ⟨2,37,none⟩):=by kernel_rfl
 rw [hh] at e5
 unfold erHandle
 simpa using World.var?_cell er_et e5 0
end
section
open Go.RowKit
namespace Fo
variable {F:Fence} {n:Nat} {P:Program}
theorem range_foot_new_sl {α:Type} {g:Operand} {ps:Array Tmp} {assign body:Code} {Q:Exit->Act->World->Prop} {a:Act} {w w0:World}
  (hro:F.round=none) (h1:1<=n) {gf:Nat} {lb:Array Value} (hg:a.eval g = .func (.func gf) #[] lb) (hFg:F.fn gf) (eg:∀ args w,(callFunc gf args).run P w = .ok (.enter gf args) w)
  {encs:α->Array Value} {S Sp:List α->Prop} {C:Nat->Prop} (hseq:SeqF F (n-1) P gf lb encs S Sp C w0) (hps:∀ x,(encs x).size=ps.size) (hC:∀ b,C b->b<w.heap.size/\w.heap[b]? = w0.heap[b]?)
  (U:List α->(Nat->Prop)->World->Prop) (Ux:Code->List α->(Nat->Prop)->World->Prop) (Fp0:Nat->Prop) (hFp0:∀ b,Fp0 b->b<w.heap.size/\¬ C b)
  (hU:∀ pre Fp A A' row,U pre Fp A->w.heap.size<=A.heap.size->A.grownBy A' row->(∀ r,row=some r->w.heap.size<=r/\¬ Fp r)->U pre Fp A')
  (hUx:∀ c pre Fp A A' row,Ux c pre Fp A->w.heap.size<=A.heap.size->A.grownBy A' row->(∀ r,row=some r->w.heap.size<=r/\¬ Fp r)->Ux c pre Fp A')
  (h0:U [] Fp0 w) (sl:Array Value->α->Nat->Array Value) (ob:α->Obj)
  (hassign:∀ (l:Nat) (x:α) (W:World) (K:Act->World->Prop),(∃ pre,Sp (pre ++ [x]))->K { tmps:=sl a.tmps x W.heap.size,defers:=[] } (W.alloc (ob x))->assign.wpIn (F.inRound l) (n-1-1) P (Exit.then K (fun _ _ _ => False)) { tmps:=(ps.zip (encs x)).foldl (fun t (p,v) => t.setIfInBounds p v) a.tmps,defers:=[] } W)
  (hbody:∀ (l:Nat) (pre:List α) (x:α) (Fp:Nat->Prop) (b:Nat) (W:World),U pre Fp W->w.heap.size<=W.heap.size->Sp (pre ++ [x])->(∃ A,U pre Fp A/\w.heap.size<=A.heap.size/\A.heap.size=b)->b<W.heap.size->W.heap[b]? = some (ob x)->body.wpIn (F.inRound l) (n-1-1) P (Left Fp U Ux (pre ++ [x]) W) { tmps:=sl a.tmps x b,defers:=[] } W)
  (hdone:∀ (d:Nat) (xs:List α) (Fp:Nat->Prop) (W:World),S xs->w.heap.size<=d->U xs Fp W->¬ Fp d->W.heap[d]? = some (.deferred (some []))->Q .normal { a with defers:={ target:=.collected d,args:=#[] } :: a.defers } W)
  (hstop:∀ (d:Nat) (c:Code) (pre:List α) (Fp:Nat->Prop) (W:World),Sp pre->w.heap.size<=d->Ux c pre Fp W->¬ Fp d->W.heap[d]? = some (.deferred (some []))->c.wpIn F n P Q { a with defers:={ target:=.collected d,args:=#[] } :: a.defers } W) :
  (Code.rangeFunc g ps assign body).wpIn F n P Q a w:=range_foot_new hro h1 hg hFg eg hseq hps hC U Ux Fp0 hFp0 hU hUx h0 (fun x b => { tmps:=sl a.tmps x b,defers:=[] }) ob hassign hbody hdone hstop
end Fo
end
section
open Go.RowKit
namespace Sl
theorem run_high {P:Program} (t e:TypeId) (q:Option Addr) (n c a:Nat) (hu:P.underlying t=some (.slice e)) (hsz:(P.info? e).isSome=true) (ha:a<=c) (w:World) :
  (Instr.slice t (.slice q n c) none (some (.int .i64 (a:Int))) none).run P w = .ok (.slice q a c) w:=by
 cases hi:P.info? e with
 | none => simp [hi] at hsz
 | some i =>
  unfold Instr.slice Instr.sliceBounds
  have e0:q.map (·.add 0)=q:=by cases q with
   | none => rfl
   | some x => simp [Addr.add]
  by_cases hc:c=0
  ·have h0:a=0:=by omega
   subst hc h0
   simp [run_underlying hu,run_sliceBound,sizeOf,typeInfo,hi,Sem.run_bind]
  ·simp [run_underlying hu,run_sliceBound,ha,sizeOf,typeInfo,hi,Sem.run_bind,hc,e0]
end Sl
end
end Go.Proofs.YtimhglmfckfclaaGreatDoor
