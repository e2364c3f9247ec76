/- Parts of the proof. -/
import Derived.Test.YtimhglmfckfclaaGreatDoorM28
set_option linter.unusedVariables false
set_option linter.unusedSimpArgs false
set_option maxRecDepth 100000
set_option maxHeartbeats 16000000
namespace Go.Proofs.YtimhglmfckfclaaGreatDoor
section
open Go.RowKit Go.Maps
namespace Fr
open Vw (Sess)
open Ex (Ent wo ExpAt)
section
variable {lo:Nat} {P:Pa} {st st1 st2:FS} {nw c d:Nat} {Fe:Nat->Prop} {w w' w'':World}
theorem flay_ok (h:ForAt lo P st nw Fe w) (hw:nw<=1099511627776) (s:Sess) (hi:thr s.slot=true) (hok:Ex.okE s.slot s.birth s.dl) (hfr:s.slot ∈ st.free) (s1:FS) (hc:addF { st with free:=st.free.erase s.slot,S:=put st.S s.slot ⟨true,false,-1,-1,-1,s⟩ } s.slot s.us s.ub=some s1) :
  Calls Tryz.prog 41 #[.pointer (some ⟨P.f,0,none⟩),.agg s.cells.toArray] w fun e w' => e = .returned .nilIface/\FoTo lo P { s1 with exp:=Ex.put (wo s1.exp s.slot) (s.slot,s.birth,s.dl) } 6 nw Fe w w':=by
 obtain ⟨W0,hW0⟩:∃ W0,W0=w.alloc (.cells s.cells.toArray 30):=⟨_,rfl⟩
 have hb0:Below w.heap.size w W0:=by rw [hW0];exact (Below.refl _ _).alloc (Nat.le_refl _) _
 have hr0:W0.heap[w.heap.size]? = some (.cells s.cells.toArray 30 (0,0)):=by rw [hW0];exact World.alloc_heap_new _ _
 have hf0:=h.below hb0
 have HNF:Hid (¬ Fo P Fe w.heap.size):=fun hf => by have:=(h.lt hf).2;exact absurd this (Nat.lt_irrefl _)
 have HPL:=zh (fun W (k:ForAt lo P st nw Fe W) => fplace k s.slot hi hfr)
 have HPUT:Hid (∀ W F,ForAt lo P { st with free:=st.free.erase s.slot } nw F W->Calls Tryz.prog 107 #[.pointer (some ⟨P.a,0,none⟩),.int .i64 s.slot,.agg (Slt.mk true false (-1) (-1) (-1) s).cells.toArray] W fun e w' => e = .returned .nilIface/\∃ F',ForAt lo P { st with free:=st.free.erase s.slot,S:=put st.S s.slot ⟨true,false,-1,-1,-1,s⟩ } (nw+1) F' w'/\ExpAt lo P.E nw st.exp F' w'/\Only (Fo P F) W w'/\∀ k,F' k->F k\/W.heap.size<=k):=fun W F k => by
  refine (aput_ok k.ar (by omega) s.slot hi ⟨true,false,-1,-1,-1,s⟩).mono ?_
  rintro e w' ⟨rfl,h1,h2⟩
  have hG:∀ k,k=P.a->k=P.a\/k=P.t:=fun k e => .inl e
  have hx:=k.ex.only h2 (fun j hj e => k.nf.2.1 (e ▸ hj))
  refine ⟨rfl,F,⟨(h2.block _ (k.lt (.inl rfl)).2 (fun e => k.ne.1.1 e)).trans k.row,h1,k.keepT h2 (fun e => k.ne.2.1 e.symm),k.keepG h2 (only_g k hG),hx.mono (Nat.le_succ _),k.ne,k.nf,k.lo4,Nat.le_trans k.los h2.size⟩,hx,h2.mono (fun _ _ e => .inr (.inl e)),fun _ hk => .inl hk⟩
 have HADD:Hid (∀ W F n,ForAt lo P { st with free:=st.free.erase s.slot,S:=put st.S s.slot ⟨true,false,-1,-1,-1,s⟩ } (nw+1) F W->n=nw->ExpAt lo P.E nw st.exp F W->Calls Tryz.prog 108 #[.pointer (some ⟨P.t,0,none⟩),.int .i64 s.slot,.agg #[.int .i64 s.us,.int .i64 s.ub]] W fun e w' => e = .returned .nilIface/\∃ n' F',nw+1<=n'/\n'<=nw+6/\ForAt lo P s1 n' F' w'/\ExpAt lo P.E nw s1.exp F' w'/\Only (Fo P F) W w'/\∀ k,F' k->F k\/W.heap.size<=k):=fun W F n k _ kx => by
  refine (fadd_exp k (by omega) s.slot s.us s.ub hc kx).mono ?_
  rintro e w' ⟨rfl,n',F',q1,q2,q3,q4,q5,q6⟩
  exact ⟨rfl,n',F',q1,by omega,q3,q4,q5,q6⟩
 have HSET:Hid (∀ W F n,ForAt lo P s1 n F W->nw+1<=n->ExpAt lo P.E nw s1.exp F W->Calls Tryz.prog 109 #[.pointer (some ⟨P.E,0,none⟩),.agg #[.int .i64 s.slot,.int .i64 s.birth],.int .i64 s.dl] W fun e w' => e = .returned .nilIface/\FoTo lo P { s1 with exp:=Ex.put (wo s1.exp s.slot) (s.slot,s.birth,s.dl) } 0 n F W w'):=fun W F n k hn kx => by
  obtain ⟨m,rfl⟩:∃ m,n=m+1:=⟨n-1,by omega⟩
  exact fset_at k (by omega) kx hw s.slot s.birth s.dl hok
 have HAT:=zh (fun W => at_sess s W)
 have HB0:=zh hb0;have HR0:=zh hr0;have HF0:=zh hf0
 clear hb0 hr0 hf0 h hi hok hfr hc hw
 obtain ⟨a1,a2,a3,a4,a5,a6,a7,a8,a9,a10,a11,a12⟩:=s
 simp only [Slt.cells] at HPL HPUT HADD HSET HAT
 simp only [Vw.Sess.cells] at hW0 HR0 HAT ⊢
 have HW0:=zh hW0
 have HSK:Hid (∀ W' n F s,ForAt lo P s n F W'->Only (Fo P Fe) W0 W'->W'.cell? ⟨P.f,2,none⟩=some (.pointer (some ⟨P.a,0,none⟩))/\W'.cell? ⟨P.f,3,none⟩=some (.pointer (some ⟨P.t,0,none⟩))/\W'.cell? ⟨P.f,5,none⟩=some (.pointer (some ⟨P.E,0,none⟩))/\W'.rangeAt w.heap.size 0 [.int .i64 a1,.int .i64 a2,.int .i64 a3,.int .i64 a4,.int .i64 a5,.string a6,.string a7,.int .u64 (a8:Int),.int .i64 a9,.int .i64 a10,.int .i64 a11,.int .i64 a12]/\W'.cell? ⟨w.heap.size,0,none⟩=some (.int .i64 a1)/\W'.cell? ⟨w.heap.size,2,none⟩=some (.int .i64 a3)/\W'.cell? ⟨w.heap.size,3,none⟩=some (.int .i64 a4)/\W'.cell? ⟨w.heap.size,10,none⟩=some (.int .i64 a11)):=fun W' n F s hf ho => by
  have hr:=(ho.block w.heap.size (zx HR0.out) HNF.out).trans HR0.out
  exact ⟨hf.ptrs.1,hf.ptrs.2.1,hf.ptrs.2.2.2,box_rng (cs:=[.int .i64 a1,.int .i64 a2,.int .i64 a3,.int .i64 a4,.int .i64 a5,.string a6,.string a7,.int .u64 (a8:Int),.int .i64 a9,.int .i64 a10,.int .i64 a11,.int .i64 a12]) hr,by rw [zc hr];rfl,by rw [zc hr];rfl,by rw [zc hr];rfl,by rw [zc hr];rfl⟩
 clear hW0
 go_enter Tryz.func41,Tryz.ntmps41
 go_wp2_with fail
 rw [<- HW0.out]
 have hf1:=HF0.out.drew
 have ho1:Only (Fo P Fe) W0 W0.drew:=(Only.refl _ _).drew
 have hn1:∀ k,Fe k->Fe k\/W0.heap.size<=k:=fun _ h => .inl h
 refine wp_region_held_drew (S:=fun W' => W'.cell? ⟨P.f,2,none⟩=some (.pointer (some ⟨P.a,0,none⟩))/\W'.cell? ⟨P.f,3,none⟩=some (.pointer (some ⟨P.t,0,none⟩))/\W'.cell? ⟨P.f,5,none⟩=some (.pointer (some ⟨P.E,0,none⟩))/\W'.rangeAt w.heap.size 0 [.int .i64 a1,.int .i64 a2,.int .i64 a3,.int .i64 a4,.int .i64 a5,.string a6,.string a7,.int .u64 (a8:Int),.int .i64 a9,.int .i64 a10,.int .i64 a11,.int .i64 a12]/\W'.cell? ⟨w.heap.size,0,none⟩=some (.int .i64 a1)/\W'.cell? ⟨w.heap.size,2,none⟩=some (.int .i64 a3)/\W'.cell? ⟨w.heap.size,3,none⟩=some (.int .i64 a4)/\W'.cell? ⟨w.heap.size,10,none⟩=some (.int .i64 a11)) (by kernel_rfl) (HSK.out _ _ _ _ hf1 ho1) (fun _ => ?_)
 refine tq 0 rfl (.pointer (some ⟨P.f,0,none⟩)) (HSK.out _ _ _ _ hf1 ho1) ?_
 try simp only [zq]
 refine tq 1 rfl (.pointer (some ⟨P.f,0,none⟩)) (HSK.out _ _ _ _ hf1 ho1) ?_
 try simp only [zq]
 refine tq 2 rfl (.pointer (some ⟨P.f,2,none⟩)) (HSK.out _ _ _ _ hf1 ho1) ?_
 try simp only [zq]
 refine tq 3 rfl (.pointer (some ⟨P.a,0,none⟩)) (HSK.out _ _ _ _ hf1 ho1) ?_
 try simp only [zq]
 refine tq 4 rfl (.pointer (some ⟨w.heap.size,0,none⟩)) (HSK.out _ _ _ _ hf1 ho1) ?_
 try simp only [zq]
 refine tq 5 rfl (.int .i64 a1) (HSK.out _ _ _ _ hf1 ho1) ?_
 try simp only [zq]
 refine zr 6 rfl (fun K hK => ?_)
 go_simp
 refine (HPL.out _ hf1).mono ?_
 rintro e w4 ⟨rfl,n4,F4,j1,j2,hf4,ho4,hn4⟩
 have e4:nw=n4:=by omega
 subst e4
 have hn4m:∀ k,F4 k->Fe k\/W0.heap.size<=k:=fun k hk => (hn4 k hk).elim (fun h => hn1 k h) (fun h => .inr (Nat.le_trans ho1.size h))
 replace ho1:=ho1.trans ho4 (fun i hi hF => by rcases hF with hF | hF | hF | hF | hF;exact .inl hF;exact .inr (.inl hF);exact .inr (.inr (.inl hF));exact .inr (.inr (.inr (.inl hF)));exact (hn1 i hF).elim (fun h => .inr (.inr (.inr (.inr h)))) (fun h => absurd hi (Nat.not_lt.2 h)))
 clear hf1 hn1
 have hf1:=hf4
 have hn1:=hn4m
 clear hf4 ho4 hn4 hn4m
 clear j1 j2
 refine hK.out _ _ (HSK.out _ _ _ _ hf1 ho1) (fun _ => ?_)
 clear hK K
 try simp only [zq]
 refine tq 7 rfl .nilIface (HSK.out _ _ _ _ hf1 ho1) ?_
 try simp only [zq]
 refine wpAnyH_done (by kernel_rfl) ?_ _
 try simp only [zq]
 go_wp2_with fail
 replace hf1:=hf1.drew
 replace ho1:=ho1.drew
 refine wp_region_held_drew (S:=fun W' => W'.cell? ⟨P.f,2,none⟩=some (.pointer (some ⟨P.a,0,none⟩))/\W'.cell? ⟨P.f,3,none⟩=some (.pointer (some ⟨P.t,0,none⟩))/\W'.cell? ⟨P.f,5,none⟩=some (.pointer (some ⟨P.E,0,none⟩))/\W'.rangeAt w.heap.size 0 [.int .i64 a1,.int .i64 a2,.int .i64 a3,.int .i64 a4,.int .i64 a5,.string a6,.string a7,.int .u64 (a8:Int),.int .i64 a9,.int .i64 a10,.int .i64 a11,.int .i64 a12]/\W'.cell? ⟨w.heap.size,0,none⟩=some (.int .i64 a1)/\W'.cell? ⟨w.heap.size,2,none⟩=some (.int .i64 a3)/\W'.cell? ⟨w.heap.size,3,none⟩=some (.int .i64 a4)/\W'.cell? ⟨w.heap.size,10,none⟩=some (.int .i64 a11)) (by kernel_rfl) (HSK.out _ _ _ _ hf1 ho1) (fun _ => ?_)
 refine tq 0 rfl (.pointer (some ⟨P.f,0,none⟩)) (HSK.out _ _ _ _ hf1 ho1) ?_
 try simp only [zq]
 refine tq 1 rfl (.pointer (some ⟨P.f,0,none⟩)) (HSK.out _ _ _ _ hf1 ho1) ?_
 try simp only [zq]
 refine tq 2 rfl (.pointer (some ⟨P.f,2,none⟩)) (HSK.out _ _ _ _ hf1 ho1) ?_
 try simp only [zq]
 refine tq 3 rfl (.pointer (some ⟨P.a,0,none⟩)) (HSK.out _ _ _ _ hf1 ho1) ?_
 try simp only [zq]
 refine tq 4 rfl (.pointer (some ⟨w.heap.size,0,none⟩)) (HSK.out _ _ _ _ hf1 ho1) ?_
 try simp only [zq]
 refine tq 5 rfl (.int .i64 a1) (HSK.out _ _ _ _ hf1 ho1) ?_
 try simp only [zq]
 refine tk 6 rfl (.agg #[.int .i64 a1,.int .i64 a2,.int .i64 a3,.int .i64 a4,.int .i64 a5,.string a6,.string a7,.int .u64 (a8:Int),.int .i64 a9,.int .i64 a10,.int .i64 a11,.int .i64 a12]) (fun wq hq => by obtain ⟨hq0,hq1,hq2,hq3,hq4,hq5,hq6,hq7⟩:=hq;exact St.exec_load 30 (.tmp 3) (by rfl) w.heap.size 0 (by rfl) [.int .i64 a1,.int .i64 a2,.int .i64 a3,.int .i64 a4,.int .i64 a5,.string a6,.string a7,.int .u64 (a8:Int),.int .i64 a9,.int .i64 a10,.int .i64 a11,.int .i64 a12] _ hq3 Tryz.underlying30 rfl (by kernel_rfl)) (HSK.out _ _ _ _ hf1 ho1) ?_
 try simp only [zq]
 refine tq 7 rfl (.agg #[.bool true,.bool false,.int .i64 (-1),.int .i64 (-1),.int .i64 (-1),.int .i64 a1,.int .i64 a2,.int .i64 a3,.int .i64 a4,.int .i64 a5,.string a6,.string a7,.int .u64 (a8:Int),.int .i64 a9,.int .i64 a10,.int .i64 a11,.int .i64 a12]) (HSK.out _ _ _ _ hf1 ho1) ?_
 try simp only [zq]
 refine zr 8 rfl (fun K hK => ?_)
 go_simp
 refine (HPUT.out _ _ hf1).mono ?_
 rintro e w5 ⟨rfl,F5,hf5,hx5,ho5,hn5⟩
 have hn5m:∀ k,F5 k->Fe k\/W0.heap.size<=k:=fun k hk => (hn5 k hk).elim (fun h => hn1 k h) (fun h => .inr (Nat.le_trans ho1.size h))
 replace ho1:=ho1.trans ho5 (fun i hi hF => by rcases hF with hF | hF | hF | hF | hF;exact .inl hF;exact .inr (.inl hF);exact .inr (.inr (.inl hF));exact .inr (.inr (.inr (.inl hF)));exact (hn1 i hF).elim (fun h => .inr (.inr (.inr (.inr h)))) (fun h => absurd hi (Nat.not_lt.2 h)))
 clear hf1 hn1
 have hf1:=hf5
 have hn1:=hn5m
 clear hf5 ho5 hn5 hn5m
 have hxp:=hx5
 clear hx5
 refine hK.out _ _ (HSK.out _ _ _ _ hf1 ho1) (fun _ => ?_)
 clear hK K
 try simp only [zq]
 refine tq 9 rfl .nilIface (HSK.out _ _ _ _ hf1 ho1) ?_
 try simp only [zq]
 refine wpAnyH_done (by kernel_rfl) ?_ _
 try simp only [zq]
 go_wp2_with fail
 replace hf1:=hf1.drew
 replace ho1:=ho1.drew
 replace hxp:=hxp.below ((Below.refl _ _).drew)
 refine wp_region_held_drew (S:=fun W' => W'.cell? ⟨P.f,2,none⟩=some (.pointer (some ⟨P.a,0,none⟩))/\W'.cell? ⟨P.f,3,none⟩=some (.pointer (some ⟨P.t,0,none⟩))/\W'.cell? ⟨P.f,5,none⟩=some (.pointer (some ⟨P.E,0,none⟩))/\W'.rangeAt w.heap.size 0 [.int .i64 a1,.int .i64 a2,.int .i64 a3,.int .i64 a4,.int .i64 a5,.string a6,.string a7,.int .u64 (a8:Int),.int .i64 a9,.int .i64 a10,.int .i64 a11,.int .i64 a12]/\W'.cell? ⟨w.heap.size,0,none⟩=some (.int .i64 a1)/\W'.cell? ⟨w.heap.size,2,none⟩=some (.int .i64 a3)/\W'.cell? ⟨w.heap.size,3,none⟩=some (.int .i64 a4)/\W'.cell? ⟨w.heap.size,10,none⟩=some (.int .i64 a11)) (by kernel_rfl) (HSK.out _ _ _ _ hf1 ho1) (fun _ => ?_)
 refine tq 0 rfl (.pointer (some ⟨P.f,0,none⟩)) (HSK.out _ _ _ _ hf1 ho1) ?_
 try simp only [zq]
 refine tq 1 rfl (.pointer (some ⟨P.f,0,none⟩)) (HSK.out _ _ _ _ hf1 ho1) ?_
 try simp only [zq]
 refine tq 2 rfl (.pointer (some ⟨P.f,3,none⟩)) (HSK.out _ _ _ _ hf1 ho1) ?_
 try simp only [zq]
 refine tq 3 rfl (.pointer (some ⟨P.t,0,none⟩)) (HSK.out _ _ _ _ hf1 ho1) ?_
 try simp only [zq]
 refine tq 4 rfl (.pointer (some ⟨w.heap.size,0,none⟩)) (HSK.out _ _ _ _ hf1 ho1) ?_
 try simp only [zq]
 refine tq 5 rfl (.int .i64 a1) (HSK.out _ _ _ _ hf1 ho1) ?_
 try simp only [zq]
 refine tq 6 rfl (.pointer (some ⟨w.heap.size,2,none⟩)) (HSK.out _ _ _ _ hf1 ho1) ?_
 try simp only [zq]
 refine tq 7 rfl (.agg #[.int .i64 a3,.int .i64 a4]) (HSK.out _ _ _ _ hf1 ho1) ?_
 try simp only [zq]
 refine zr 8 rfl (fun K hK => ?_)
 go_simp
 refine (HADD.out _ _ _ hf1 rfl hxp).mono ?_
 rintro e w6 ⟨rfl,n6,F6,m1,m2,hf6,hx6,ho6,hn6⟩
 have hn6m:∀ k,F6 k->Fe k\/W0.heap.size<=k:=fun k hk => (hn6 k hk).elim (fun h => hn1 k h) (fun h => .inr (Nat.le_trans ho1.size h))
 replace ho1:=ho1.trans ho6 (fun i hi hF => by rcases hF with hF | hF | hF | hF | hF;exact .inl hF;exact .inr (.inl hF);exact .inr (.inr (.inl hF));exact .inr (.inr (.inr (.inl hF)));exact (hn1 i hF).elim (fun h => .inr (.inr (.inr (.inr h)))) (fun h => absurd hi (Nat.not_lt.2 h)))
 clear hf1 hn1
 have hf1:=hf6
 have hn1:=hn6m
 clear hf6 ho6 hn6 hn6m
 clear hxp
 have hxp:=hx6
 clear hx6
 refine hK.out _ _ (HSK.out _ _ _ _ hf1 ho1) (fun _ => ?_)
 clear hK K
 try simp only [zq]
 refine tq 9 rfl .nilIface (HSK.out _ _ _ _ hf1 ho1) ?_
 try simp only [zq]
 refine wpAnyH_done (by kernel_rfl) ?_ _
 try simp only [zq]
 go_wp2_with fail
 replace hf1:=hf1.drew
 replace ho1:=ho1.drew
 replace hxp:=hxp.below ((Below.refl _ _).drew)
 refine wp_region_held_drew (S:=fun W' => W'.cell? ⟨P.f,2,none⟩=some (.pointer (some ⟨P.a,0,none⟩))/\W'.cell? ⟨P.f,3,none⟩=some (.pointer (some ⟨P.t,0,none⟩))/\W'.cell? ⟨P.f,5,none⟩=some (.pointer (some ⟨P.E,0,none⟩))/\W'.rangeAt w.heap.size 0 [.int .i64 a1,.int .i64 a2,.int .i64 a3,.int .i64 a4,.int .i64 a5,.string a6,.string a7,.int .u64 (a8:Int),.int .i64 a9,.int .i64 a10,.int .i64 a11,.int .i64 a12]/\W'.cell? ⟨w.heap.size,0,none⟩=some (.int .i64 a1)/\W'.cell? ⟨w.heap.size,2,none⟩=some (.int .i64 a3)/\W'.cell? ⟨w.heap.size,3,none⟩=some (.int .i64 a4)/\W'.cell? ⟨w.heap.size,10,none⟩=some (.int .i64 a11)) (by kernel_rfl) (HSK.out _ _ _ _ hf1 ho1) (fun _ => ?_)
 refine tq 0 rfl (.pointer (some ⟨P.f,0,none⟩)) (HSK.out _ _ _ _ hf1 ho1) ?_
 try simp only [zq]
 refine tq 1 rfl (.pointer (some ⟨P.f,0,none⟩)) (HSK.out _ _ _ _ hf1 ho1) ?_
 try simp only [zq]
 refine tq 2 rfl (.pointer (some ⟨P.f,5,none⟩)) (HSK.out _ _ _ _ hf1 ho1) ?_
 try simp only [zq]
 refine tq 3 rfl (.pointer (some ⟨P.E,0,none⟩)) (HSK.out _ _ _ _ hf1 ho1) ?_
 try simp only [zq]
 refine tk 4 rfl (.agg #[.int .i64 a1,.int .i64 a2,.int .i64 a3,.int .i64 a4,.int .i64 a5,.string a6,.string a7,.int .u64 (a8:Int),.int .i64 a9,.int .i64 a10,.int .i64 a11,.int .i64 a12]) (fun wq hq => by obtain ⟨hq0,hq1,hq2,hq3,hq4,hq5,hq6,hq7⟩:=hq;exact St.exec_load 30 (.tmp 3) (by rfl) w.heap.size 0 (by rfl) [.int .i64 a1,.int .i64 a2,.int .i64 a3,.int .i64 a4,.int .i64 a5,.string a6,.string a7,.int .u64 (a8:Int),.int .i64 a9,.int .i64 a10,.int .i64 a11,.int .i64 a12] _ hq3 Tryz.underlying30 rfl (by kernel_rfl)) (HSK.out _ _ _ _ hf1 ho1) ?_
 try simp only [zq]
 refine tq 6 rfl (.pointer (some ⟨w.heap.size,10,none⟩)) (HSK.out _ _ _ _ hf1 ho1) ?_
 try simp only [zq]
 refine tq 7 rfl (.int .i64 a11) (HSK.out _ _ _ _ hf1 ho1) ?_
 try simp only [zq]
 refine zr 5 rfl (fun K hK => ?_)
 go_simp
 refine (HAT.out _).mono ?_
 rintro e w7 ⟨rfl,hb7⟩
 replace hf1:=hf1.below hb7
 replace hxp:=hxp.below hb7
 replace ho1:=ho1.trans (Only.of_below (F:=fun _ => False) hb7) (fun _ _ h => h.elim)
 clear hb7
 refine hK.out _ _ (HSK.out _ _ _ _ hf1 ho1) (fun _ => ?_)
 clear hK K
 try simp only [zq]
 refine zr 8 rfl (fun K hK => ?_)
 go_simp
 refine (HSET.out _ _ _ hf1 m1 hxp).mono ?_
 rintro e w8 ⟨rfl,n8,F8,j1,j2,hf8,ho8,hn8⟩
 have hn8m:∀ k,F8 k->Fe k\/W0.heap.size<=k:=fun k hk => (hn8 k hk).elim (fun h => hn1 k h) (fun h => .inr (Nat.le_trans ho1.size h))
 replace ho1:=ho1.trans ho8 (fun i hi hF => by rcases hF with hF | hF | hF | hF | hF;exact .inl hF;exact .inr (.inl hF);exact .inr (.inr (.inl hF));exact .inr (.inr (.inr (.inl hF)));exact (hn1 i hF).elim (fun h => .inr (.inr (.inr (.inr h)))) (fun h => absurd hi (Nat.not_lt.2 h)))
 clear hf1 hn1
 have hf1:=hf8
 have hn1:=hn8m
 clear hf8 ho8 hn8 hn8m
 refine hK.out _ _ (HSK.out _ _ _ _ hf1 ho1) (fun _ => ?_)
 clear hK K
 try simp only [zq]
 refine tq 9 rfl .nilIface (HSK.out _ _ _ _ hf1 ho1) ?_
 try simp only [zq]
 refine wpAnyH_done (by kernel_rfl) ?_ _
 try simp only [zq]
 have HE:Hid (FoTo lo P { s1 with exp:=Ex.put (wo s1.exp a1) (a1,a2,a11) } 6 nw Fe w w8):=FoTo.pre HB0.out ⟨n8,F8,by omega,by omega,hf1,ho1,hn1⟩
 clear hf1 ho1 hn1 hxp
 go_wp2
 go_ret
 exact ⟨rfl,HE.out⟩
end
end Fr
end
end Go.Proofs.YtimhglmfckfclaaGreatDoor
