/- Parts of the proof. -/
import Derived.Test.YtimhglmfckfclaaGreatDoorM36
import Derived.Test.YtimhglmfckfclaaGreatDoorM39
import Derived.Sort.CutIn
import Derived.KernelRfl
set_option linter.unusedVariables false
set_option linter.unusedSimpArgs false
set_option maxRecDepth 100000
set_option maxHeartbeats 16000000
namespace Go.Proofs.YtimhglmfckfclaaGreatDoor
section
open Go.RowKit Go.Maps Go.Shelf
namespace Fo
variable {F:Fence} {n:Nat} {P:Program}
theorem range_foot_in_bl {α:Type} {g:Operand} {ps:Array Tmp} {assign body:Code} {Q:Exit->Act->World->Prop} {a:Act} {w w0:World}
  {l₀:Nat} {r₀:Loop} (hro:F.round=some l₀) (hl₀:w.heap[l₀]? = some (.loop r₀)) (h1:1<=n) {gf:Nat} {lb:Array Value} (hg:a.eval g = .func (.func gf) #[] lb) (hFg:F.fn gf) (eg:∀ args w,(callFunc gf args).run P w = .ok (.enter gf args) w)
  {encs:α->Array Value} {S Sp:List α->Prop} {C:Nat->Prop} (hseq:SeqF F (n-1) P gf lb encs S Sp C w0) (hps:∀ x,(encs x).size=ps.size) (hC:∀ b,C b->b<w.heap.size/\w.heap[b]? = w0.heap[b]?)
  (U:List α->(Nat->Prop)->World->Prop) (Ux:Code->List α->(Nat->Prop)->World->Prop) (Fp0:Nat->Prop) (hFp0:∀ b,Fp0 b->b<w.heap.size/\¬ C b)
  (hU:∀ pre Fp A A' row,U pre Fp A->w.heap.size<=A.heap.size->A.grownBy A' row->(∀ r,row=some r->w.heap.size<=r/\¬ Fp r)->U pre Fp A')
  (hUx:∀ c pre Fp A A' row,Ux c pre Fp A->w.heap.size<=A.heap.size->A.grownBy A' row->(∀ r,row=some r->w.heap.size<=r/\¬ Fp r)->Ux c pre Fp A')
  (h0:U [] Fp0 w) (sl:Array Value->α->Nat->Array Value) (ob:α->Obj)
  (hassign:∀ (l:Nat) (x:α) (W:World) (K:Act->World->Prop),(∃ pre,Sp (pre ++ [x]))->K { tmps:=sl a.tmps x W.heap.size,defers:=[] } (W.alloc (ob x))->assign.wpIn (F.inRound l) (n-1-1) P (Exit.then K (fun _ _ _ => False)) { tmps:=(ps.zip (encs x)).foldl (fun t (p,v) => t.setIfInBounds p v) a.tmps,defers:=[] } W)
  (hbody:∀ (l:Nat) (pre:List α) (x:α) (Fp:Nat->Prop) (b:Nat) (W:World),U pre Fp W->w.heap.size<=W.heap.size->Sp (pre ++ [x])->(∃ A,U pre Fp A/\w.heap.size<=A.heap.size/\A.heap.size=b)->b<W.heap.size->W.heap[b]? = some (ob x)->body.wpIn (F.inRound l) (n-1-1) P (Left Fp U Ux (pre ++ [x]) W) { tmps:=sl a.tmps x b,defers:=[] } W)
  (hdone:∀ (xs:List α) (Fp:Nat->Prop) (W:World),S xs->w.heap.size<=W.heap.size->U xs Fp W->Q .normal a W)
  (hstop:∀ (c:Code) (pre:List α) (Fp:Nat->Prop) (W:World),Sp pre->w.heap.size<=W.heap.size->Ux c pre Fp W->c.wpIn F n P Q a W) :
  (Code.rangeFunc g ps assign body).wpIn F n P Q a w :=
 range_foot_in hro hl₀ h1 hg hFg eg hseq hps hC U Ux Fp0 hFp0 hU hUx h0 (fun x b => { tmps:=sl a.tmps x b,defers:=[] }) ob hassign hbody hdone hstop
end Fo
namespace Fr
open Vw (Sess)
open Ex (Ent wo ExpAt)
attribute [local go_sem] Oper.semAt_some
def FStatePost (st:FS) (w:World) (e:Ending) (w':World):Prop :=
 (∃ v,e = .returned (.agg #[.int .i64 st.clock,.int .i64 st.births,v])/\w'.ownsRow w.heap.size 30 12 v (stateF st).length (allC (stateF st)))/\Below w.heap.size w w'
section
variable {lo:Nat} {P:Pa} {st st1 st2:FS} {nw c d:Nat} {Fe:Nat->Prop} {w w' w'':World}
theorem IsN.raw_len {A:List Sess} (h:IsN st A):(rawState st).length<=32:=by
 obtain ⟨h1,h2⟩:=h.raw
 have hn:((rawState st).map (·.birth)).Nodup:=by rw [List.nodup_iff_pairwise_ne,List.pairwise_map];exact h2
 have hl:=nodup_le hn (m:=A.map (·.birth)) (fun x hx => by
  obtain ⟨s,hs,rfl⟩:=List.mem_map.1 hx
  exact List.mem_map.2 ⟨s,(h1 s).1 hs,rfl⟩)
 have:=h.count.1
 simp only [List.length_map] at hl
 omega
theorem fstate {A0:List Sess} (h:ForAt lo P st nw Fe w) (hI:IsN st A0) :
  Calls Tryz.prog 13 #[.pointer (some ⟨P.f,0,none⟩)] w (FStatePost st w):=by
 obtain ⟨CL,hCL⟩:∃ CL,CL=st.clock:=⟨_,rfl⟩
 obtain ⟨BI,hBI⟩:∃ BI,BI=st.births:=⟨_,rfl⟩
 obtain ⟨gf,hgf⟩:∃ gf:Int->List Sess,gf=fun i => underF st (sl st.S i).s.slot (sl st.S i).s.birth:=⟨_,rfl⟩
 obtain ⟨R,hR⟩:∃ R,R=allL st.S st.roots:=⟨_,rfl⟩
 have hraw:R.flatMap gf=rawState st:=by rw [hR,hgf];rfl
 have hrl:(R.flatMap gf).length<=32:=by rw [hraw];exact hI.raw_len
 have hst:sortB (R.flatMap gf)=stateF st:=by rw [hraw];rfl
 have hdis:(R.flatMap gf).Pairwise fun a b => a.birth≠b.birth:=by rw [hraw];exact hI.raw.2
 have hrt:RingAt st.S st.roots R/\(∀ x ∈ R,thr x=true)/\R.Nodup:=by
  obtain ⟨R',G,K,pl,hw,_,_⟩:=hI
  have e:allL st.S st.roots=R':=hw.sh.rR.all (fun x hx => ((hw.sh.rmem x).1 hx).1) hw.sh.rnd
  rw [hR,e]
  exact ⟨hw.sh.rR,fun x hx => ((hw.sh.rmem x).1 hx).1,hw.sh.rnd⟩
 obtain ⟨W1,hW1⟩:∃ W1,W1=(w.alloc (.cells #[.pointer (some ⟨P.f,0,none⟩)] 35)).alloc (.cells #[.int .i64 0,.int .i64 0,.slice none 0 0] 24):=⟨_,rfl⟩
 have hs1:W1.heap.size=w.heap.size+2:=by rw [hW1,World.size_alloc,World.size_alloc]
 have hb1:Below w.heap.size w W1:=by rw [hW1];exact ((Below.refl _ _).alloc (Nat.le_refl _) _).alloc (by simp) _
 have hx0:Boxed W1 w.heap.size 35 (.pointer (some ⟨P.f,0,none⟩)):=by rw [hW1];exact (Boxed.new _ _ _).alloc _
 have hR1:W1.heap[w.heap.size+1]? = some (.cells #[.int .i64 0,.int .i64 0,.slice none 0 0] 24 (0,0)):=by
  have:=World.alloc_heap_new (w.alloc (.cells #[.pointer (some ⟨P.f,0,none⟩)] 35)) (.cells #[.int .i64 0,.int .i64 0,.slice none 0 0] 24)
  rw [World.size_alloc] at this
  rw [hW1];exact this
 obtain ⟨W2,hW2⟩:∃ W2,W2=W1.drew.alloc (.cells #[.int .i64 CL,.int .i64 BI,.slice none 0 0] 24):=⟨_,rfl⟩
 have hg2:GR 24 30 12 (fun v => #[.int .i64 CL,.int .i64 BI,v]) (w.heap.size+2) (w.heap.size+3) W1.drew (.slice none 0 0) 0 [] (fun b => b=w.heap.size+2) W2:=by
  have:=GR.start (t:=24) (e:=30) (size:=12) (cs:=fun v => #[.int .i64 CL,.int .i64 BI,v]) W1.drew
  rw [show W1.drew.heap.size=w.heap.size+2 from hs1] at this
  rw [hW2];exact this
 obtain ⟨n0,n1⟩:=(h.below hb1).nums
 rw [<- hCL] at n0;rw [<- hBI] at n1
 have c0:=hx0.cell
 have al:∀ (o:Obj) (b k:Nat) (v:Value),b<W1.heap.size->W1.cell? ⟨b,k,none⟩=some v->(W1.alloc o).cell? ⟨b,k,none⟩=some v:=fun o b k v hl hc => (Below.cell (p:=⟨b,k,none⟩) ((Below.refl W1.heap.size W1).alloc (Nat.le_refl _) o) hl).trans hc
 have q0:=fun o => al o _ _ _ hx0.lt c0
 have q1:=fun o => al o _ _ _ ((h.below hb1).lt (.inl rfl)).2 n0
 have q2:=fun o => al o _ _ _ ((h.below hb1).lt (.inl rfl)).2 n1
 have hb12:Below W1.heap.size W1 W2:=by rw [hW2];exact ((Below.refl _ _).drew).alloc (Nat.le_refl _) _
 have HCF:Hid (∀ A,Below (w.heap.size+2) W1.drew A->A.cell? ⟨w.heap.size,0,none⟩=some (.pointer (some ⟨P.f,0,none⟩))/\ForAt lo P st nw Fe A/\Below w.heap.size w A/\A.heap[w.heap.size+1]? = some (.cells #[.int .i64 0,.int .i64 0,.slice none 0 0] 24 (0,0))):=fun A hb => by
  have hbA:Below w.heap.size w A:=hb1.drew.trans (hb.mono (by omega))
  exact ⟨Boxed.cell (t:=35) ((hb.block _ (by omega)).trans hx0),h.below hbA,hbA,(hb.block _ (by omega)).trans hR1⟩
 have HROOT:Hid (∀ W,ForAt lo P st nw Fe W->Calls Tryz.prog 48 #[.pointer (some ⟨P.t,0,none⟩)] W (AllPost R W)):=fun W h => roots_any h.tr h.ar hrt.1 hrt.2.1 hrt.2.2
 have HTH:=zh hrt.2.1
 have HRD:Hid (R.length<=32):=nodup_len32 hrt.2.2 hrt.2.1
 have HUNDER:Hid (∀ (i:Int) W,ForAt lo P st nw Fe W->Calls Tryz.prog 20 #[.pointer (some ⟨P.f,0,none⟩),.agg #[.int .i64 (sl st.S i).s.slot,.int .i64 (sl st.S i).s.birth]] W (FUndPost (gf i) W)):=fun i W h => by
  rw [hgf];exact funder_any h hI _ _
 have HFIN:Hid (∀ v,Ending.returned (.agg #[.int .i64 CL,.int .i64 BI,v]) = .returned (.agg #[.int .i64 st.clock,.int .i64 st.births,v])):=fun v => by rw [hCL,hBI]
 have HRL:=zh hrl;have HST:=zh hst;have HDIS:=zh hdis
 have HG2:=zh hg2;have HS1:=zh hs1;have HW1:=zh hW1;have HB1:=zh hb1
 have HW2:Hid (W2=(W1.alloc (.cells #[.int .i64 CL,.int .i64 BI,.slice none 0 0] 24)).drew):=hW2
 obtain ⟨i0,hi,hz0,hz1,hz2⟩:=info_parts finfo_sess
 clear al
 clear h hI hCL hBI hgf hR hraw hrl hst hdis hrt hs1 hb1 hx0 hR1 hg2 hb12 hW1 hW2
 refine (callsIn_wide (n:=9)).1 ?_
 refine callsIn_of_wp_marks Tryz.func13 rfl trivial ?_ rfl
 simp only [Tryz.ntmps13,List.size_toArray,List.length_cons,List.length_nil,Nat.reduceAdd,Nat.reduceSub,Array.replicate_succ,Array.replicate_zero,List.push_toArray,List.append_toArray,List.nil_append,List.cons_append]
 refine wpIn_wide.2 ?_
 go_upto_region 1 with fail
 rw [<- HW1.out]
 refine only_normal ?_
 go_region
 rw [<- HW2.out,HS1.out]
 obtain ⟨k1,k2,k3,-⟩:=HCF.out W2 HG2.out.bel
 have c3:=k2.ptrs.2.1
 have HRT:=zh (HROOT.out W2 k2)
 clear n0 n1 c0 q0 q1 q2 k2 k3
 go_wp2_with fail
 refine HRT.out.mono ?_
 rintro e w3 ⟨⟨bx,v,rfl,e1,e2,e3⟩,hb3⟩
 have hs2:W2.heap.size=w.heap.size+3:=by rw [HW2.out];show (W1.alloc _).heap.size=_;rw [World.size_alloc,HS1.out]
 have hg3:=HG2.out.after hb3
 have HBX:=zh (show w.heap.size+3<=bx/\bx<w3.heap.size from ⟨by omega,e2.lt⟩)
 have HUX:=zh (fun b (e:v.ownBlock=some b) => e3.lt b e)
 have HSEQ:=zh (all_seq 8 bx v R (by have:=HRD.out;omega) (fun b => b=bx\/v.ownBlock=some b) w3 (gathered e2 e3))
 have HG3:=zh hg3
 clear e1 e2 e3 hb3 hs2 hg3 k1 c3 HRT
 go_wp2_with fail
 refine (wpIn_wide (n:=9)).1 ?_
 refine Fo.range_foot_own_sl (F:=Fence.wide) (n:=9) rfl (by omega) (gf:=193) (lb:=#[.pointer (some ⟨bx,0,none⟩)]) rfl trivial (enters_of Tryz.func193 (by kernel_rfl) rfl)
  HSEQ.out (fun _ => rfl) (fun b hb => ⟨by rcases hb with rfl | hb;exact HBX.out.2;exact (HUX.out b hb).2,rfl⟩)
  (fun pre Fp A => ∃ d,GR 24 30 12 (fun v => #[.int .i64 CL,.int .i64 BI,v]) (w.heap.size+2) (w.heap.size+3) W1.drew d (pre.flatMap gf).length (allC (pre.flatMap gf)) Fp A) (fun c pre Fp A => False)
  (fun b => b=w.heap.size+2)
  (fun b hb => ⟨by have h1:=HBX.out;omega,fun h => by
   have h1:=HBX.out
   rcases h with h | h
   ·omega
   ·have:=(HUX.out _ h).1;omega⟩)
  ?hU (fun _ _ _ _ _ _ h _ _ _ => h) ⟨_,HG3.out⟩ (fun T x => (T.setIfInBounds 22 (.int .i64 x)).setIfInBounds 4 (.int .i64 x)) ?assign ?body ?done (fun _ _ _ _ _ _ _ h _ _ => h.elim)
 case hU =>
  rintro pre Fp A A' row ⟨d,h1⟩ hsz hg hrow
  exact ⟨d,h1.turn hg (fun r e => ⟨by have:=(hrow r e).1;have h1:=HBX.out;omega,(hrow r e).2⟩)⟩
 case assign =>
  intro l2 x A K2 hK
  unfold encI
  gi_wp2
  exact hK
 case body =>
  rintro l2 pre x Fp A ⟨d,hu⟩ hszA hpre ⟨hl1,hl2,r0,hl3⟩
  obtain ⟨cF,hfA,hbA,-⟩:=HCF.out A hu.bel
  have hx:x ∈ R:=hpre.subset (by simp)
  have HG:=zh (fget hfA x (HTH.out x hx))
  have cA:=hfA.ptrs.1
  obtain ⟨sx,hsx⟩:∃ sx,sx=sl st.S x:=⟨_,rfl⟩
  obtain ⟨zs,hzs⟩:∃ zs,zs=sx.cells:=⟨_,rfl⟩
  have HZL:Hid (zs.length=17):=by show _=_;rw [hzs];rfl
  have HZ1:Hid (∀ u ∈ zs,u.oneCell'=true):=by show ∀ _,_;rw [hzs];exact sx.one
  rw [<- hsx,<- hzs] at HG
  obtain ⟨ys,hys⟩:∃ ys,ys=sx.s.cells:=⟨_,rfl⟩
  have HYL:Hid (ys.length=12):=by show _=_;rw [hys];rfl
  have HATS:Hid (∀ W,Calls Tryz.prog 49 #[.agg ys.toArray] W fun e w' => e = .returned (.agg #[.int .i64 sx.s.slot,.int .i64 sx.s.birth])/\Below W.heap.size W w'):=fun W => by rw [hys];exact at_sess _ W
  have HUN:Hid (∀ W,ForAt lo P st nw Fe W->Calls Tryz.prog 20 #[.pointer (some ⟨P.f,0,none⟩),.agg #[.int .i64 sx.s.slot,.int .i64 sx.s.birth]] W (FUndPost (gf x) W)):=fun W h => by rw [hsx];exact HUNDER.out x W h
  have HLEN:Hid ((pre.flatMap gf).length+(gf x).length<=32):=by
   show _<=_
   obtain ⟨t,ht⟩:=hpre
   have:=HRL.out
   rw [<- ht] at this
   simp only [List.flatMap_append,List.length_append,List.flatMap_cons,List.flatMap_nil,List.append_nil] at this
   omega
  have HSNOC:Hid ((pre ++ [x]).flatMap gf=pre.flatMap gf ++ gf x):=by show _=_;simp
  obtain ⟨PL,hPL⟩:∃ PL,PL=pre.flatMap gf:=⟨_,rfl⟩
  rw [<- hPL] at hu HLEN HSNOC
  obtain ⟨gx,hgx⟩:∃ gx,gx=gf x:=⟨_,rfl⟩
  rw [<- hgx] at HUN HLEN HSNOC
  have HU:=zh hu;have HFA:=zh hfA
  have HL2:=zh (And.intro hl1 (And.intro hl2 hl3))
  have HZS:=zh hzs;have HYS:=zh hys
  have hl2s:=(zx hl3)
  have HL2S:=zh hl2s
  clear hu hszA hpre hl1 hl2 hl3 hfA hbA hx hsx hzs hys hPL hgx hl2s
  gi_wp2_with fail
  refine ⟨trivial,(CallsIn.inRound _ (callsIn_wide.2 HG.out)).mono ?_⟩
  rintro e w4 ⟨rfl,hb4⟩
  obtain ⟨W5,hW5⟩:∃ W5,W5=w4.alloc (.cells zs.toArray 115):=⟨_,rfl⟩
  obtain ⟨b5,hbq⟩:∃ b5,b5=w4.heap.size:=⟨_,rfl⟩
  have hb5:Below A.heap.size A W5:=by rw [hW5];exact hb4.alloc hb4.size _
  have hr5:W5.heap[b5]? = some (.cells zs.toArray 115 (0,0)):=by rw [hW5,hbq];exact World.alloc_heap_new _ _
  have HSK:Hid (∀ W',Below W5.heap.size W5 W'->W'.cell? ⟨w.heap.size,0,none⟩=some (.pointer (some ⟨P.f,0,none⟩))/\W'.rangeAt b5 5 ys):=fun W' hb => by
   have hr:=(hb.block _ (zx hr5)).trans hr5
   have hu':=(HU.out.after hb5).after hb
   refine ⟨(HCF.out W' hu'.bel).1,?_⟩
   rw [HYS.out]
   exact slot_sess (by rw [<- HZS.out];exact hr)
  have HB5:=zh hb5;have HW5:=zh hW5;have HBQ:=zh hbq
  clear hb4 hb5 hr5 hW5 hbq cF cA
  gi_upto_region 6 with (refine Ag.wpListIn_store_new (by rfl) 115 (.tmp 5) (.tmp 30) (by rfl) zs (by rfl) (by rfl) (by rw [HZL.out];kernel_rfl) (by rw [HZL.out];rfl) HZ1.out ?_)
  rw [<- HW5.out,<- HBQ.out]
  have hbk:Below W5.heap.size W5 W5.drew:=(Below.refl _ _).drew
  refine Mu.region_round (S:=fun W' => W'.cell? ⟨w.heap.size,0,none⟩=some (.pointer (some ⟨P.f,0,none⟩))/\W'.rangeAt b5 5 ys) (by kernel_rfl) ?_ ?_ ?_ (fun hHeld => ?_)
  ·rintro ⟨a,w',h⟩;exact h
  ·intro o ho c hc;simp at ho;rcases ho with rfl | rfl | rfl | rfl | rfl <;> cases hc
  ·exact HSK.out _ hbk
  refine Mu.take_some (i:=0) (k:=34) (v:=.pointer (some ⟨P.f,0,none⟩)) rfl rfl (by kernel_rfl) (by kernel_rfl) (by kernel_rfl) (fun _ _ _ h => h) (Or.inl ⟨by rfl,fun wq hq => by obtain ⟨q1,q2⟩:=hq;go_simp⟩) (HSK.out _ hbk) ?_
  simp only [List.set_cons_succ,List.set_cons_zero]
  refine Mu.take_some (i:=1) (k:=35) (v:=.pointer (some ⟨b5,5,none⟩)) rfl rfl (by kernel_rfl) (by kernel_rfl) (by kernel_rfl) (fun _ _ _ h => h) (Or.inl ⟨by rfl,fun wq hq => by obtain ⟨q1,q2⟩:=hq;go_simp⟩) (HSK.out _ hbk) ?_
  simp only [List.set_cons_succ,List.set_cons_zero]
  refine Mu.take_some (i:=2) (k:=36) (v:=.agg ys.toArray) rfl rfl (by kernel_rfl) (by kernel_rfl) (by kernel_rfl) (fun _ _ _ h => h) (Or.inl ⟨by rfl,fun wq hq => by obtain ⟨q1,q2⟩:=hq;exact St.exec_load 30 (.tmp 35) (by rfl) b5 5 (by rfl) ys _ q2 Tryz.underlying30 rfl (by rw [HYL.out];kernel_rfl)⟩) (HSK.out _ hbk) ?_
  simp only [List.set_cons_succ,List.set_cons_zero]
  refine Mu.call_step (i:=3) (k:=37) rfl rfl (by kernel_rfl) (by rfl) (by go_simp;exact ⟨rfl,rfl⟩) ?_
  refine (HATS.out _).mono ?_
  rintro e w6 ⟨rfl,hb6⟩
  have hbk6:Below W5.heap.size W5 w6:=hbk.trans (hb6.mono hbk.size)
  refine ⟨_,rfl,HSK.out _ hbk6,fun hHeld => ?_⟩
  simp only [List.set_cons_succ,List.set_cons_zero]
  refine Mu.call_step (i:=4) (k:=38) rfl rfl (by kernel_rfl) (by rfl) (by go_simp;exact ⟨rfl,rfl⟩) ?_
  refine (HUN.out w6 (HFA.out.below (HB5.out.trans (hbk6.mono HB5.out.size)))).mono ?_
  rintro e w7 ⟨⟨bf,vf,rfl,f1,f2,f3⟩,hb7⟩
  have hbk7:Below W5.heap.size W5 w7:=hbk6.trans (hb7.mono hbk6.size)
  refine ⟨_,rfl,HSK.out _ hbk7,fun hHeld => ?_⟩
  simp only [List.set_cons_succ,List.set_cons_zero]
  refine wpAnyH_done (by kernel_rfl) ?_ _
  have HB7:Hid (Below A.heap.size A w7):=HB5.out.trans (hbk7.mono HB5.out.size)
  have HB6:Hid (Below A.heap.size A w6):=HB5.out.trans (hbk6.mono HB5.out.size)
  have HBF:=zh (And.intro f1 f2.lt)
  have HVF:=zh (fun b (e:vf.ownBlock=some b) => f3.lt b e)
  have HSEQ2:=zh (fun n => values_seq n bf vf gx (by have:=HLEN.out;omega) (fun b => b=bf\/vf.ownBlock=some b) w7 (gathered_s f2 f3))
  clear hbk hbk6 hbk7 hb6 hb7 f1 f2 f3
  gi_wp2_with fail
  refine Fo.range_foot_in_bl (F:=Fence.wide.inRound l2) (n:=9-1-1) (r₀:=r0) rfl ((HB7.out.block _ HL2S.out).trans HL2.out.2.2) (by omega) (gf:=127) (lb:=#[.pointer (some ⟨bf,0,none⟩)]) rfl trivial (enters_of Tryz.func127 (by kernel_rfl) rfl)
   ((HSEQ2.out _).inRound' l2) (fun _ => rfl) (fun b hb => ⟨by rcases hb with rfl | hb;exact HBF.out.2;exact (HVF.out b hb).2,rfl⟩)
   (fun pre2 Fp2 A2 => (∃ d,GR 24 30 12 (fun v => #[.int .i64 CL,.int .i64 BI,v]) (w.heap.size+2) (w.heap.size+3) W1.drew d (PL ++ pre2).length (allC (PL ++ pre2)) Fp2 A2)/\Only Fp A A2/\∀ b,Fp2 b->Fp b\/A.heap.size<=b) (fun _ _ _ _ => False) Fp
   (fun b hb => by
    have hlA:b<A.heap.size:=by
     rcases (HU.out.fp b).1 hb with e | e
     ·rw [e];exact HU.out.blt
     ·exact (HU.out.r1.lt b e).2
    have h6:=HB6.out.size
    refine ⟨Nat.lt_of_lt_of_le hlA HB7.out.size,fun h => ?_⟩
    rcases h with h | h
    ·have:=HBF.out.1;omega
    ·have:=(HVF.out b h).1;omega)
   ?hU2 (fun _ _ _ _ _ _ h _ _ _ => h) ⟨⟨_,by rw [List.append_nil];exact HU.out.after HB7.out⟩,Only.of_below HB7.out,fun b hb => .inl hb⟩
   (fun T y b => (T.setIfInBounds 39 (.agg y.cells.toArray)).setIfInBounds 7 (.pointer (some ⟨b,0,none⟩))) (fun y => .cells y.cells.toArray 30)
   ?assign2 ?body2 ?done2 (fun _ _ _ _ _ _ h => h.elim)
  case hU2 =>
   rintro pre2 Fp2 A2 A3 row ⟨⟨d2,h1⟩,h2,h3⟩ hsz hg hrow
   exact ⟨⟨d2,h1.turn hg (fun r e => ⟨by have:=(hrow r e).1;have:=HB7.out.size;have:=HU.out.blt;omega,(hrow r e).2⟩)⟩,h2.grown hg (fun k hk e => by have:=(hrow k e).1;have:=HB7.out.size;omega),h3⟩
  case assign2 =>
   rintro l3 y A2 K ⟨pre2,hpre2⟩ hK
   unfold encZ
   obtain ⟨ds,hds⟩:∃ ds,ds=y.cells:=⟨_,rfl⟩
   have HCL:Hid (ds.length=12):=by show _=_;rw [hds];rfl
   have HC1:Hid (∀ u ∈ ds,u.oneCell'=true):=by show ∀ _,_;rw [hds];exact sess_one' _
   rw [<- hds] at hK ⊢
   clear hds hpre2
   gi_wp2_with (refine Ag.wpListIn_store_new (by rfl) 30 (.tmp 7) (.tmp 39) (by rfl) ds (by rfl) (by rfl) (by rw [HCL.out];kernel_rfl) (by rw [HCL.out];rfl) HC1.out ?_)
   exact hK
  case body2 =>
   rintro l3 pre2 y Fp2 bb A2 ⟨⟨d2,hu2⟩,hon,hnew⟩ hszA2 hpre2 hold hbA hbb
   obtain ⟨ds,hds⟩:∃ ds,ds=y.cells:=⟨_,rfl⟩
   have HDL:Hid (ds.length=12):=by show _=_;rw [hds];rfl
   have HD1:Hid (∀ u ∈ ds,u.oneCell'=true):=by show ∀ _,_;rw [hds];exact sess_one' _
   have HRG:Hid (A2.rangeAt bb 0 ds):=fun i u hi => by
    rw [hds] at hi
    rw [zc hbb];simpa using hi
   have HAP:Hid (allC (PL ++ (pre2 ++ [y]))=allC (PL ++ pre2) ++ ds):=by show _=_;rw [<- List.append_assoc,allC_snoc,hds]
   obtain ⟨K,hK⟩:∃ K,K=(PL ++ pre2).length:=⟨_,rfl⟩
   have HLN:Hid ((PL ++ (pre2 ++ [y])).length=K+1):=by show List.length _=_;rw [hK];simp;omega
   have hlen:K+1<=32:=by
    have h1:=hpre2.length_le
    have h2:=HLEN.out
    rw [hK]
    simp only [List.length_append,List.length_singleton] at h1 ⊢
    omega
   obtain ⟨q1,r1,rfl,-⟩:=own_shape hu2.r1
   have hc1:A2.cell? ⟨w.heap.size+2,2,none⟩=some (.slice q1 K r1):=by rw [hu2.cell 2,hK];rfl
   have am1:K+1<=maxLen:=by unfold maxLen;omega
   have am3:(K+1) * 112<=140737488355328:=by omega
   have k3:w.heap.size+3<=(A2.alloc (.cells ds.toArray 30)).heap.size:=by have:=hu2.blt;simp;omega
   have hr1:=hu2.r1
   rw [<- hK] at hr1
   have HP1:=zh (fun (v1:Value) (w1:World) (o1:Obj) => GR.push (v:=v1) (w1:=w1) (o1:=o1) (m:=K+1) (ys:=allC (PL ++ pre2) ++ ds) hu2 2 rfl)
   have H1K:=zh hr1;have HKL:=zh hK;have HON:=zh hon;have HNW:=zh hnew
   clear hu2 hszA2 hpre2 hold hbA hbb hds hlen hr1 hK hon hnew
   gi_wp2_with (first
    | (refine Ag.wpListIn_load (by rfl) 30 _ (by rfl) _ _ (by rfl) ds _ HRG.out Tryz.underlying30 rfl (by rw [HDL.out];kernel_rfl) ?_)
    | (refine Ag.wpListIn_one (by rfl) 22 30 _ (by rfl) ds (by rfl) i0 _ Tryz.underlying22 hi hz0 (by rw [hz1];exact HDL.out) (by rw [hz1];decide) (by rw [hz1];decide) ?_)
    | (gi_at_builtin;(refine wpListIn_append_own_at _ rfl _ _ 22 rfl (w.heap.size+3) 30 i0 (.agg #[.int .i64 0,.int .i64 0,.int .i64 0,.int .i64 0,.int .i64 0,.string ByteArray.empty,.string ByteArray.empty,.int .u64 0,.int .i64 0,.int .i64 0,.int .i64 0,.int .i64 0]) 12 112 Tryz.underlying22 hi hz0 hz1 hz2 rfl (by decide) _ _ _ rfl (H1K.out.alloc _) ⟨A2.heap.size,0,none⟩ 1 1 ds rfl HDL.out (World.news_of_block (Ut.alloc_at _ _)) HD1.out am1 am3 k3 ?_);(intro v1 w1 hown' hgrow hnil hat;obtain ⟨q',r',rfl,-⟩:=own_shape hown';obtain ⟨hb1,-,Fp',hn1⟩:=HP1.out _ _ _ hown' (by rw [<- HKL.out];exact hgrow) (by rw [<- HKL.out];exact hat);(have hc1':w1.cell? ⟨w.heap.size+2,2,none⟩=some (.slice q1 K r1):=by rw [zc hb1,HKL.out];rfl);(have hf1:w1.frozen? ⟨w.heap.size+2,2,none⟩=false:=by simp [World.frozen?,hb1]);(have HN:=zh hn1);clear hown' hgrow hat hn1 hb1 hnil)))
   refine ⟨Fp',⟨⟨_,by rw [HLN.out,HAP.out];exact HN.out.1⟩,HON.out.trans HN.out.2.1 (fun i hi h2 => (HNW.out i h2).resolve_right (by omega)),fun b hb => ?_⟩,HN.out.2.1,HN.out.2.2⟩
   rcases HN.out.2.2 b hb with h2 | h2
   ·exact HNW.out b h2
   ·exact .inr (Nat.le_trans HON.out.size h2)
  case done2 =>
   rintro xs Fp2 A2 rfl hszA2 ⟨⟨d2,hu2⟩,hon,hnew⟩
   gi_wp2
   exact ⟨Fp2,⟨d2,by rw [HSNOC.out];exact hu2⟩,hon,hnew⟩
 case done =>
  rintro D3 ys Fp A rfl hD ⟨d,hu⟩ hnf hK
  obtain ⟨L,hL⟩:∃ L,L=ys.flatMap gf:=⟨_,rfl⟩
  rw [<- hL] at hu
  have hrl:L.length<=32:=by rw [hL];exact HRL.out
  have hdis:L.Pairwise fun a b => a.birth≠b.birth:=by rw [hL];exact HDIS.out
  have hst:sortB L=stateF st:=by rw [hL];exact HST.out
  have hsl:L.length=(stateF st).length:=by rw [<- hst,sortB_len hdis]
  obtain ⟨qd,rd,rfl,-⟩:=own_shape hu.r1
  have hc1:A.cell? ⟨w.heap.size+2,2,none⟩=some (.slice qd L.length rd):=by rw [hu.cell 2];rfl
  have HSRT:=zh (ssort_any _ _ L A hu.r1 (by omega) hdis)
  obtain ⟨N,hN⟩:∃ N,N=L.length:=⟨_,rfl⟩
  obtain ⟨-,-,hbA,hR1⟩:=HCF.out A hu.bel
  have HU:=zh hu;have HHD:=zh (And.intro hD (And.intro hnf hK));have HBA:=zh hbA;have HR1:=zh hR1
  have HST2:=zh hst;have HSL:=zh hsl
  clear hL hrl hdis hst hsl hu hD hnf hK hbA hR1 hN
  gi_wp2
  go_wp2_with fail
  refine HSRT.out.mono ?_
  rintro e w9 ⟨rfl,hr9,ho9⟩
  obtain ⟨hD,hnf,hK⟩:=HHD.out
  have hu:=HU.out
  have hob:∀ b,(Value.slice qd L.length rd).ownBlock=some b->w.heap.size+3<=b/\b<A.heap.size:=fun b e => hu.r1.lt b e
  have hDl:=(zx hK)
  have hrow9:w9.heap[w.heap.size+2]? = some (.cells #[.int .i64 CL,.int .i64 BI,.slice qd L.length rd] 24 (0,0)):=(ho9.block _ hu.blt (fun e => by have:=(hob _ e).1;omega)).trans hu.row
  have hr19:w9.heap[w.heap.size+1]? = some (.cells #[.int .i64 0,.int .i64 0,.slice none 0 0] 24 (0,0)):=(ho9.block _ (zx HR1.out) (fun e => by have:=(hob _ e).1;omega)).trans HR1.out
  have hK9:w9.heap[D3]? = some (.deferred (some [])):=(ho9.block _ hDl (fun e => hnf ((hu.fp D3).2 (.inr e)))).trans hK
  have hb9:Below w.heap.size w w9:=HBA.out.trans (ho9.below HBA.out.size (fun i hi e => by have:=(hob _ e).1;omega))
  obtain ⟨ds,hds⟩:∃ ds,ds=[Value.int .i64 CL,Value.int .i64 BI,Value.slice qd L.length rd]:=⟨_,rfl⟩
  obtain ⟨WF,hWF⟩:∃ WF,WF=World.setCells w9 (w.heap.size+1) 0 ds:=⟨_,rfl⟩
  have hoF:Only (fun b => b=w.heap.size+1) w9 WF:=by rw [hWF];exact only_cells _ _ _ (Only.refl _ _)
  have hRF:WF.heap[w.heap.size+1]? = some (.cells ds.toArray 24 (0,0)):=by
   have:=Ag.setCells_row (w.heap.size+1) 24 ds 0 _ w9 hr19
   rw [Ag.put_all (by rw [hds];rfl)] at this
   rw [hWF];exact this
  have HDL:Hid (ds.length=3):=by show _=_;rw [hds];rfl
  have HTH2:Hid (w9.there (w.heap.size+1) 0 ds.length):=Ag.there_row hr19 _ (by rw [hds];show 3<=3;decide)
  have HD1:Hid (∀ u ∈ ds,u.oneCell'=true):=by
   show ∀ u ∈ ds,_
   rw [hds]
   intro u hu
   simp only [List.mem_cons,List.not_mem_nil,or_false] at hu
   rcases hu with rfl | rfl | rfl <;> rfl
  have HDR:Hid (w9.rangeAt (w.heap.size+2) 0 ds):=fun i u hi => by
   rw [zc hrow9]
   rw [hds] at hi
   simpa using hi
  have hsz9:=ho9.size
  have hge:w.heap.size+2<D3:=by have:=HBX.out;omega
  have hg:=grownBy_putObj' WF D3 (.deferred none)
  have e0:(WF.putObj D3 (.deferred none)).heap[w.heap.size+1]? = some (.cells ds.toArray 24 (0,0)):=(hg.block _ (zx hRF) (fun e => by have:=Option.some.inj e;omega)).trans hRF
  have e1:(WF.putObj D3 (.deferred none)).ownsRow w.heap.size 30 12 (.slice qd L.length rd) (stateF st).length (allC (stateF st)):=by
   have hr:w9.ownsRow (w.heap.size+3) 30 12 (.slice qd L.length rd) (stateF st).length (allC (stateF st)):=by
    have hg:∀ n,L.length=n->w9.ownsRow (w.heap.size+3) 30 12 (.slice qd L.length rd) n (allC (stateF st)):=fun n e => by
     subst e
     rw [<- HST2.out];exact hr9
    exact hg _ HSL.out
   exact own_down (own_stay hr (fun b e => (hg.block b (Nat.lt_of_lt_of_le (hr.lt b e).2 hoF.size) (fun e2 => by have:=Option.some.inj e2;subst this;exact hnf ((hu.fp _).2 (.inr e)))).trans (hoF.block b (hr.lt b e).2 (by have:=(hr.lt b e).1;omega)))) (by omega)
  have e4:Below w.heap.size w (WF.putObj D3 (.deferred none)):=(hb9.trans (hoF.below (B:=w.heap.size) hb9.size (fun i hi e => by omega))).grown hg (by have:=hoF.size;have:=hb9.size;omega) (fun k e => by have:=Option.some.inj e;omega)
  have HK:Hid (WF.heap[D3]? = some (.deferred (some []))):=(hoF.block _ (Nat.lt_of_lt_of_le hDl hsz9) (by omega)).trans hK9
  have HE:=zh (And.intro e0 (And.intro e1 e4))
  have HWF:=zh hWF
  have HRE:Hid (Ending.returned (.agg ds.toArray) = .returned (.agg #[.int .i64 st.clock,.int .i64 st.births,.slice qd L.length rd])):=by
   show _=_
   rw [hds];exact HFIN.out _
  clear hr9 ho9 hD hnf hK hu hob hDl hrow9 hr19 hK9 hb9 hds hWF hoF hRF hsz9 hge hg e0 e1 e4
  go_wp2_with (first
   | (refine wpList_load_mid rfl 24 _ rfl _ _ rfl ds _ HDR.out Tryz.underlying24 rfl (by rw [HDL.out];kernel_rfl) ?_)
   | (refine wpList_store_mid (by rfl) 24 (.tmp 2) (.tmp 49) (by rfl) (w.heap.size+1) 0 ds.toArray (by rfl) (by rfl) (by rw [List.size_toArray];exact HTH2.out) (by rw [List.size_toArray,HDL.out];kernel_rfl) (all_oneCell_toArray HD1.out) ?_;rw [List.toList_toArray,<- HWF.out]))
  refine ⟨by simp,.inl ⟨_,_,rfl,run_takeDeferred (show WF.heap[D3]? = _ from HK.out),?_⟩⟩
  exact ⟨_,results_cell_row rfl _ _ (w.heap.size+1) _ _ (0,0) _ rfl HE.out.1 Tryz.underlying24 rfl (by rw [List.size_toArray,HDL.out];kernel_rfl),⟨_,HRE.out,HE.out.2.1⟩,HE.out.2.2⟩
end
end Fr
end
section
namespace Fr
open Vw (Sess)
def fromN (births:Int):List Sess->Int->FS->Option (Option FS)
 | [],_,st => some (some st)
 | s :: r,last,st => if mayS s=false\/s.birth<=last\/births<s.birth\/st.clock<s.born\/s.dl<=st.clock then some none else if mayF st s≠0 then some none else
  (layF st s).bind fun x => if x.2≠0 then some none else fromN births r s.birth x.1
def fromF (clock births:Int) (ss:List Sess):Option (Option FS) :=
 if clock<0\/1099511627776<clock\/births<0\/1048576<births\/32<ss.length then some none else fromN births ss 0 { newF with clock:=clock,births:=births }
theorem is_from {clock births:Int} (hc:0<=clock/\clock<=1099511627776) (hb:0<=births/\births<=1048576):Is { newF with clock:=clock,births:=births } []:=by
 obtain ⟨⟨R,G,K,pl,hw,hp,hm⟩,_⟩:=is_new
 refine ⟨⟨[],[],fun _ => [],fun _ => .fr,⟨wf_new.sh,{ wf_new.co with bir:=hb,may:=fun i hi hf => absurd rfl hf },by unfold tm;simpa using hc⟩,List.Pairwise.nil,fun s => ⟨fun h => (by cases h),fun ⟨i,_,h,_⟩ => absurd rfl h.nf.1⟩⟩,fun e he => (by cases he)⟩
end Fr
end
section
namespace Fr
open Vw (Sess)
namespace Fk
def two:Sess:=⟨1,2,0,1,1,annB,tvB,7,1,0,100,1⟩
def three:Sess:=⟨2,3,0,1,2,annB,tvB,7,2,0,10,1⟩
def k1:FS:=((bornF newF top1).getD (newF,0)).1
theorem b1:bornF newF top1=some (k1,0):=by kernel_rfl
theorem p2:planF k1 1 0 1 (askR 1 100)=some (k1,two,0):=by kernel_rfl
def k2:FS:=((bornF k1 two).getD (newF,0)).1
theorem b2:bornF k1 two=some (k2,0):=by kernel_rfl
theorem p3:planF k2 2 0 1 (askR 2 10)=some (k2,three,0):=by kernel_rfl
def k3:FS:=((bornF k2 three).getD (newF,0)).1
theorem b3:bornF k2 three=some (k3,0):=by kernel_rfl
theorem u3:underF k3 0 1=[top1,two,three]:=by kernel_rfl
theorem p4:planF k3 1 0 2 (askR 1 100)=some (k3,s0,16):=by kernel_rfl
theorem p5:planF k3 3 0 1 (askR 1 100)=some (k3,s0,1):=by kernel_rfl
theorem b4:bornF k3 top1=some (k3,18):=by kernel_rfl
def k4:FS:=((tickF k3 10).getD (newF,0)).1
theorem t1:tickF k3 10=some (k4,0):=by kernel_rfl
theorem k4_:(k4.clock,k4.births,k4.garb,k4.roots,k4.free)=(10,3,2,0,(List.range' 3 29).map Int.ofNat):=by kernel_rfl
theorem s4:stateF k4=[top1,two]:=by kernel_rfl
def k5:FS:=((revokeF k4 0 1).getD (newF,0)).1
theorem r1:revokeF k4 0 1=some (k5,0):=by kernel_rfl
theorem r2:revokeF k5 1 2=some (k5,16):=by kernel_rfl
def k6:FS:=((sweepF k5 1).getD (newF,0)).1
theorem w1:sweepF k5 1=some (k6,0):=by kernel_rfl
theorem w2:sweepF k6 (-1)=some (k6,20):=by kernel_rfl
theorem t2:tickF k6 (-1)=some (k6,12):=by kernel_rfl
theorem k6_:(k6.clock,k6.births,k6.free)=(10,3,2 :: (List.range' 3 29).map Int.ofNat):=by kernel_rfl
def k7:FS:=((sweepF k6 9).getD (newF,0)).1
theorem w3:sweepF k6 9=some (k7,0):=by kernel_rfl
theorem k7_:(k7.clock,k7.births,k7.garb,k7.roots,k7.free)=(10,3,-1,-1,1 :: 0 :: 2 :: (List.range' 3 29).map Int.ofNat):=by kernel_rfl
theorem s7:stateF k7=[]:=by kernel_rfl
end Fk
end Fr
end
end Go.Proofs.YtimhglmfckfclaaGreatDoor
