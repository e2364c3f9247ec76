/- Parts of the proof. -/
import Derived.Test.YtimhglmfckfclaaGreatDoorM35
set_option linter.unusedVariables false
set_option linter.unusedSimpArgs false
set_option maxRecDepth 100000
set_option maxHeartbeats 16000000
namespace Go.Proofs.YtimhglmfckfclaaGreatDoor
section
open Go.RowKit Go.Maps Go.Shelf
namespace Fr
open Vw (Sess)
open Ex (Ent wo ExpAt)
attribute [local go_sem] Oper.semAt_some
section
variable {lo:Nat} {P:Pa} {st st1 st2:FS} {nw c d:Nat} {Fe:Nat->Prop} {w w' w'':World}
theorem funder_yes (h:ForAt lo P st nw Fe w) (us ub:Int) (hl:lives st.S us ub=true) {K:Int->List Int} {G:Int->Prop} {d:Int->Nat} (hB:BelOk st.S K G d) (hG:G us) (hd:d us<=33) :
  Calls Tryz.prog 20 #[.pointer (some ⟨P.f,0,none⟩),.agg #[.int .i64 us,.int .i64 ub]] w (FUndPost (underF st us ub) w):=by
 have hund:underF st us ub=(underI st.S us).map fun i => (sl st.S i).s:=by unfold underF;rw [if_pos hl]
 rw [hund]
 obtain ⟨L,hL⟩:∃ L,L=underI st.S us:=⟨_,rfl⟩
 have hnd:SlotsNd L:=by
  rw [hL];unfold underI;rw [if_pos (hB.th us hG)]
  exact hB.slots 33 us [] hG ⟨List.nodup_nil,fun _ h => by cases h⟩
 rw [<- hL]
 obtain ⟨W2,hW2⟩:∃ W2,W2=(w.alloc (.cells #[.pointer (some ⟨P.f,0,none⟩)] 35)).alloc (.cells #[.int .i64 us,.int .i64 ub] 26):=⟨_,rfl⟩
 have hs2:W2.heap.size=w.heap.size+2:=by rw [hW2,World.size_alloc,World.size_alloc]
 have hb2:Below w.heap.size w W2:=by rw [hW2];exact ((Below.refl _ _).alloc (Nat.le_refl _) _).alloc (by simp) _
 have hx0:Boxed W2 w.heap.size 35 (.pointer (some ⟨P.f,0,none⟩)):=by rw [hW2];exact (Boxed.new _ _ _).alloc _
 have hx1:W2.heap[w.heap.size+1]? = some (.cells #[.int .i64 us,.int .i64 ub] 26 (0,0)):=by
  have:=World.alloc_heap_new (w.alloc (.cells #[.pointer (some ⟨P.f,0,none⟩)] 35)) (.cells #[.int .i64 us,.int .i64 ub] 26)
  rw [World.size_alloc] at this
  rw [hW2];exact this
 obtain ⟨W3,hW3⟩:∃ W3,W3=W2.alloc (.cells #[.slice none 0 0] 22):=⟨_,rfl⟩
 have hu3:GS 22 (w.heap.size+2) (w.heap.size+3) W2 (.slice none 0 0) [] (fun b => b=w.heap.size+2) W3:=by
  have:=GS.start (t:=22) W2
  rw [hs2] at this
  rw [hW3];exact this
 have hs3:W3.heap.size=w.heap.size+3:=by rw [hW3,World.size_alloc,hs2]
 have hb23:Below W2.heap.size W2 W3:=by rw [hW3];exact (Below.refl _ _).alloc (Nat.le_refl _) _
 have hb3:Below w.heap.size w W3:=hb2.trans (hb23.mono (by omega))
 have HSES:=zh (fsession (h.below hb3) us ub)
 have HSK:Hid (∀ W',Below W3.heap.size W3 W'->W'.cell? ⟨w.heap.size,0,none⟩=some (.pointer (some ⟨P.f,0,none⟩))/\W'.cell? ⟨P.f,3,none⟩=some (.pointer (some ⟨P.t,0,none⟩))/\W'.cell? ⟨w.heap.size+1,0,none⟩=some (.int .i64 us)):=fun W' hb => by
  have hb4:Below W2.heap.size W2 W':=hb23.trans (hb.mono hb23.size)
  exact ⟨Boxed.cell (t:=35) ((hb4.block _ hx0.lt).trans hx0),(h.below (hb3.trans (hb.mono hb3.size))).ptrs.2.1,by rw [zc ((hb4.block _ (zx hx1)).trans hx1)];rfl⟩
 have HW3:Hid (W3=((w.alloc (.cells #[.pointer (some ⟨P.f,0,none⟩)] 35)).alloc (.cells #[.int .i64 us,.int .i64 ub] 26)).alloc (.cells #[.slice none 0 0] 22)):=by show _=_;rw [hW3,hW2]
 have HU3:=zh hu3;have HS2:=zh hs2;have HS3:=zh hs3;have HB2:=zh hb2;have HB3:=zh hb3
 obtain ⟨cs,hcs⟩:∃ cs,cs=(sessionF st us ub).1.cells:=⟨_,rfl⟩
 have HCL:Hid (cs.length=12):=by show _=_;rw [hcs];rfl
 have HC1:Hid (∀ u ∈ cs,u.oneCell'=true):=by show ∀ _,_;rw [hcs];exact sess_one' _
 obtain ⟨no,hno⟩:∃ no,no=(sessionF st us ub).2:=⟨_,rfl⟩
 rw [<- hcs,<- hno] at HSES
 have hev:erV no = .nilIface:=by
  rw [hno];unfold sessionF;rw [hl];rfl
 rw [hev] at HSES
 have HUND:Hid (∀ W,Below w.heap.size w W->Calls Tryz.prog 61 #[.pointer (some ⟨P.t,0,none⟩),.int .i64 us] W (UndPost L W)):=fun W hb => by
  rw [hL];exact under_any hB (h.below hb).tr (h.below hb).ar us hG hd
 have HH:=zh h;have HND:=zh hnd
 obtain ⟨i0,hi,hz0,hz1,hz2⟩:=info_parts finfo_sess
 have HX0:Hid (∀ A,Below W2.heap.size W2 A->A.cell? ⟨w.heap.size,0,none⟩=some (.pointer (some ⟨P.f,0,none⟩))):=fun A hb => Boxed.cell (t:=35) ((hb.block _ hx0.lt).trans hx0)
 clear h hl hund hL hnd hB hG hd hW2 hs2 hb2 hx0 hx1 hW3 hu3 hs3 hb23 hb3 hcs hno hev
 refine (callsIn_wide (n:=9)).1 ?_
 refine callsIn_of_wp_marks Tryz.func20 rfl trivial ?_ rfl
 simp only [Tryz.ntmps20,List.size_toArray,List.length_cons,List.length_nil,Nat.reduceAdd,Nat.reduceSub,Array.replicate_succ,Array.replicate_zero,List.push_toArray,List.append_toArray,List.nil_append,List.cons_append]
 refine wpIn_wide.2 ?_
 go_wp2_with fail
 rw [<- HW3.out,show w.heap.size+1+1=w.heap.size+2 from rfl]
 refine HSES.out.mono ?_
 rintro e w4 ⟨rfl,hb4⟩
 obtain ⟨W5,hW5⟩:∃ W5,W5=w4.alloc (.cells cs.toArray 30):=⟨_,rfl⟩
 have hb5:Below W3.heap.size W3 W5:=by rw [hW5];exact hb4.alloc hb4.size _
 have HW5:=zh hW5;have HB5:=zh hb5
 clear hb4 hb5 hW5
 go_upto_region 4 with (first
  | (refine Ag.wpList_store_new (by rfl) 30 (.tmp 6) (.tmp 15) (by rfl) cs (by rfl) (by rfl) (by rw [HCL.out];kernel_rfl) (by rw [HCL.out];rfl) HC1.out ?_))
 rw [<- HW5.out]
 have hbk:Below W3.heap.size W3 W5.drew:=HB5.out.drew
 refine only_normal ?_
 refine wp_region_held_drew (S:=fun W' => W'.cell? ⟨w.heap.size,0,none⟩=some (.pointer (some ⟨P.f,0,none⟩))/\W'.cell? ⟨P.f,3,none⟩=some (.pointer (some ⟨P.t,0,none⟩))/\W'.cell? ⟨w.heap.size+1,0,none⟩=some (.int .i64 us)) (by kernel_rfl) (HSK.out _ hbk) (fun _ => ?_)
 refine tq 0 rfl (.pointer (some ⟨P.f,0,none⟩)) (HSK.out _ hbk) ?_
 try simp only [zq]
 refine tq 1 rfl (.pointer (some ⟨P.f,0,none⟩)) (HSK.out _ hbk) ?_
 try simp only [zq]
 refine tq 2 rfl (.pointer (some ⟨P.f,3,none⟩)) (HSK.out _ hbk) ?_
 try simp only [zq]
 refine tq 3 rfl (.pointer (some ⟨P.t,0,none⟩)) (HSK.out _ hbk) ?_
 try simp only [zq]
 refine tq 4 rfl (.pointer (some ⟨w.heap.size+1,0,none⟩)) (HSK.out _ hbk) ?_
 try simp only [zq]
 refine tq 5 rfl (.int .i64 us) (HSK.out _ hbk) ?_
 try simp only [zq]
 refine zr 6 rfl (fun K hK => ?_)
 go_simp
 refine (HUND.out _ (HB3.out.trans (hbk.mono HB3.out.size))).mono ?_
 rintro e w6 ⟨⟨bx,v,rfl,k1,k2,k3⟩,hb6⟩
 replace k1:W5.heap.size<=bx:=k1
 have HB6:Hid (Below W3.heap.size W3 w6):=hbk.trans (hb6.mono hbk.size)
 clear hb6
 refine hK.out _ _ (HSK.out _ HB6.out) (fun _ => ?_)
 clear hK K
 try simp only [zq]
 refine wpAnyH_done (by kernel_rfl) ?_ _
 try simp only [zq]
 obtain ⟨bx',hbx'⟩:∃ bx',bx'=bx:=⟨_,rfl⟩
 have hu6:=HU3.out.after HB6.out
 have HU6:=zh hu6
 have HBX:=zh (And.intro k1 k2.lt)
 have HUX:=zh (fun b (e:v.ownBlock=some b) => k3.lt b e)
 have HSEQ:=zh (und_seq 8 bx v L (by have:=HND.out.len;omega) (fun b => b=bx\/v.ownBlock=some b) w6 (gathered k2 k3))
 clear k1 k2 k3 hu6 hbk hbx'
 go_wp2_with fail
 refine (wpIn_wide (n:=9)).1 ?_
 refine Fo.range_foot_sl (F:=Fence.wide) (n:=9) rfl (by omega) (gf:=126) (lb:=#[.pointer (some ⟨bx,0,none⟩)]) rfl trivial (enters_of Tryz.func126 (by kernel_rfl) rfl)
  HSEQ.out (fun _ => rfl) (fun b hb => ⟨by rcases hb with rfl | hb;exact HBX.out.2;exact (HUX.out b hb).2,rfl⟩)
  (fun pre Fp A => ∃ d,GS 22 (w.heap.size+2) (w.heap.size+3) W2 d (pre.map fun i => (sl st.S i).s) Fp A) (fun c pre Fp A => False)
  (fun b => b=w.heap.size+2)
  (fun b hb => ⟨by have h1:=HBX.out;have h2:=HS3.out;have h3:=HB5.out.size;omega,fun h => by
   have h1:=HBX.out;have h2:=HS3.out;have h3:=HB5.out.size
   rcases h with h | h
   ·omega
   ·have:=(HUX.out _ h).1;omega⟩)
  ?hU (fun _ _ _ _ _ _ h _ _ _ => h) ⟨_,HU6.out⟩ (fun T x => (T.setIfInBounds 26 (.int .i64 x)).setIfInBounds 8 (.int .i64 x)) ?assign ?body ?done (fun _ _ _ _ _ _ _ h _ _ => h.elim)
 case hU =>
  rintro pre Fp A A' row ⟨d,h1⟩ hsz hg hrow
  exact ⟨d,h1.turn hg (fun r e => ⟨by have:=(hrow r e).1;have h1:=HBX.out;have h2:=HS3.out;have h3:=HB5.out.size;omega,(hrow r e).2⟩)⟩
 case assign =>
  intro l2 x A K2 hK
  unfold encI
  gi_wp2
  exact hK
 case body =>
  rintro l2 pre x Fp A ⟨d,hu⟩ hszA hpre
  have hlen:pre.length+1<=32:=by
   have h1:=hpre.length_le
   simp only [List.length_append,List.length_singleton] at h1
   exact Nat.le_trans h1 HND.out.len
  have hx:thr x=true:=HND.out.2 x (hpre.subset (by simp))
  have hbA:Below w.heap.size w A:=HB2.out.trans (hu.bel.mono (by omega))
  have hfA:=HH.out.below hbA
  have HG:=zh (fget hfA x hx)
  have cF:=HX0.out A (by rw [HS2.out];exact hu.bel)
  have cA:=hfA.ptrs.1
  obtain ⟨sx,hsx⟩:∃ sx,sx=sl st.S x:=⟨_,rfl⟩
  obtain ⟨zs,hzs⟩:∃ zs,zs=sx.cells:=⟨_,rfl⟩
  have HZL:Hid (zs.length=17):=by show _=_;rw [hzs];rfl
  have HZ1:Hid (∀ u ∈ zs,u.oneCell'=true):=by show ∀ _,_;rw [hzs];exact sx.one
  rw [<- hsx,<- hzs] at HG
  obtain ⟨ls,hls⟩:∃ ls,ls=pre.map fun i => (sl st.S i).s:=⟨_,rfl⟩
  have hlen2:ls.length+1<=32:=by rw [hls,List.length_map];exact hlen
  have HLS:Hid ((pre ++ [x]).map (fun i => (sl st.S i).s)=ls ++ [sx.s]):=by show _=_;rw [List.map_append,hls,hsx];rfl
  rw [<- hls] at hu
  have HU:=zh hu;have HZS:=zh hzs
  clear hu hszA hpre hlen hx hbA hfA hsx hls hzs
  gi_wp2_with fail
  refine ⟨trivial,(CallsIn.inRound _ (callsIn_wide.2 HG.out)).mono ?_⟩
  rintro e w7 ⟨rfl,hb7⟩
  obtain ⟨W8,hW8⟩:∃ W8,W8=w7.alloc (.cells zs.toArray 115):=⟨_,rfl⟩
  obtain ⟨b,hbq⟩:∃ b,b=w7.heap.size:=⟨_,rfl⟩
  have hb8:Below A.heap.size A W8:=by rw [hW8];exact hb7.alloc hb7.size _
  have hr8:W8.heap[b]? = some (.cells zs.toArray 115 (0,0)):=by rw [hW8,hbq];exact World.alloc_heap_new _ _
  have hu8:=HU.out.after hb8
  obtain ⟨q1,r1,rfl,-⟩:=own_shape hu8.r1
  have hc1:=hu8.b1.cell
  obtain ⟨ys,hys⟩:∃ ys,ys=sx.s.cells:=⟨_,rfl⟩
  have HYL:Hid (ys.length=12):=by show _=_;rw [hys];rfl
  have HY1:Hid (∀ u ∈ ys,u.oneCell'=true):=by show ∀ _,_;rw [hys];exact sess_one' _
  have HRG:Hid (W8.rangeAt b 5 ys):=by show World.rangeAt _ _ _ _;rw [hys];exact slot_sess (by rw [<- HZS.out];exact hr8)
  obtain ⟨K,hK⟩:∃ K,K=ls.length:=⟨_,rfl⟩
  have am1:K+1<=maxLen:=by unfold maxLen;omega
  have am3:(K+1) * 112<=140737488355328:=by omega
  have k3:w.heap.size+3<=(W8.alloc (.cells ys.toArray 30)).heap.size:=by have:=hu8.b1.lt;simp;omega
  have hr1:=hu8.r1
  have HP1:=zh (fun (v1:Value) (w1:World) (o1:Obj) => GS.push (v:=v1) (w1:=w1) (o1:=o1) (x:=sx.s) hu8)
  rw [<- hK] at hc1 hr1 HP1
  rw [<- hys] at HP1
  have H1K:=zh hr1;have HW8:=zh hW8;have HBQ:=zh hbq;have HB8:=zh hb8
  clear hr1 hK hu8 hb7 hb8 hr8 hW8 hbq hys cF cA hlen2
  gi_wp2_with (first
   | (conv in World.alloc _ (Obj.cells #[.bool false,.bool false,_,_,_,_,_,_,_,_,_,_,_,_,_,_,_] _) => skip);(refine Ag.wpListIn_store_new (by rfl) 115 (.tmp 9) (.tmp 34) (by rfl) zs (by rfl) (by rfl) (by rw [HZL.out];kernel_rfl) (by rw [HZL.out];rfl) HZ1.out ?_;rw [<- HW8.out,<- HBQ.out])
   | (refine Ag.wpListIn_load (by rfl) 30 _ (by rfl) _ _ (by rfl) ys _ HRG.out Tryz.underlying30 rfl (by rw [HYL.out];kernel_rfl) ?_)
   | (refine Ag.wpListIn_one (by rfl) 22 30 _ (by rfl) ys (by rfl) i0 _ Tryz.underlying22 hi hz0 (by rw [hz1];exact HYL.out) (by rw [hz1];decide) (by rw [hz1];decide) ?_)
   | (gi_at_builtin;(refine wpListIn_append_own_at _ rfl _ _ 22 rfl (w.heap.size+3) 30 i0 (.agg #[.int .i64 0,.int .i64 0,.int .i64 0,.int .i64 0,.int .i64 0,.string ByteArray.empty,.string ByteArray.empty,.int .u64 0,.int .i64 0,.int .i64 0,.int .i64 0,.int .i64 0]) 12 112 Tryz.underlying22 hi hz0 hz1 hz2 rfl (by decide) _ _ _ rfl (H1K.out.alloc _) ⟨W8.heap.size,0,none⟩ 1 1 ys rfl HYL.out (World.news_of_block (Ut.alloc_at _ _)) HY1.out am1 am3 k3 ?_);(intro v1 w1 hown' hgrow hnil hat;obtain ⟨q',r',rfl,-⟩:=own_shape hown';obtain ⟨hb1,-,Fp',hn1⟩:=HP1.out _ _ _ hown' hgrow hat;(have hc1':=hb1.cell);(have hf1:=hb1.frozen);(have HN:=zh hn1);clear hown' hgrow hat hn1 hb1 hnil)))
  refine ⟨Fp',⟨_,by rw [HLS.out];exact HN.out.1⟩,(Only.of_below (F:=Fp) HB8.out).trans HN.out.2.1 (fun _ _ h => h),fun b hb => (HN.out.2.2 b hb).imp id (fun h => Nat.le_trans HB8.out.size h)⟩
 case done =>
  rintro D2 ys Fp A rfl hD ⟨d,hu⟩ hnf hK
  obtain ⟨q1,r1,rfl,-⟩:=own_shape hu.r1
  have hc1:=hu.b1.cell
  obtain ⟨LS,hLS⟩:∃ LS,LS=ys.map fun i => (sl st.S i).s:=⟨_,rfl⟩
  rw [<- hLS] at hu hc1
  have HLS:=zh hLS
  have HV:=zh (values_any q1 LS.length r1 A)
  have HK:Hid ((A.alloc (.cells #[.slice q1 LS.length r1] 22)).heap[D2]? = some (.deferred (some []))):=(Below.heap_alloc _ _ _ (zx hK)).trans hK
  have hDl:=(zx hK)
  obtain ⟨k1,k2,k3,k4⟩:=und_end hu (by omega) HB2.out _ 22 rfl
  have hge:w.heap.size+3<=D2:=by have h1:=HBX.out;have h2:=HS3.out;have h3:=HB5.out.size;omega
  have e1:Boxed ((A.alloc (.cells #[.slice q1 LS.length r1] 22)).putObj D2 (.deferred none)) A.heap.size 22 (.slice q1 LS.length r1):=Boxed.kept k1 (grownBy_putObj' _ D2 (.deferred none)) (fun e => by have:=Option.some.inj e;omega)
  have e2:((A.alloc (.cells #[.slice q1 LS.length r1] 22)).putObj D2 (.deferred none)).ownsRow w.heap.size 30 12 (.slice q1 LS.length r1) LS.length (allC LS):=own_stay k2 (fun b e => (grownBy_putObj' _ D2 (.deferred none)).block b (k2.lt b e).2 (fun e2 => hnf ((hu.fp D2).2 (.inr (by rw [e,e2])))))
  have e3:Below w.heap.size w ((A.alloc (.cells #[.slice q1 LS.length r1] 22)).putObj D2 (.deferred none)):=k3.grown (grownBy_putObj' _ D2 (.deferred none)) (by simp;omega) (fun k e => by cases e;omega)
  have HE:=zh (And.intro e1 (And.intro e2 (And.intro e3 k4)))
  clear hLS hu hK hnf hDl k1 k2 k3 k4 e1 e2 e3 hge
  gi_wp2
  go_wp2_with fail
  refine HV.out.mono ?_
  rintro e w9 ⟨rfl,h9⟩
  rw [h9]
  clear h9
  go_wp2
  refine ⟨by simp,.inl ⟨_,_,rfl,run_takeDeferred (show _=_ from HK.out),?_⟩⟩
  rw [<- HLS.out]
  exact ⟨_,results_tmp rfl _ _ _,⟨_,_,rfl,HE.out.2.2.2,HE.out.1,HE.out.2.1⟩,HE.out.2.2.1⟩
end
end Fr
end
section
open Go.RowKit Go.Maps
namespace Fr
open Vw (Sess)
theorem IsN.deep {st:FS} {A:List Sess} (h:IsN st A):DeepOk st:=fun i b hl => by
 obtain ⟨R,G,K,pl,hw,_,_⟩:=h
 obtain ⟨h1,h2,_⟩:=(hw.co.lives_iff i b).1 hl
 exact hw.co.depth h1 h2.nf.1
theorem Wf.belOk {st:FS} {R G:List Int} {K:Int->List Int} {pl:Int->Pl} (hw:Wf st R G K pl):BelOk st.S K (fun i => thr i=true/\pl i≠.fr) (far st) where
 ring:=fun p hp => hw.sh.rK p hp.1 hp.2
 nd:=fun p _ => hw.sh.knd p
 th:=fun p hp => hp.1
 kid:=fun p x _ hx => by
  obtain ⟨h1,h2,h3⟩:=hw.far_kid hx
  exact ⟨⟨h1,h2⟩,by omega⟩
 pos:=fun p hp => hw.far_pos hp.1 hp.2
section
variable {lo:Nat} {P:Pa} {st st1 st2:FS} {nw c d:Nat} {Fe:Nat->Prop} {w w' w'':World}
theorem funder_any {A:List Sess} (h:ForAt lo P st nw Fe w) (hI:IsN st A) (us ub:Int) :
  Calls Tryz.prog 20 #[.pointer (some ⟨P.f,0,none⟩),.agg #[.int .i64 us,.int .i64 ub]] w (FUndPost (underF st us ub) w):=by
 cases hl:lives st.S us ub with
 | false => exact funder_no h us ub hl
 | true =>
  obtain ⟨R,G,K,pl,hw,hp,hm⟩:=hI
  obtain ⟨h1,h2,_⟩:=(hw.co.lives_iff us ub).1 hl
  exact funder_yes h us ub hl hw.belOk ⟨h1,h2.nf.1⟩ (by unfold far;have:=(hw.co.depth h1 h2.nf.1).1;have:0<=(sl st.S us).s.depth:=this;omega)
end
end Fr
end
section
open Go.RowKit Go.Maps
namespace Fr
open Vw (Sess)
end Fr
end
section
open Go.RowKit
namespace Gd
theorem wpList_wanted {P:Program} {ops:Array Oper} {rest:List Oper} {o:Oper} {a:Act} {w:World} {Q:Exit->Act->World->Prop} (hw:Region.wanted o (yielded ops a.tmps)=true)
  (h:∀ K:Act->World->Prop,(∀ a w,wpList P ops Q rest a w->K a w)->o.wp P a w K Q):wpList P ops Q (o :: rest) a w :=
 wpList_step fun K hK => by rw [if_pos hw];exact h K hK
theorem load_row {P:Program} {ops:Array Oper} {rest:List Oper} {o:Oper} {a:Act} {w:World} {Q:Exit->Act->World->Prop} (hw:Region.wanted o (yielded ops a.tmps)=true) (ty:TypeId) (x:Operand) (ho:o.op = .load ty x)
  (b:Nat) (hx:a.eval x = .pointer (some ⟨b,0,none⟩)) (ty':TypeId) (cells:Array Value) (fr:Nat × Nat) (d:TypeDesc) (hb:w.heap[b]? = some (.cells cells ty' fr)) (hu:P.underlying ty=some d) (hd:d.isRow=true) (hi:(P.info? ty).map (·.size)=some cells.size)
  (h:wpList P ops Q rest (a.put o.dst (.agg cells)) w):wpList P ops Q (o :: rest) a w:=by
 have hr:w.rangeAt b 0 cells.toList:=fun j v hj => by
  rw [zc hb,Nat.zero_add];simpa using hj
 exact wpList_wanted hw fun _ hK => wp_load_mid ty x ho b 0 hx cells.toList d hr hu hd (by simpa using hi) (by simpa using hK _ _ h)
end Gd
end
section
open Go.RowKit Go.Maps Go.Shelf
namespace Fr
open Vw (Sess)
open Ex (Ent wo ExpAt)
attribute [local go_sem] Oper.semAt_some
theorem IsN.session {st:FS} {A:List Sess} (h:IsN st A) {s:Sess} (hs:s ∈ A):sessionF st s.slot s.birth=(s,0):=by
 unfold sessionF
 rw [(h.lives_iff _ _).2 ⟨s,hs,rfl,rfl⟩,(h.may hs).2.2.2.1]
 rfl
section
variable {lo:Nat} {P:Pa} {st st1 st2:FS} {nw c d:Nat} {Fe:Nat->Prop} {w w' w'':World}
theorem FoTo.low (h:FoTo lo P st1 c nw Fe w w') (h0:ForAt lo P st nw Fe w):Below lo w w':=by
 obtain ⟨_,_,_,_,_,ho,_⟩:=h
 have:lo<=w.heap.size:=by have:=h0.lt (.inl rfl);omega
 exact ho.below this (fun i hi hf => by have:=(h0.lt hf).1;omega)
end
abbrev topCs:Array Value:=#[.int .i64 0,.int .i64 1,.int .i64 0,.int .i64 0,.int .i64 0,.string ⟨#[97,110,110]⟩,.string ⟨#[]⟩,.int .u64 7,.int .i64 1,.int .i64 0,.int .i64 100,.int .i64 0]
theorem seq_neq (k:Nat) (bs:Array Value) (w:World):(binOp .neq 58 (.func (.func k) #[] bs) .nilFunc).run Tryz.prog w = .ok (.bool true) w:=by kernel_rfl
theorem top_eql (w:World):(binOp .eql 30 (.agg topCs) (.agg topCs)).run Tryz.prog w = .ok (.bool true) w:=by kernel_rfl
theorem lworks_any (w:World):Calls Tryz.prog 17 #[] w fun e w' => e = .returned (.bool true)/\Below w.heap.size w w':=by
 obtain ⟨st2,hb2,hsw⟩:=Sw.first
 have HN:=zh (fnew_any w)
 have HBI:Hid (∀ (P:Pa) (Fe:Nat->Prop) (W:World),ForAt w.heap.size P newF 0 Fe W->Calls Tryz.prog 18 #[.pointer (some ⟨P.f,0,none⟩),.int .i64 0,.agg #[.int .i64 0,.int .i64 0],.agg #[.string ⟨#[97,110,110]⟩,.string ⟨#[116,118]⟩,.int .u64 7,.int .i64 1,.int .i64 100]] W fun e w' => e = .returned (.tuple #[.agg topCs,.bool true])/\FoTo w.heap.size P st2 14 0 Fe W w'):=fun P Fe W h =>
  lbirth_any h (by decide) 0 0 0 (askR 1 100) (by decide) (by decide) top1 plan_top hb2 is_new.1.deep (by decide) (by decide) (by decide) (by decide)
 have hse:sessionF st2 0 1=(top1,0):=hsw.seen.is.1.session (s:=top1) (by simp)
 have HSE:Hid (∀ (P:Pa) (Fe:Nat->Prop) (nw:Nat) (W:World),ForAt w.heap.size P st2 nw Fe W->Calls Tryz.prog 60 #[.pointer (some ⟨P.f,0,none⟩),.agg #[.int .i64 0,.int .i64 1]] W fun e w' => e = .returned (.tuple #[.agg topCs,.nilIface])/\Below W.heap.size W w'):=fun P Fe nw W h => by
  have:=fsession h 0 1
  rw [hse] at this
  exact this
 have HUN:Hid (∀ (P:Pa) (Fe:Nat->Prop) (nw:Nat) (W:World),ForAt w.heap.size P st2 nw Fe W->Calls Tryz.prog 20 #[.pointer (some ⟨P.f,0,none⟩),.agg #[.int .i64 0,.int .i64 1]] W (FUndPost (underF st2 0 1) W)):=fun P Fe nw W h => funder_any h hsw.seen.is.1 0 1
 have HAS:=zh (fun W => lask_any 1 100 W)
 have HEQ:=zh top_eql
 clear hb2 hsw hse
 go_enter Tryz.func17,Tryz.ntmps17
 go_wp2_with fail
 refine HN.out.mono ?_
 rintro e w1 ⟨P,Fe,rfl,hf1,hb1⟩
 have HF1:=zh hf1;have HB1:=zh hb1
 clear hf1 hb1
 go_wp2_with fail
 refine (HAS.out _).mono ?_
 rintro e w2 ⟨rfl,hb2⟩
 have hf2:=HF1.out.below hb2
 have HF2:=zh hf2
 have HB2:Hid (Below w.heap.size w w2):=HB1.out.trans (hb2.mono HB1.out.size)
 clear hb2 hf2
 go_wp2_with fail
 refine (HBI.out P Fe _ HF2.out).mono ?_
 rintro e w3 ⟨rfl,h3⟩
 have hb3:Below w.heap.size w w3:=HB2.out.trans (h3.low HF2.out)
 obtain ⟨n3,F3,-,-,hf3,-,-⟩:=h3
 have HB3:=zh hb3;have HF3:=zh hf3
 clear hb3 hf3
 go_wp2_with fail
 obtain ⟨W4,hW4⟩:∃ W4,W4=w3.alloc (.cells topCs 30):=⟨_,rfl⟩
 have hb34:Below w3.heap.size w3 W4:=by rw [hW4];exact (Below.refl _ _).alloc (Nat.le_refl _) _
 have hr4:W4.heap[w3.heap.size]? = some (.cells topCs 30 (0,0)):=by rw [hW4];exact World.alloc_heap_new _ _
 have HF4:=zh (HF3.out.below hb34)
 have HB4:Hid (Below w.heap.size w W4):=HB3.out.trans (hb34.mono HB3.out.size)
 have HR4:=zh hr4
 rw [<- hW4]
 clear hb34 hr4 hW4
 refine (HSE.out P F3 _ _ HF4.out).mono ?_
 rintro e w5 ⟨rfl,hb5⟩
 obtain ⟨W6,hW6⟩:∃ W6,W6=w5.alloc (.cells topCs 30):=⟨_,rfl⟩
 have hb6:Below W4.heap.size W4 W6:=by rw [hW6];exact hb5.alloc hb5.size _
 have hr6:W6.heap[w5.heap.size]? = some (.cells topCs 30 (0,0)):=by rw [hW6];exact World.alloc_heap_new _ _
 have hr5:W6.heap[w3.heap.size]? = some (.cells topCs 30 (0,0)):=(hb6.block _ (zx HR4.out)).trans HR4.out
 have HB6:Hid (Below w.heap.size w W6):=HB4.out.trans (hb6.mono HB4.out.size)
 have HF6:=zh (HF4.out.below hb6)
 have c51:W6.cell? ⟨w3.heap.size,1,none⟩=some (.int .i64 1):=zl hr5 rfl
 have c59:W6.cell? ⟨w3.heap.size,9+1,none⟩=some (.int .i64 100):=zl hr5 rfl
 have HG5:=zh hr5;have HG6:=zh hr6
 have HW6:=zh hW6
 clear hb5 hb6 hr6 hr5 hW6
 have heq:=HEQ.out
 go_upto_region 6 with fail
 rw [<- HW6.out]
 go_wp2_with (first
  | (refine Gd.load_row (by kernel_rfl) 30 (.tmp 4) rfl _ (by rfl) _ _ _ _ HG6.out Tryz.underlying30 rfl (by kernel_rfl) ?_)
  | (refine Gd.load_row (by kernel_rfl) 30 (.tmp 2) rfl _ (by rfl) _ _ _ _ HG5.out Tryz.underlying30 rfl (by kernel_rfl) ?_))
 refine (HUN.out P F3 _ _ HF6.out).mono ?_
 rintro e w7 ⟨⟨bx,v,rfl,-⟩,hb7⟩
 have HB7:Hid (Below w.heap.size w w7):=HB6.out.trans (hb7.mono HB6.out.size)
 clear hb7
 have hnq:=seq_neq 127 #[.pointer (some ⟨bx,0,none⟩)] w7
 go_wp2
 go_ret
 exact ⟨rfl,HB7.out⟩
section
variable {lo:Nat} {P:Pa} {st st1 st2:FS} {nw c d:Nat} {Fe:Nat->Prop} {w w' w'':World}
end
end Fr
end
end Go.Proofs.YtimhglmfckfclaaGreatDoor
