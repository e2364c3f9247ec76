/- Parts of the proof. -/
import Derived.Test.YtimhglmfckfclaaGreatDoorM35
import Derived.Shelf.SlGeneric
import Derived.Shelf.SlSortCmp.NoneTotal
import Derived.Ground.SlsfProg
set_option linter.unusedVariables false
set_option linter.unusedSimpArgs false
set_option maxRecDepth 100000
set_option maxHeartbeats 16000000
namespace Go.Proofs.YtimhglmfckfclaaGreatDoor
section
open Go.RowKit Go.Maps Go.Shelf
namespace Fr
open Vw (Sess)
open Ex (Ent wo ExpAt)
attribute [local go_sem] Oper.semAt_some
theorem finfo_slot:(Tryz.prog.info? 115).map (fun i => (i.zero,i.size,i.bytes))=some (some (.agg #[.bool false,.bool false,.int .i64 0,.int .i64 0,.int .i64 0,.int .i64 0,.int .i64 0,.int .i64 0,.int .i64 0,.int .i64 0,.string ByteArray.empty,.string ByteArray.empty,.int .u64 0,.int .i64 0,.int .i64 0,.int .i64 0,.int .i64 0]),17,144):=by kernel_rfl
theorem allS_take {S:List Slt} {k:Nat} (h:k<S.length):allS (S.take (k+1))=allS (S.take k) ++ (sl S k).cells:=by
 rw [List.take_add_one,List.getElem?_eq_getElem h]
 unfold allS sl
 rw [List.flatMap_append,Int.toNat_natCast,List.getD_eq_getElem?_getD,List.getElem?_eq_getElem h]
 simp
def dumpCs (c b:Int) (v1 v2:Value) (g r:Int):Array Value:=#[.int .i64 c,.int .i64 b,v1,v2,.int .i64 g,.int .i64 r]
def FDumpPost (st:FS) (w:World) (e:Ending) (w':World):Prop :=
 (∃ v1 v2,e = .returned (.agg (dumpCs st.clock st.births v1 v2 st.garb st.roots))/\w'.ownsRow w.heap.size 115 17 v1 32 (allS st.S)/\w'.ownsRow w.heap.size 3 1 v2 st.free.length (st.free.map (Value.int .i64))/\∀ b,v1.ownBlock=some b->v2.ownBlock≠some b)/\Below w.heap.size w w'
section
variable {lo:Nat} {P:Pa} {st st1 st2:FS} {nw c d:Nat} {Fe:Nat->Prop} {w w' w'':World}
theorem fdump (h:ForAt lo P st nw Fe w) :
  Calls Tryz.prog 11 #[.pointer (some ⟨P.f,0,none⟩)] w (FDumpPost st w):=by
 obtain ⟨CL,hCL⟩:∃ CL,CL=st.clock:=⟨_,rfl⟩
 obtain ⟨BI,hBI⟩:∃ BI,BI=st.births:=⟨_,rfl⟩
 obtain ⟨GB,hGB⟩:∃ GB,GB=st.garb:=⟨_,rfl⟩
 obtain ⟨RO,hRO⟩:∃ RO,RO=st.roots:=⟨_,rfl⟩
 obtain ⟨W1,hW1⟩:∃ W1,W1=w.alloc (.cells #[.int .i64 0,.int .i64 0,.slice none 0 0,.slice none 0 0,.int .i64 0,.int .i64 0] 45):=⟨_,rfl⟩
 have hs1:W1.heap.size=w.heap.size+1:=by rw [hW1,World.size_alloc]
 have hb1:Below w.heap.size w W1:=by rw [hW1];exact (Below.refl _ _).alloc (Nat.le_refl _) _
 obtain ⟨W2,hW2⟩:∃ W2,W2=W1.drew.alloc (.cells (dumpCs CL BI (.slice none 0 0) (.slice none 0 0) GB RO) 45):=⟨_,rfl⟩
 have hg2:GR 45 115 17 (fun v => dumpCs CL BI v (.slice none 0 0) GB RO) (w.heap.size+1) (w.heap.size+2) W1.drew (.slice none 0 0) 0 [] (fun b => b=w.heap.size+1) W2:=by
  have:=GR.start (t:=45) (e:=115) (size:=17) (cs:=fun v => dumpCs CL BI v (.slice none 0 0) GB RO) W1.drew
  rw [show W1.drew.heap.size=w.heap.size+1 from hs1] at this
  rw [hW2];exact this
 have hLEN:st.S.length=32:=by obtain ⟨⟨nx,fi,hA,-⟩,-⟩:=h.ar;exact hA.ls
 have HFL:Hid (st.free.length<=32):=by obtain ⟨⟨nx,fi,hA,hF,-⟩,hnd⟩:=h.ar;exact nodup_len32 hnd hF.thr
 have hn:=(h.below hb1).nums
 have hp:=(h.below hb1).ptrs
 rw [<- hCL,<- hBI] at hn
 obtain ⟨n0,n1⟩:=hn
 obtain ⟨-,p3,p4,-⟩:=hp
 have HSX:∀ W,Below W1.heap.size W1 W->W.cell? ⟨P.f,0,none⟩=some (.int .i64 CL)/\W.cell? ⟨P.f,1,none⟩=some (.int .i64 BI)/\W.cell? ⟨P.f,3,none⟩=some (.pointer (some ⟨P.t,0,none⟩))/\W.cell? ⟨P.f,4,none⟩=some (.pointer (some ⟨P.g,0,none⟩)):=fun W hb => by
  have hl:P.f<W1.heap.size:=((h.below hb1).lt (.inl rfl)).2
  exact ⟨(hb.cell (p:=⟨P.f,0,none⟩) hl).trans n0,(hb.cell (p:=⟨P.f,1,none⟩) hl).trans n1,(hb.cell (p:=⟨P.f,3,none⟩) hl).trans p3,(hb.cell (p:=⟨P.f,4,none⟩) hl).trans p4⟩
 have HBA:Hid (Below W1.heap.size W1 W1.drew):=(Below.refl _ _).drew
 have HBB:Hid (Below W1.heap.size W1 (W1.drew.alloc (.cells #[.int .i64 0,.int .i64 0,.slice none 0 0,.slice none 0 0,.int .i64 0,.int .i64 0] 45))):=HBA.out.alloc (Nat.le_refl _) _
 have HBC:Below W1.heap.size W1 W2:=by rw [hW2];exact HBA.out.alloc (Nat.le_refl _) _
 have HSA:=zh (HSX _ HBA.out)
 have HSB:=zh (HSX _ HBB.out)
 have HSC:=zh (HSX _ HBC)
 have HGL:Hid (∀ W,Below W1.heap.size W1 W->Calls Tryz.prog 44 #[.pointer (some ⟨P.g,0,none⟩)] W fun e w' => e = .returned (.int .i64 GB)/\w'=W):=fun W hb => by
  rw [hGB];exact glast_any ((h.below hb1).below hb).gb
 have HTL:Hid (∀ W,Below W1.heap.size W1 W->Calls Tryz.prog 45 #[.pointer (some ⟨P.t,0,none⟩)] W fun e w' => e = .returned (.int .i64 RO)/\w'=W):=fun W hb => by
  rw [hRO];exact tlast_any ((h.below hb1).below hb).tr
 have HH:=zh h;have HS1:=zh hs1;have HB1:=zh hb1;have HG2:=zh hg2;have HLEN:=zh hLEN
 have HW1:=zh hW1
 have HR1:Hid (W1.drew.heap[w.heap.size]? = some (.cells #[.int .i64 0,.int .i64 0,.slice none 0 0,.slice none 0 0,.int .i64 0,.int .i64 0] 45 (0,0))):=by show W1.heap[_]? = _;rw [hW1];exact World.alloc_heap_new _ _
 have HW2:Hid (W2=W1.drew.alloc (.cells #[.int .i64 CL,.int .i64 BI,.slice none 0 0,.slice none 0 0,.int .i64 GB,.int .i64 RO] 45)):=hW2
 have HST:Hid (World.setCells (W1.alloc (.cells #[.int .i64 0,.int .i64 0,.slice none 0 0,.slice none 0 0,.int .i64 0,.int .i64 0] 45)).drew W1.drew.heap.size 0 [.int .i64 CL,.int .i64 BI,.slice none 0 0,.slice none 0 0,.int .i64 GB,.int .i64 RO]=W2):=by
  rw [HW2.out]
  show World.setCells (W1.drew.alloc _) W1.drew.heap.size 0 _=_
  rw [Ag.setCells_new,Ag.put_all (by rfl)]
 have HST2:Hid (World.setCells (W1.drew.alloc (.cells #[.int .i64 0,.int .i64 0,.slice none 0 0,.slice none 0 0,.int .i64 0,.int .i64 0] 45)) W1.drew.heap.size 0 [.int .i64 CL,.int .i64 BI,.slice none 0 0,.slice none 0 0,.int .i64 GB,.int .i64 RO]=W2):=HST.out
 have HOC:Hid (∀ u ∈ [Value.int .i64 CL,Value.int .i64 BI,Value.slice none 0 0,Value.slice none 0 0,Value.int .i64 GB,Value.int .i64 RO],u.oneCell'=true):=by
  intro u hu
  simp only [List.mem_cons,List.not_mem_nil,or_false] at hu
  rcases hu with rfl | rfl | rfl | rfl | rfl | rfl <;> rfl
 obtain ⟨i0,hi,hz0,hz1,hz2⟩:=info_parts finfo_slot
 have HFIN:Hid (∀ v1 v2,Ending.returned (.agg #[.int .i64 CL,.int .i64 BI,v1,v2,.int .i64 GB,.int .i64 RO]) = .returned (.agg (dumpCs st.clock st.births v1 v2 st.garb st.roots))):=fun v1 v2 => by rw [hCL,hBI,hGB,hRO];rfl
 clear n0 n1 p3 p4 HSX HBC
 clear h hCL hBI hGB hRO hs1 hb1 hg2 hLEN hW1 hW2
 refine (callsIn_wide (n:=9)).1 ?_
 refine callsIn_of_wp_marks Tryz.func11 rfl trivial ?_ rfl
 simp only [Tryz.ntmps11,List.size_toArray,List.length_cons,List.length_nil,Nat.reduceAdd,Nat.reduceSub,Array.replicate_succ,Array.replicate_zero,List.push_toArray,List.append_toArray,List.nil_append,List.cons_append]
 refine wpIn_wide.2 ?_
 go_upto_region 1 with fail
 rw [<- HW1.out]
 go_cut [3] from 8 to 26 (fun p wx => p = .pointer (some ⟨w.heap.size+1,0,none⟩)/\wx=W2)
 case first =>
  refine only_normal ?_
  refine wp_region_held_drew (S:=fun W => W.cell? ⟨P.f,0,none⟩=some (.int .i64 CL)/\W.cell? ⟨P.f,1,none⟩=some (.int .i64 BI)/\W.cell? ⟨P.f,3,none⟩=some (.pointer (some ⟨P.t,0,none⟩))/\W.cell? ⟨P.f,4,none⟩=some (.pointer (some ⟨P.g,0,none⟩))) (by kernel_rfl) HSA.out (fun _ => ?_)
  refine tq 0 rfl (.pointer (some ⟨P.f,0,none⟩)) HSA.out ?_
  try simp only [zq]
  refine tq 1 rfl (.pointer (some ⟨P.f,0,none⟩)) HSA.out ?_
  try simp only [zq]
  refine tq 2 rfl (.pointer (some ⟨P.f,0,none⟩)) HSA.out ?_
  try simp only [zq]
  refine tq 3 rfl (.int .i64 CL) HSA.out ?_
  try simp only [zq]
  refine tq 4 rfl (.pointer (some ⟨P.f,0,none⟩)) HSA.out ?_
  try simp only [zq]
  refine tq 5 rfl (.pointer (some ⟨P.f,0,none⟩)) HSA.out ?_
  try simp only [zq]
  refine tq 6 rfl (.pointer (some ⟨P.f,1,none⟩)) HSA.out ?_
  try simp only [zq]
  refine tq 7 rfl (.int .i64 BI) HSA.out ?_
  try simp only [zq]
  refine tq 8 rfl (.pointer (some ⟨P.f,0,none⟩)) HSA.out ?_
  try simp only [zq]
  refine tq 9 rfl (.pointer (some ⟨P.f,0,none⟩)) HSA.out ?_
  try simp only [zq]
  refine tq 10 rfl (.pointer (some ⟨P.f,4,none⟩)) HSA.out ?_
  try simp only [zq]
  refine tq 11 rfl (.pointer (some ⟨P.g,0,none⟩)) HSA.out ?_
  try simp only [zq]
  refine tq 13 rfl (.pointer (some ⟨P.f,0,none⟩)) HSA.out ?_
  try simp only [zq]
  refine tq 14 rfl (.pointer (some ⟨P.f,0,none⟩)) HSA.out ?_
  try simp only [zq]
  refine tq 15 rfl (.pointer (some ⟨P.f,3,none⟩)) HSA.out ?_
  try simp only [zq]
  refine tq 16 rfl (.pointer (some ⟨P.t,0,none⟩)) HSA.out ?_
  try simp only [zq]
  refine wpAnyH_ready (rs:=[12,19]) (by kernel_rfl) (by simp) (AllReadyH.cons rfl (fun K hK => ?_) (AllReadyH.cons rfl (fun K hK => ?_) AllReadyH.nil))
  ·go_simp
   refine (HGL.out _ HBA.out).mono ?_
   rintro e w' ⟨rfl,rfl⟩
   refine hK.out _ _ HSA.out (fun _ => ?_)
   clear hK K
   try simp only [zq]
   refine wpAnyH_ready (rs:=[17,19]) (by kernel_rfl) (by simp) (AllReadyH.cons rfl (fun K hK => ?_) (AllReadyH.cons rfl (fun K hK => ?_) AllReadyH.nil))
   ·go_simp
    refine (HTL.out _ HBA.out).mono ?_
    rintro e w' ⟨rfl,rfl⟩
    refine hK.out _ _ HSA.out (fun _ => ?_)
    clear hK K
    try simp only [zq]
    refine tq 18 rfl (.agg #[.int .i64 CL,.int .i64 BI,.slice none 0 0,.slice none 0 0,.int .i64 GB,.int .i64 RO]) HSA.out ?_
    try simp only [zq]
    refine zr 19 rfl (fun K hK => ?_)
    go_simp
    refine hK.out _ _ HSB.out (fun _ => ?_)
    clear hK K
    try simp only [zq]
    refine zr 20 rfl (fun K hK => ?_)
    rw [if_pos (by rfl)]
    refine wp_store_mid 45 (.tmp 3) (.tmp 26) (by rfl) W1.drew.heap.size 0 #[.int .i64 CL,.int .i64 BI,.slice none 0 0,.slice none 0 0,.int .i64 GB,.int .i64 RO] (by rfl) (by rfl) (Ag.there_new _ _ _ _ (by show 6<=6;decide)) (by kernel_rfl) (all_oneCell_toArray HOC.out) ?_
    first | rw [List.toList_toArray,HST.out] | rw [List.toList_toArray,HST2.out]
    refine hK.out _ _ HSC.out (fun _ => ?_)
    clear hK K
    try simp only [zq]
    refine wpAnyH_done (by kernel_rfl) ?_ _
    try simp only [zq]
    go_wp2_with fail
    go_meet
    case rel => exact ⟨by rw [HS1.out],rfl⟩
   ·go_simp
    refine hK.out _ _ HSB.out (fun _ => ?_)
    clear hK K
    try simp only [zq]
    refine zr 17 rfl (fun K hK => ?_)
    go_simp
    refine (HTL.out _ HBB.out).mono ?_
    rintro e w' ⟨rfl,rfl⟩
    refine hK.out _ _ HSB.out (fun _ => ?_)
    clear hK K
    try simp only [zq]
    refine tq 18 rfl (.agg #[.int .i64 CL,.int .i64 BI,.slice none 0 0,.slice none 0 0,.int .i64 GB,.int .i64 RO]) HSB.out ?_
    try simp only [zq]
    refine zr 20 rfl (fun K hK => ?_)
    rw [if_pos (by rfl)]
    refine wp_store_mid 45 (.tmp 3) (.tmp 26) (by rfl) W1.drew.heap.size 0 #[.int .i64 CL,.int .i64 BI,.slice none 0 0,.slice none 0 0,.int .i64 GB,.int .i64 RO] (by rfl) (by rfl) (Ag.there_new _ _ _ _ (by show 6<=6;decide)) (by kernel_rfl) (all_oneCell_toArray HOC.out) ?_
    first | rw [List.toList_toArray,HST.out] | rw [List.toList_toArray,HST2.out]
    refine hK.out _ _ HSC.out (fun _ => ?_)
    clear hK K
    try simp only [zq]
    refine wpAnyH_done (by kernel_rfl) ?_ _
    try simp only [zq]
    go_wp2_with fail
    go_meet
    case rel => exact ⟨by rw [HS1.out],rfl⟩
  ·go_simp
   refine hK.out _ _ HSB.out (fun _ => ?_)
   clear hK K
   try simp only [zq]
   refine zr 12 rfl (fun K hK => ?_)
   go_simp
   refine (HGL.out _ HBB.out).mono ?_
   rintro e w' ⟨rfl,rfl⟩
   refine hK.out _ _ HSB.out (fun _ => ?_)
   clear hK K
   try simp only [zq]
   refine zr 17 rfl (fun K hK => ?_)
   go_simp
   refine (HTL.out _ HBB.out).mono ?_
   rintro e w' ⟨rfl,rfl⟩
   refine hK.out _ _ HSB.out (fun _ => ?_)
   clear hK K
   try simp only [zq]
   refine tq 18 rfl (.agg #[.int .i64 CL,.int .i64 BI,.slice none 0 0,.slice none 0 0,.int .i64 GB,.int .i64 RO]) HSB.out ?_
   try simp only [zq]
   refine zr 20 rfl (fun K hK => ?_)
   rw [if_pos (by rfl)]
   refine wp_store_mid 45 (.tmp 3) (.tmp 26) (by rfl) W1.drew.heap.size 0 #[.int .i64 CL,.int .i64 BI,.slice none 0 0,.slice none 0 0,.int .i64 GB,.int .i64 RO] (by rfl) (by rfl) (Ag.there_new _ _ _ _ (by show 6<=6;decide)) (by kernel_rfl) (all_oneCell_toArray HOC.out) ?_
   first | rw [List.toList_toArray,HST.out] | rw [List.toList_toArray,HST2.out]
   refine hK.out _ _ HSC.out (fun _ => ?_)
   clear hK K
   try simp only [zq]
   refine wpAnyH_done (by kernel_rfl) ?_ _
   try simp only [zq]
   go_wp2_with fail
   go_meet
   case rel => exact ⟨by rw [HS1.out],rfl⟩
 case rest =>
  obtain ⟨rfl,rfl⟩:=hcut
  have HU2:Hid (GR 45 115 17 (fun v => dumpCs CL BI v (.slice none 0 0) GB RO) (w.heap.size+1) (w.heap.size+2) W1.drew (.slice none 0 0) 0 [] (fun b => b=w.heap.size+1) wc):=HG2.out
  have HB1D:Hid (Below w.heap.size w W1.drew):=HB1.out.drew
  have HS1D:Hid (W1.drew.heap.size=w.heap.size+1):=HS1.out
  clear HG2 HBA HBB HSA HSB HSC HGL HTL HST HST2 HOC HW2 HW1
  go_wp2
  go_loopw [27] (fun x wr => ∃ (k:Nat) (v:Value) (Fp:Nat->Prop),k<=32/\x = .int .i64 (k:Int)/\GR 45 115 17 (fun v => dumpCs CL BI v (.slice none 0 0) GB RO) (w.heap.size+1) (w.heap.size+2) W1.drew v k (allS (st.S.take k)) Fp wr) (fun x _ => 32-(intOf x).toNat)
  case atStart => exact ⟨0,_,_,Nat.zero_le _,rfl,HU2.out⟩
  case round =>
   obtain ⟨k,v,Fp,hk,rfl,hu⟩:=hrel
   have b0:(0:Int)<=(k:Int):=by omega
   have b2:(k:Int)<=32:=by omega
   by_cases hlt:k<32
   ·have b1:(k:Int)<32:=by omega
    have hbw:Below w.heap.size w wr:=HB1D.out.trans (hu.bel.mono (by omega))
    have hf:=HH.out.below hbw
    have c2:=hf.ptrs.1
    have HG:=zh (fget hf k (thr_iff.2 ⟨by omega,by omega⟩))
    obtain ⟨zs,hzs⟩:∃ zs,zs=(sl st.S k).cells:=⟨_,rfl⟩
    have HZL:Hid (zs.length=17):=by show _=_;rw [hzs];rfl
    have HZ1:Hid (∀ u ∈ zs,u.oneCell'=true):=by show ∀ _,_;rw [hzs];exact (sl st.S k).one
    have HTK:Hid (allS (st.S.take (k+1))=allS (st.S.take k) ++ zs):=by show _=_;rw [hzs];exact allS_take (by rw [HLEN.out];exact hlt)
    rw [<- hzs] at HG
    have HU:=zh hu;have HLT:=zh hlt
    clear hu hbw hf hzs hlt hk
    go_wp2_with fail
    refine HG.out.mono ?_
    rintro e w7 ⟨rfl,hb7⟩
    obtain ⟨W8,hW8⟩:∃ W8,W8=w7.alloc (.cells zs.toArray 115):=⟨_,rfl⟩
    obtain ⟨b,hbq⟩:∃ b,b=w7.heap.size:=⟨_,rfl⟩
    have hb8:Below wr.heap.size wr W8:=by rw [hW8];exact hb7.alloc hb7.size _
    have hr8:W8.heap[b]? = some (.cells zs.toArray 115 (0,0)):=by rw [hW8,hbq];exact World.alloc_heap_new _ _
    have hu8:=HU.out.after hb8
    obtain ⟨q1,r1,rfl,-⟩:=own_shape hu8.r1
    have hc1:W8.cell? ⟨w.heap.size+1,2,none⟩=some (.slice q1 k r1):=by rw [hu8.cell 2];rfl
    have HRG:Hid (W8.rangeAt b 0 zs):=fun i u hi => by
     rw [zc hr8];simpa using hi
    have am1:k+1<=maxLen:=by unfold maxLen;have:=HLT.out;omega
    have am3:(k+1) * 144<=140737488355328:=by have:=HLT.out;omega
    have k3:w.heap.size+2<=(W8.alloc (.cells zs.toArray 115)).heap.size:=by have:=hu8.blt;simp;omega
    have HP1:=zh (fun (v1:Value) (w1:World) (o1:Obj) => GR.push (v:=v1) (w1:=w1) (o1:=o1) (m:=k+1) (ys:=allS (st.S.take k) ++ zs) hu8 2 rfl)
    have H1K:=zh hu8.r1;have HW8:=zh hW8;have HBQ:=zh hbq
    clear hu8 hb7 hb8 hr8 hW8 hbq c2
    go_upto_region 6 with (first
     | (refine Ag.wpList_store_new (by rfl) 115 (.tmp 5) (.tmp 37) (by rfl) zs (by rfl) (by rfl) (by rw [HZL.out];kernel_rfl) (by rw [HZL.out];rfl) HZ1.out ?_;rw [<- HW8.out,<- HBQ.out]))
    go_upto_region 7 with fail
    go_wp2_with (first
     | (refine wpList_load_mid rfl 115 _ rfl _ _ rfl zs _ HRG.out Tryz.underlying115 rfl (by rw [HZL.out];kernel_rfl) ?_)
     | (refine Ag.wpList_one (by rfl) 42 115 _ (by rfl) zs (by rfl) i0 _ Tryz.underlying42 hi hz0 (by rw [hz1];exact HZL.out) (by rw [hz1];decide) (by rw [hz1];decide) ?_)
     | (at_builtin;(refine wpList_append_own_at _ rfl _ _ 42 rfl (w.heap.size+2) 115 i0 (.agg #[.bool false,.bool false,.int .i64 0,.int .i64 0,.int .i64 0,.int .i64 0,.int .i64 0,.int .i64 0,.int .i64 0,.int .i64 0,.string ByteArray.empty,.string ByteArray.empty,.int .u64 0,.int .i64 0,.int .i64 0,.int .i64 0,.int .i64 0]) 17 144 Tryz.underlying42 hi hz0 hz1 hz2 rfl (by decide) _ _ _ rfl (H1K.out.alloc _) ⟨W8.heap.size,0,none⟩ 1 1 zs rfl HZL.out (World.news_of_block (Ut.alloc_at _ _)) HZ1.out am1 am3 k3 ?_);(intro v1 w1 hown' hgrow hnil hat;obtain ⟨q',r',rfl,-⟩:=own_shape hown';obtain ⟨hb1,-,Fp',hn1,hn2,hn3⟩:=HP1.out _ _ _ hown' hgrow hat;(have hc1':w1.cell? ⟨w.heap.size+1,2,none⟩=some (.slice q1 k r1):=zl hb1 rfl);(have hf1:w1.frozen? ⟨w.heap.size+1,2,none⟩=false:=by simp [World.frozen?,hb1]);(have HN:=zh hn1);clear hown' hgrow hat hn1 hn2 hn3 hb1 hnil)))
    refine ⟨⟨k+1,_,Fp',by have:=HLT.out;omega,by go_num,by rw [HTK.out];exact HN.out⟩,by have:=HLT.out;simp [intOf];omega⟩
   ·have b1:(32:Int)<=(k:Int):=by omega
    have hke:k=32:=by omega
    have hrow:wr.ownsRow (w.heap.size+2) 115 17 v 32 (allS st.S):=by
     have:=hu.r1
     rw [hke,List.take_of_length_le (by rw [HLEN.out];exact Nat.le_refl _)] at this
     exact this
    obtain ⟨qv,rv,rfl,-⟩:=own_shape hrow
    have hbw:Below w.heap.size w wr:=HB1D.out.trans (hu.bel.mono (by omega))
    have hf:=HH.out.below hbw
    have c2:=hf.ptrs.1
    have HFR:=zh (frees_any P.a st.S st.free nw wr hf.ar)
    have hblk:wr.heap[w.heap.size+1]? = some (.cells (dumpCs CL BI (.slice qv 32 rv) (.slice none 0 0) GB RO) 45 (0,0)):=hu.row
    have HBW:=zh hbw;have HROW:=zh hrow;have HBLK:=zh hblk;have HBEL:=zh hu.bel
    clear hu hke hrow hbw hf hblk hlt hk HU2 HLEN hi hz0 hz1 hz2
    obtain ⟨i1,hi,hz0,hz1,hz2⟩:=info_parts finfo_int
    go_wp2_with fail
    refine HFR.out.mono ?_
    rintro e w3 ⟨⟨vf,rfl,q1,q2⟩,hb3⟩
    obtain ⟨bx,hbx⟩:∃ bx,bx=wr.heap.size:=⟨_,rfl⟩
    rw [<- hbx] at q1 q2 ⊢
    have hlt1:=(zx HBLK.out)
    have hbe3:Below (w.heap.size+1) W1.drew w3:=HBEL.out.trans (hb3.mono (Nat.le_of_lt hlt1))
    have hrow3:w3.heap[w.heap.size+1]? = some (.cells (dumpCs CL BI (.slice qv 32 rv) (.slice none 0 0) GB RO) 45 (0,0)):=(hb3.block _ hlt1).trans HBLK.out
    have hlt3:=(zx hrow3)
    have hown3:w3.ownsRow (w.heap.size+2) 115 17 (.slice qv 32 rv) 32 (allS st.S):=own_stay HROW.out (fun b e => hb3.block b (HROW.out.lt b e).2)
    have hG3:GR 45 3 1 (fun d => dumpCs CL BI (.slice qv 32 rv) d GB RO) (w.heap.size+1) w3.heap.size W1.drew (.slice none 0 0) 0 [] (fun b => b=w.heap.size+1) w3 :=
     ⟨hrow3,World.ownsRow_nil _ _ _ _,fun b => ⟨.inl,fun h => h.elim id (fun h => by cases h)⟩,hlt3,hbe3⟩
    have HVB:Hid (∀ b,(Value.slice qv 32 rv).ownBlock=some b->b<w3.heap.size):=fun b e => (hown3.lt b e).2
    have HBX:=zh (show w.heap.size+1<bx/\bx<w3.heap.size from ⟨by omega,q1.lt⟩)
    have HUX:=zh (fun b (e:vf.ownBlock=some b) => q2.lt b e)
    have HSEQ:=zh (frees_seq 8 bx vf st.free (by have:=HFL.out;omega) (fun b => b=bx\/vf.ownBlock=some b) w3 (gathered q1 q2))
    have HG3:=zh hG3;have HOWN3:=zh hown3
    clear q1 q2 hb3 hbx hbe3 hrow3 hlt3 hown3 hG3 hlt1 c2
    go_wp2_with fail
    refine (wpIn_wide (n:=9)).1 ?_
    refine Fo.range_foot_sl (F:=Fence.wide) (n:=9) rfl (by omega) (gf:=117) (lb:=#[.pointer (some ⟨bx,0,none⟩)]) rfl trivial (enters_of Tryz.func117 (by kernel_rfl) rfl)
     HSEQ.out (fun _ => rfl) (fun b hb => ⟨by rcases hb with rfl | hb;exact HBX.out.2;exact (HUX.out b hb).2,rfl⟩)
     (fun pre Fp A => ∃ d,GR 45 3 1 (fun d => dumpCs CL BI (.slice qv 32 rv) d GB RO) (w.heap.size+1) w3.heap.size W1.drew d pre.length (pre.map (Value.int .i64)) Fp A/\A.ownsRow (w.heap.size+2) 115 17 (.slice qv 32 rv) 32 (allS st.S)) (fun c pre Fp A => False)
     (fun b => b=w.heap.size+1)
     (fun b hb => ⟨by have h1:=HBX.out;omega,fun h => by
      have h1:=HBX.out
      rcases h with h | h
      ·omega
      ·have:=(HUX.out _ h).1;omega⟩)
     ?hU (fun _ _ _ _ _ _ h _ _ _ => h) ⟨_,HG3.out,HOWN3.out⟩ (fun T x => (T.setIfInBounds 53 (.int .i64 x)).setIfInBounds 7 (.int .i64 x)) ?assign ?body ?done (fun _ _ _ _ _ _ _ h _ _ => h.elim)
    case hU =>
     rintro pre Fp A A' row ⟨d,h1,h2⟩ hsz hg hrow
     exact ⟨d,h1.turn hg (fun r e => ⟨by have:=(hrow r e).1;have h1:=HBX.out;omega,(hrow r e).2⟩),own_stay h2 (fun b e => hg.block b (h2.lt b e).2 (fun e2 => by have:=(hrow b e2.symm).1;have:=HVB.out b e;omega))⟩
    case assign =>
     intro l2 x A K2 hK
     unfold encI
     gi_wp2
     exact hK
    case body =>
     rintro l2 pre x Fp A ⟨d,hu,hs⟩ hszA hpre
     obtain ⟨q1,r1,rfl,-⟩:=own_shape hu.r1
     have hlen:pre.length+1<=32:=by
      have h1:=hpre.length_le
      simp only [List.length_append,List.length_singleton] at h1
      exact Nat.le_trans h1 HFL.out
     obtain ⟨K,hK⟩:∃ K,K=pre.length:=⟨_,rfl⟩
     have hc1:A.cell? ⟨w.heap.size+1,3,none⟩=some (.slice q1 K r1):=by rw [hu.cell 3,hK];rfl
     have am1:K+1<=maxLen:=by unfold maxLen;omega
     have am3:(K+1) * 8<=140737488355328:=by omega
     have k3:w3.heap.size<=(A.alloc (.cells #[.int .i64 x] 3)).heap.size:=by simp;omega
     have hr1:=hu.r1
     have HP1:=zh (fun (v1:Value) (w1:World) (o1:Obj) => GR.push (v:=v1) (w1:=w1) (o1:=o1) (m:=K+1) (ys:=(pre ++ [x]).map (Value.int .i64)) hu 3 rfl)
     have HMAP:Hid ((pre ++ [x]).map (Value.int .i64)=pre.map (Value.int .i64) ++ [Value.int .i64 x]):=List.map_append ..
     have HLN:Hid ((pre ++ [x]).length=K+1):=by show List.length _=_;rw [hK];simp
     have HNV:Hid (∀ b,(Value.slice qv 32 rv).ownBlock=some b->¬ Fp b):=fun b e hf => by
      rcases (hu.fp b).1 hf with h1 | h1
      ·have:=(hs.lt b e).1;omega
      ·have:=(hu.r1.lt b h1).1;have:=HVB.out b e;omega
     rw [<- hK] at hr1
     have H1K:=zh hr1;have HSS:=zh hs;have HKL:=zh hK
     clear hu hs hszA hpre hlen hr1 hK
     gi_wp2_with (gi_at_builtin;(refine wpListIn_append_own_at _ rfl _ _ 43 rfl w3.heap.size 3 i1 (.int .i64 0) 1 8 Tryz.underlying43 hi hz0 hz1 hz2 rfl (by decide) _ _ _ rfl (H1K.out.alloc _) ⟨A.heap.size,0,none⟩ 1 1 [.int .i64 x] rfl rfl (World.news_of_block (Ut.alloc_at _ _)) (by intro u hu;rw [List.mem_singleton.1 hu];rfl) am1 am3 k3 ?_);(intro v1 w1 hown' hgrow hnil hat;obtain ⟨q',r',rfl,-⟩:=own_shape hown';obtain ⟨hb1,-,Fp',hn1⟩:=HP1.out _ _ _ (by rw [HMAP.out];exact hown') (by rw [<- HKL.out];exact hgrow) (by rw [<- HKL.out];exact hat);(have hc1':w1.cell? ⟨w.heap.size+1,3,none⟩=some (.slice q1 K r1):=by rw [zc hb1,HKL.out];rfl);(have hf1:w1.frozen? ⟨w.heap.size+1,3,none⟩=false:=by simp [World.frozen?,hb1]);(have HN:=zh hn1);clear hown' hgrow hat hn1 hb1 hnil))
     exact ⟨Fp',⟨_,by rw [HLN.out];exact HN.out.1,own_stay HSS.out (fun b e => HN.out.2.1.block b (HSS.out.lt b e).2 (HNV.out b e))⟩,HN.out.2.1,HN.out.2.2⟩
    case done =>
     rintro D3 ys Fp A rfl hD ⟨d,hu,hs⟩ hnf hK
     obtain ⟨qd,rd,rfl,-⟩:=own_shape hu.r1
     obtain ⟨ds,hds⟩:∃ ds,ds=[Value.int .i64 CL,Value.int .i64 BI,Value.slice qv 32 rv,Value.slice qd st.free.length rd,Value.int .i64 GB,Value.int .i64 RO]:=⟨_,rfl⟩
     have hB0:A.heap[w.heap.size]? = W1.drew.heap[w.heap.size]?:=hu.bel.block _ (by omega)
     have hR0:A.heap[w.heap.size]? = some (.cells #[.int .i64 0,.int .i64 0,.slice none 0 0,.slice none 0 0,.int .i64 0,.int .i64 0] 45 (0,0)):=hB0.trans HR1.out
     obtain ⟨WF,hWF⟩:∃ WF,WF=World.setCells A w.heap.size 0 ds:=⟨_,rfl⟩
     have hoF:Only (fun b => b=w.heap.size) A WF:=by rw [hWF];exact only_cells _ _ _ (Only.refl _ _)
     have hRF:WF.heap[w.heap.size]? = some (.cells ds.toArray 45 (0,0)):=by
      have:=Ag.setCells_row w.heap.size 45 ds 0 _ A hR0
      rw [Ag.put_all (by rw [hds];rfl)] at this
      rw [hWF];exact this
     have HTH:Hid (A.there w.heap.size 0 ds.length):=Ag.there_row hR0 _ (by rw [hds];show 6<=6;decide)
     have HDL:Hid (ds.length=6):=by show _=_;rw [hds];rfl
     have HD1:Hid (∀ u ∈ ds,u.oneCell'=true):=by
      show ∀ u ∈ ds,_
      rw [hds]
      intro u hu
      simp only [List.mem_cons,List.not_mem_nil,or_false] at hu
      rcases hu with rfl | rfl | rfl | rfl | rfl | rfl <;> rfl
     have HDR:Hid (A.rangeAt (w.heap.size+1) 0 ds):=fun i u hi => by
      rw [zc hu.row]
      rw [hds] at hi
      simpa [dumpCs] using hi
     have hge:w.heap.size+1<D3:=by have:=HBX.out;omega
     have hg:=grownBy_putObj' WF D3 (.deferred none)
     have hDl:=(zx hK)
     have hsz:=hoF.size
     have e0:(WF.putObj D3 (.deferred none)).heap[w.heap.size]? = some (.cells ds.toArray 45 (0,0)):=(hg.block _ (zx hRF) (fun e => by have:=Option.some.inj e;omega)).trans hRF
     have e1:(WF.putObj D3 (.deferred none)).ownsRow w.heap.size 115 17 (.slice qv 32 rv) 32 (allS st.S):=own_down (own_stay hs (fun b e => (hg.block b (Nat.lt_of_lt_of_le (hs.lt b e).2 hsz) (fun e2 => by have:=Option.some.inj e2;have:=HVB.out b e;omega)).trans (hoF.block b (hs.lt b e).2 (by have:=(hs.lt b e).1;omega)))) (by omega)
     have e2:(WF.putObj D3 (.deferred none)).ownsRow w.heap.size 3 1 (.slice qd st.free.length rd) st.free.length (st.free.map (Value.int .i64)):=own_down (own_stay hu.r1 (fun b e => (hg.block b (Nat.lt_of_lt_of_le (hu.r1.lt b e).2 hsz) (fun e2 => by have:=Option.some.inj e2;subst this;exact hnf ((hu.fp _).2 (.inr e)))).trans (hoF.block b (hu.r1.lt b e).2 (by have:=(hu.r1.lt b e).1;have:=HBX.out;omega)))) (by have:=HBX.out;omega)
     have e3:∀ b,(Value.slice qv 32 rv).ownBlock=some b->(Value.slice qd st.free.length rd).ownBlock≠some b:=fun b e e2 => by have:=(hu.r1.lt b e2).1;have:=HVB.out b e;omega
     have e4:Below w.heap.size w (WF.putObj D3 (.deferred none)):=(HB1D.out.trans ((hu.bel.mono (by omega)).trans (hoF.below (B:=w.heap.size) (by have:=hu.blt;omega) (fun i hi e => by omega)))).grown hg (by have:=hu.blt;omega) (fun k e => by have:=Option.some.inj e;omega)
     have HK:Hid (WF.heap[D3]? = some (.deferred (some []))):=(hoF.block _ hDl (by omega)).trans hK
     have HE:=zh (And.intro e0 (And.intro e1 (And.intro e2 (And.intro e3 e4))))
     have HWF:=zh hWF
     have HRE:Hid (Ending.returned (.agg ds.toArray) = .returned (.agg (dumpCs st.clock st.births (.slice qv 32 rv) (.slice qd st.free.length rd) st.garb st.roots))):=by
      show _=_
      rw [hds];exact HFIN.out _ _
     clear hu hs hnf hK hB0 hR0 hWF hoF hRF hge hg hDl hsz e0 e1 e2 e3 e4 hds
     gi_wp2
     go_wp2_with (first
      | (refine wpList_load_mid rfl 45 _ rfl _ _ rfl ds _ HDR.out Tryz.underlying45 rfl (by rw [HDL.out];kernel_rfl) ?_)
      | (refine wpList_store_mid (by rfl) 45 (.tmp 2) (.tmp 60) (by rfl) w.heap.size 0 ds.toArray (by rfl) (by rfl) (by rw [List.size_toArray];exact HTH.out) (by rw [List.size_toArray,HDL.out];kernel_rfl) (all_oneCell_toArray HD1.out) ?_;rw [List.toList_toArray,<- HWF.out]))
     refine ⟨by simp,.inl ⟨_,_,rfl,run_takeDeferred (show WF.heap[D3]? = _ from HK.out),?_⟩⟩
     exact ⟨_,results_cell_row rfl _ _ w.heap.size _ _ (0,0) _ rfl HE.out.1 Tryz.underlying45 rfl (by rw [List.size_toArray,HDL.out];kernel_rfl),⟨_,_,HRE.out,HE.out.2.1,HE.out.2.2.1,HE.out.2.2.2.1⟩,HE.out.2.2.2.2⟩
end
end Fr
end
end Go.Proofs.YtimhglmfckfclaaGreatDoor
namespace Go.Proofs
open Go.Shelf
def Tryz.sortSess_ren:Go.Shelf.Ren:=⟨fun | 6 => 50 | 15 => 120 | 14 => 119 | 28 => 202 | 29 => 203 | 20 => 194 | 21 => 195 | 22 => 196 | 23 => 197 | 24 => 198 | 25 => 199 | 26 => 200 | 27 => 201 | 46 => 252 | 47 => 253 | 48 => 254 | 49 => 255 | 50 => 256 | 57 => 275 | n => n,fun | 22 => 22 | 24 => 30 | 25 => 124 | 3 => 3 | 39 => 214 | 0 => 0 | 53 => 309 | 55 => 27 | 4 => 4 | 46 => 303 | 45 => 302 | 50 => 142 | 5 => 5 | 9 => 9 | 66 => 349 | 70 => 280 | 76 => 372 | 77 => 178 | n => n,fun | n => n⟩
theorem Tryz.sortSess:Go.Proofs.SlLaysF0.n6 Tryz.prog Tryz.sortSess_ren:={
 mixed:=by kernel_rfl
 f6:=⟨Tryz.f50.name,by decide,Tryz.func50.trans (congrArg some (by kernel_rfl))⟩
 f14:=⟨Tryz.f119.name,by decide,Tryz.func119.trans (congrArg some (by kernel_rfl))⟩
 f15:=Tryz.func120.trans (congrArg some (by kernel_rfl))
 f20:=⟨Tryz.f194.name,by decide,Tryz.func194.trans (congrArg some (by kernel_rfl))⟩
 f21:=⟨Tryz.f195.name,by decide,Tryz.func195.trans (congrArg some (by kernel_rfl))⟩
 f22:=⟨Tryz.f196.name,by decide,Tryz.func196.trans (congrArg some (by kernel_rfl))⟩
 f23:=⟨Tryz.f197.name,by decide,Tryz.func197.trans (congrArg some (by kernel_rfl))⟩
 f24:=⟨Tryz.f198.name,by decide,Tryz.func198.trans (congrArg some (by kernel_rfl))⟩
 f25:=⟨Tryz.f199.name,by decide,Tryz.func199.trans (congrArg some (by kernel_rfl))⟩
 f26:=⟨Tryz.f200.name,by decide,Tryz.func200.trans (congrArg some (by kernel_rfl))⟩
 f27:=⟨Tryz.f201.name,by decide,Tryz.func201.trans (congrArg some (by kernel_rfl))⟩
 f28:=Tryz.func202.trans (congrArg some (by kernel_rfl))
 f29:=Tryz.func203.trans (congrArg some (by kernel_rfl))
 f46:=⟨Tryz.f252.name,by decide,Tryz.func252.trans (congrArg some (by kernel_rfl))⟩
 f47:=Tryz.func253.trans (congrArg some (by kernel_rfl))
 f48:=Tryz.func254.trans (congrArg some (by kernel_rfl))
 f49:=⟨Tryz.f255.name,by decide,Tryz.func255.trans (congrArg some (by kernel_rfl))⟩
 f50:=⟨Tryz.f256.name,by decide,Tryz.func256.trans (congrArg some (by kernel_rfl))⟩
 f57:=⟨Tryz.f275.name,by decide,Tryz.func275.trans (congrArg some (by kernel_rfl))⟩
 t0:=Tryz.underlying0
 a0:=Tryz.isAgg0
 z0:=Tryz.sizeOf0
 v0:=Tryz.zeroValue0
 t3:=Tryz.underlying3
 a3:=Tryz.isAgg3
 z3:=Tryz.sizeOf3
 v3:=Tryz.zeroValue3
 t4:=Tryz.underlying4
 a4:=Tryz.isAgg4
 z4:=Tryz.sizeOf4
 v4:=Tryz.zeroValue4
 t5:=Tryz.underlying5
 a5:=Tryz.isAgg5
 z5:=Tryz.sizeOf5
 v5:=Tryz.zeroValue5
 t9:=Tryz.underlying9
 a9:=Tryz.isAgg9
 z9:=Tryz.sizeOf9
 v9:=Tryz.zeroValue9
 t22:=Tryz.underlying22
 a22:=Tryz.isAgg22
 z22:=Tryz.sizeOf22
 v22:=Tryz.zeroValue22
 t25:=Tryz.underlying124
 a25:=Tryz.isAgg124
 z25:=Tryz.sizeOf124
 v25:=Tryz.zeroValue124
 t39:=Tryz.underlying214
 a39:=Tryz.isAgg214
 z39:=Tryz.sizeOf214
 v39:=Tryz.zeroValue214
 t45:=Tryz.underlying302
 a45:=Tryz.isAgg302
 z45:=Tryz.sizeOf302
 v45:=Tryz.zeroValue302
 t46:=Tryz.underlying303
 a46:=Tryz.isAgg303
 z46:=Tryz.sizeOf303
 v46:=Tryz.zeroValue303
 t50:=Tryz.underlying142
 a50:=Tryz.isAgg142
 z50:=Tryz.sizeOf142
 v50:=Tryz.zeroValue142
 t53:=Tryz.underlying309
 a53:=Tryz.isAgg309
 z53:=Tryz.sizeOf309
 v53:=Tryz.zeroValue309
 t55:=Tryz.underlying27
 a55:=Tryz.isAgg27
 z55:=Tryz.sizeOf27
 v55:=Tryz.zeroValue27
 t66:=Tryz.underlying349
 a66:=Tryz.isAgg349
 z66:=Tryz.sizeOf349
 v66:=Tryz.zeroValue349
 t70:=Tryz.underlying280
 a70:=Tryz.isAgg280
 z70:=Tryz.sizeOf280
 v70:=Tryz.zeroValue280
 t76:=Tryz.underlying372
 a76:=Tryz.isAgg372
 z76:=Tryz.sizeOf372
 v76:=Tryz.zeroValue372
 t77:=Tryz.underlying178
 a77:=Tryz.isAgg178
 z77:=Tryz.sizeOf178
 v77:=Tryz.zeroValue178 }
end Go.Proofs
namespace Go.Proofs.YtimhglmfckfclaaGreatDoor
end Go.Proofs.YtimhglmfckfclaaGreatDoor
