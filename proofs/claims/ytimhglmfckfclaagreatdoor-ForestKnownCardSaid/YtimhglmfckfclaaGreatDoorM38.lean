/- Parts of the proof. -/
import Derived.Test.YtimhglmfckfclaaGreatDoorM37
import Derived.Sort.Grow
set_option linter.unusedVariables false
set_option linter.unusedSimpArgs false
set_option maxRecDepth 100000
set_option maxHeartbeats 16000000
namespace Go.Proofs.YtimhglmfckfclaaGreatDoor
section
open Go.RowKit Go.Sort Go.Shelf Go.Lib
namespace Fr
open Vw (Sess)
attribute [local go_sem] Oper.semAt_some
def cfB (x y:Int):Int:=if x<y then -1 else if y<x then 1 else 0
def ltB (x y:Int):Bool:=decide (x<y)
theorem lt_cfB:ltOf cfB=ltB:=by
 funext x y
 unfold ltOf cfB ltB
 by_cases h:x<y
 ·rw [if_pos h];simp [h]
 ·rw [if_neg h]
  split <;> simp [h]
theorem ltB_swo:SWO (ltOf cfB):=by
 rw [lt_cfB]
 refine ⟨fun x => by simp [ltB],fun x y z h k => ?_,fun x y z h k => ?_⟩
 ·simp only [ltB,decide_eq_true_eq] at *;omega
 ·simp only [ltB,decide_eq_false_iff_not] at *;omega
theorem ltB_tot:∀ x y,(ltOf cfB) x y=false->(ltOf cfB) y x=false->x=y:=by
 rw [lt_cfB]
 intro x y h k
 simp only [ltB,decide_eq_false_iff_not] at *
 omega
def pickB (L:List Sess) (b:Int):Sess:=(L.find? fun s => s.birth == b).getD { s0 with birth:=b }
theorem pick_birth (L:List Sess) (b:Int):(pickB L b).birth=b:=by
 unfold pickB
 cases h:L.find? (fun s => s.birth == b) with
 | none => rfl
 | some s => have:=List.find?_some h;simpa using this
theorem pick_mem {L:List Sess} (hd:L.Pairwise fun a b => a.birth≠b.birth) {s:Sess} (hs:s ∈ L):pickB L s.birth=s:=by
 unfold pickB
 induction L with
 | nil => cases hs
 | cons a r ih =>
  have hp:=List.pairwise_cons.1 hd
  rw [List.find?_cons]
  rcases List.mem_cons.1 hs with rfl | hs
  ·simp
  ·have:(a.birth == s.birth)=false:=by rw [beq_eq_false_iff_ne];exact hp.1 s hs
   rw [this]
   exact ih hp.2 hs
def encB (L:List Sess) (b:Int):List Value:=(pickB L b).cells
theorem encB_len (L:List Sess) (b:Int):(encB L b).length=12:=rfl
def srtB (L:List Sess):List Int:=(L.map (·.birth)).mergeSort fun x y => !(ltOf cfB) y x
theorem srtB_eq {L:List Sess} (hd:L.Pairwise fun a b => a.birth≠b.birth):srtB L=(sortB L).map (·.birth):=by
 obtain ⟨h1,h2⟩:=sortB_spec L hd
 have hM:(srtB L).Perm (L.map (·.birth)):=List.mergeSort_perm _ _
 have hn:L.Nodup:=hd.imp (fun h e => h (by rw [e]))
 have hn2:(sortB L).Nodup:=h2.imp (fun h e => by rw [e] at h;omega)
 have hB:(sortB L).Perm L:=(List.perm_ext_iff_of_nodup hn2 hn).2 h1
 have hs1:(srtB L).Pairwise fun x y => (ltOf cfB) y x=false:=by
  have h:=List.pairwise_mergeSort (le:=fun x y => !(ltOf cfB) y x) (l:=L.map (·.birth)) (by
   intro a b c h1 h2
   rw [lt_cfB] at *
   simp only [ltB,Bool.not_eq_true',decide_eq_false_iff_not] at *
   omega) (by
   intro a b
   rw [lt_cfB]
   simp only [ltB,Bool.or_eq_true,Bool.not_eq_true',decide_eq_false_iff_not]
   omega)
  exact h.imp fun {a b} hab => by simpa using hab
 have hs2:((sortB L).map (·.birth)).Pairwise fun x y => (ltOf cfB) y x=false:=by
  rw [List.pairwise_map]
  refine h2.imp fun {a b} h => ?_
  rw [lt_cfB]
  simp only [ltB,decide_eq_false_iff_not]
  omega
 exact List.Perm.eq_of_pairwise (le:=fun x y => (ltOf cfB) y x=false) (fun a b _ _ h1 h2 => ltB_tot a b h2 h1) hs1 hs2 (hM.trans (hB.map _).symm)
theorem flat_enc {L M:List Sess} (h:∀ s ∈ M,pickB L s.birth=s):(M.map (·.birth)).flatMap (encB L)=allC M:=by
 unfold allC
 rw [List.flatMap_map]
 induction M with
 | nil => rfl
 | cons a r ih =>
  rw [List.flatMap_cons,List.flatMap_cons,ih (fun s hs => h s (List.mem_cons_of_mem _ hs))]
  unfold encB
  rw [h a (List.mem_cons_self ..)]
theorem sortB_len {L:List Sess} (hd:L.Pairwise fun a b => a.birth≠b.birth):(sortB L).length=L.length:=by
 have h1:=congrArg List.length (srtB_eq hd)
 unfold srtB at h1
 rw [List.length_mergeSort,List.length_map,List.length_map] at h1
 omega
theorem nan_int (x:Int) (w:World):Calls Tryz.prog 121 #[.int .i64 x] w fun e w' => e = .returned (.bool false)/\w=w':=by
 have hq:(x != x)=false:=by simp
 go_enter Tryz.func121,Tryz.ntmps121
 go_wp2
 go_ret
 exact ⟨rfl,rfl⟩
theorem cmp_int (x y:Int) (w:World):Calls Tryz.prog 52 #[.int .i64 x,.int .i64 y] w fun e w' => e = .returned (.int .i64 (cfB x y))/\w=w':=by
 by_cases h1:x<y
 ·have hc:cfB x y = -1:=if_pos h1
  rw [hc]
  clear hc
  go_enter Tryz.func52,Tryz.ntmps52
  go_wp2_with (go_at_call 121;(with_reducible refine (nan_int _ _).mono ?_);rintro e w' ⟨rfl,rfl⟩)
  go_ret
  exact ⟨rfl,rfl⟩
 ·by_cases h2:y<x
  ·have hc:cfB x y=1:=(if_neg h1).trans (if_pos h2)
   have hd:decide (x<y)=false:=decide_eq_false h1
   rw [hc]
   clear hc h1
   go_enter Tryz.func52,Tryz.ntmps52
   go_wp2_with (go_at_call 121;(with_reducible refine (nan_int _ _).mono ?_);rintro e w' ⟨rfl,rfl⟩)
   go_ret
   exact ⟨rfl,rfl⟩
  ·have hc:cfB x y=0:=(if_neg h1).trans (if_neg h2)
   have hd:decide (x<y)=false:=decide_eq_false h1
   have hd2:decide (y<x)=false:=decide_eq_false h2
   have h3:x=y:=by omega
   rw [hc]
   clear hc h1 h2 h3
   go_enter Tryz.func52,Tryz.ntmps52
   go_wp2_with (go_at_call 121;(with_reducible refine (nan_int _ _).mono ?_);rintro e w' ⟨rfl,rfl⟩)
   go_ret
   exact ⟨rfl,rfl⟩
theorem scmp_any (cs ds:List Value) (x y:Int) (hcl:cs.length=12) (hdl:ds.length=12) (hc:cs[1]? = some (.int .i64 x)) (hd:ds[1]? = some (.int .i64 y)) (W:World) :
  Calls Tryz.prog 51 #[.agg cs.toArray,.agg ds.toArray] W fun e w' => e = .returned (.int .i64 (cfB x y))/\∃ q os',w'=grow (W.drewN q) os':=by
 obtain ⟨W2,hW2⟩:∃ W2,W2=(W.alloc (.cells cs.toArray 30)).alloc (.cells ds.toArray 30):=⟨_,rfl⟩
 have HG:Hid (∃ q os',W2=grow (W.drewN q) os'):=⟨0,#[.cells cs.toArray 30,.cells ds.toArray 30],by rw [hW2,alloc_eq_grow,alloc_eq_grow,grow_grow];rfl⟩
 have k1:W2.heap[W.heap.size]? = some (.cells cs.toArray 30 (0,0)):=by
  rw [hW2,Below.heap_alloc _ _ _ (by simp)];exact World.alloc_heap_new _ _
 have k2:W2.heap[W.heap.size+1]? = some (.cells ds.toArray 30 (0,0)):=by
  have:=World.alloc_heap_new (W.alloc (.cells cs.toArray 30)) (.cells ds.toArray 30)
  rw [World.size_alloc] at this
  rw [hW2];exact this
 have c1:W2.cell? ⟨W.heap.size,1,none⟩=some (.int .i64 x):=by rw [zc k1];simpa using hc
 have c2:W2.cell? ⟨W.heap.size+1,1,none⟩=some (.int .i64 y):=by rw [zc k2];simpa using hd
 have HW2:=zh hW2
 clear k1 k2 hW2 hc hd
 have HCL:=zh hcl;have HDL:=zh hdl
 clear hcl hdl
 go_enter Tryz.func51,Tryz.ntmps51
 go_upto_region 1 with (first
  | (refine wpList_box_agg (by rfl) 30 (.tmp 0) (by rfl) cs (by rfl) ?_)
  | (refine wpList_box_agg (by rfl) 30 (.tmp 1) (by rfl) ds (by rfl) ?_))
 rw [<- HW2.out]
 go_wp2_with (go_at_call 52;(with_reducible refine (cmp_int _ _ _).mono ?_);rintro e w' ⟨rfl,rfl⟩)
 go_ret
 exact ⟨rfl,HG.out⟩
theorem ses_agg:∀ w,(isAgg 30).run Tryz.prog w = .ok true w:=Tryz.isAgg30
theorem ses_size:∀ w,(Go.sizeOf 30).run Tryz.prog w = .ok 12 w:=Tryz.sizeOf30
theorem flat_list (enc:Int->List Value) (k:Nat) (hk0:0<k) (hk:∀ x,(enc x).length=k) (d:List Int):(flatK enc k d.toArray).toList=d.flatMap enc:=by
 have hlen:∀ d:List Int,(d.flatMap enc).length=d.length * k:=fun d => by
  induction d with
  | nil => simp
  | cons a r ih => rw [List.flatMap_cons,List.length_append,ih,hk,List.length_cons];rw [Nat.add_mul];omega
 have hcell:∀ (d:List Int) (j c:Nat) (hj:j<d.length),c<k->(d.flatMap enc)[j * k+c]? = (enc d[j])[c]?:=fun d => by
  induction d with
  | nil => intro j c hj;simp at hj
  | cons a r ih =>
   intro j c hj hc
   rw [List.flatMap_cons]
   cases j with
   | zero => rw [List.getElem?_append_left (by rw [hk];omega)];simp
   | succ j =>
    rw [List.getElem?_append_right (by rw [hk,Nat.add_mul];omega),hk,show (j+1) * k+c-k=j * k+c by rw [Nat.add_mul];omega]
    exact ih j c (by simpa using hj) hc
 refine List.ext_getElem (by rw [hlen];simp) fun t h1 h2 => ?_
 have ht:t<d.toArray.size * k:=by simpa using h1
 have hg:=get_flatK enc k d.toArray t ht
 have hj:t / k<d.length:=by
  have:t<d.length * k:=by simpa using ht
  exact Nat.div_lt_of_lt_mul (by rw [Nat.mul_comm];exact this)
 have hc:t % k<k:=Nat.mod_lt _ hk0
 have h3:=hcell d (t / k) (t % k) hj hc
 rw [Nat.mul_comm,Nat.div_add_mod] at h3
 rw [List.getElem?_eq_getElem h2] at h3
 have e1:(flatK enc k d.toArray).toList[t]=(flatK enc k d.toArray)[t]!:=by
  rw [getElem!_pos _ t (by simpa using h1)];simp
 rw [e1,hg]
 have e2:d.toArray[t / k]! = d[t / k]:=by rw [getElem!_pos _ _ (by simpa using hj)];simp
 rw [e2]
 have h4:t % k<(enc d[t / k]).length:=by rw [hk];exact hc
 rw [getElem!_pos (enc d[t / k]) (t % k) h4]
 rw [List.getElem?_eq_getElem h4] at h3
 exact (Option.some.inj h3).symm
theorem only_sort' (enc:Int->List Value) (k:Nat) (w:World) (blk off m:Nat) (dk:Array Int) (os:Array Obj):Only (fun i => i=blk) w (sortWorldK enc k w blk off m dk os):=by
 refine ⟨rfl,rfl,rfl,size_sortWorldK_c enc k w blk off m dk os,fun i hi hF => ?_⟩
 unfold sortWorldK
 rw [heap_grow_old _ _ (by rw [size_putRowK];exact hi)]
 unfold putRowK putRow mapBlock
 simp only [Array.getElem?_modify]
 rw [if_neg (fun e => hF e.symm)]
 rfl
theorem block_sort (enc:Int->List Value) (k:Nat) (w:World) (blk m:Nat) (dk:Array Int) (os:Array Obj) {cur:Array Value} {t:TypeId} (h:w.heap[blk]? = some (.cells cur t (0,0))) :
  (sortWorldK enc k w blk 0 m dk os).heap[blk]? = some (.cells (putCells id 0 (flatK enc k dk) cur) t (0,0)):=by
 have hl:=(zx h)
 unfold sortWorldK
 rw [heap_grow_old _ _ (by rw [size_putRowK];exact hl)]
 unfold putRowK putRow mapBlock
 simp only [Array.getElem?_modify,if_pos]
 show (w.heap[blk]?).map _=_
 rw [h]
 rfl
theorem ssort_any (lo:Nat) (v:Value) (L:List Sess) (W:World) (hrow:W.ownsRow lo 30 12 v L.length (allC L)) (hl:L.length<=65536) (hd:L.Pairwise fun a b => a.birth≠b.birth) :
  Calls Tryz.prog 50 #[v,.func (.func 51) #[] #[]] W fun e W' =>
   e = .returned (.tuple #[])/\W'.ownsRow lo 30 12 v L.length (allC (sortB L))/\Only (fun i => v.ownBlock=some i) W W':=by
 have hlen:=sortB_len hd
 have hmem:∀ s ∈ sortB L,pickB L s.birth=s:=fun s hs => pick_mem hd (((sortB_spec L hd).1 s).1 hs)
 rcases hrow.2 with ⟨rfl,h0⟩ | ⟨gg,cap,cur,rfl,hlo,hb,hcap,hmx,hsz,htk⟩
 ·have e:L=[]:=List.length_eq_zero_iff.1 h0
  subst e
  refine (AnyF.slices_SortFunc_none Tryz.sortSess none 0 _ W).mono fun e W' ⟨he,hw⟩ => ?_
  rw [hw]
  exact ⟨he,hrow,Only.refl _ _⟩
 ·have hblk:gg<W.heap.size:=(zx hb)
  obtain ⟨d,hdd⟩:∃ d:List Int,d=L.map (·.birth):=⟨_,rfl⟩
  have hds:d.toArray.size=L.length:=by rw [hdd];simp
  have hfl:(flatK (encB L) 12 d.toArray).toList=allC L:=by
   rw [flat_list (encB L) 12 (by decide) (encB_len L),hdd]
   exact flat_enc (fun s hs => pick_mem hd hs)
  have hH:HoldsK (encB L) 12 W gg 0 d.toArray:=by
   intro j hj
   have hj2:j<L.length * 12:=by rw [size_flatK,hds] at hj;exact hj
   rw [Nat.zero_add,zc hb]
   refine ⟨?_,by simp [World.frozen?,hb]⟩
   have e1:(flatK (encB L) 12 d.toArray)[j]! = (flatK (encB L) 12 d.toArray)[j]:=getElem!_pos _ j hj
   rw [e1]
   have e2:(allC L)[j]? = some ((flatK (encB L) 12 d.toArray)[j]):=by
    rw [<- hfl];simp [hj]
   rw [<- htk,List.getElem?_take,if_pos hj2] at e2
   simpa using e2
  have hc:=AnyQ.slices_SortFunc_total Tryz.sortSess 12 ses_agg ses_size (encB L) (fun _ => rfl) (fun x => sess_one' _) cfB ltB_swo 51 #[] gg 0 cap d.toArray W
   (enters_of Tryz.func51 (by kernel_rfl) rfl) (fun m os dk _ x y => scmp_any (encB L x) (encB L y) x y rfl rfl (by show some (Value.int .i64 (pickB L x).birth)=_;rw [pick_birth]) (by show some (Value.int .i64 (pickB L y).birth)=_;rw [pick_birth]) _) hH hblk (by rw [hds];omega) ltB_tot
  rw [hds] at hc
  refine hc.mono fun e W' ⟨he,m,os,hw⟩ => ?_
  have hM:(d.toArray.toList.mergeSort fun x y => !(ltOf cfB) y x)=(sortB L).map (·.birth):=by rw [hdd,List.toList_toArray];exact srtB_eq hd
  rw [hM] at hw
  have hb2:=block_sort (encB L) 12 W gg m ((sortB L).map (·.birth)).toArray os hb
  rw [<- hw] at hb2
  have hfl2:(flatK (encB L) 12 ((sortB L).map (·.birth)).toArray).toList=allC (sortB L):=by
   rw [flat_list (encB L) 12 (by decide) (encB_len L)]
   exact flat_enc hmem
  have hfs:(flatK (encB L) 12 ((sortB L).map (·.birth)).toArray).size=L.length * 12:=by simp [hlen]
  refine ⟨he,⟨by rw [allC_len,hlen],.inr ⟨gg,cap,_,rfl,hlo,hb2,hcap,hmx,by unfold putCells;simp [hsz],?_⟩⟩,?_⟩
  ·rw [<- hfl2]
   refine List.ext_getElem ?_ fun t h1 h2 => ?_
   ·have e1:(putCells id 0 (flatK (encB L) 12 ((sortB L).map (·.birth)).toArray) cur).toList.length=cap * 12:=by unfold putCells;simp [hsz]
    have e2:(flatK (encB L) 12 ((sortB L).map (·.birth)).toArray).toList.length=L.length * 12:=hfs
    rw [List.length_take,e1,e2]
    have:=Nat.mul_le_mul_right 12 hcap
    omega
   ·rw [List.getElem_take]
    unfold putCells
    simp only [Array.getElem_toList,Array.getElem_mapIdx,Nat.zero_add,Nat.zero_le,true_and,Nat.sub_zero,id_eq]
    have ht:t<(flatK (encB L) 12 ((sortB L).map (·.birth)).toArray).size:=by simpa using h2
    rw [if_pos ht,getElem!_pos _ t ht]
  ·rw [hw]
   exact (only_sort' (encB L) 12 W gg 0 m _ os).mono (fun i _ e => by rw [e];rfl)
end Fr
end
section
open Go.RowKit
namespace Fo
variable {F:Fence} {n:Nat} {P:Program}
theorem range_foot_own_sl {α:Type} {g:Operand} {ps:Array Tmp} {assign body:Code} {Q:Exit->Act->World->Prop} {a:Act} {w w0:World}
  (hro:F.round=none) (h1:1<=n) {gf:Nat} {lb:Array Value} (hg:a.eval g = .func (.func gf) #[] lb) (hFg:F.fn gf) (eg:∀ args w,(callFunc gf args).run P w = .ok (.enter gf args) w)
  {encs:α->Array Value} {S Sp:List α->Prop} {C:Nat->Prop} (hseq:SeqF F (n-1) P gf lb encs S Sp C w0) (hps:∀ x,(encs x).size=ps.size) (hC:∀ b,C b->b<w.heap.size/\w.heap[b]? = w0.heap[b]?)
  (U:List α->(Nat->Prop)->World->Prop) (Ux:Code->List α->(Nat->Prop)->World->Prop) (Fp0:Nat->Prop) (hFp0:∀ b,Fp0 b->b<w.heap.size/\¬ C b)
  (hU:∀ pre Fp A A' row,U pre Fp A->w.heap.size<=A.heap.size->A.grownBy A' row->(∀ r,row=some r->w.heap.size<=r/\¬ Fp r)->U pre Fp A')
  (hUx:∀ c pre Fp A A' row,Ux c pre Fp A->w.heap.size<=A.heap.size->A.grownBy A' row->(∀ r,row=some r->w.heap.size<=r/\¬ Fp r)->Ux c pre Fp A')
  (h0:U [] Fp0 w) (sl:Array Value->α->Array Value)
  (hassign:∀ (l:Nat) (x:α) (W:World) (K:Act->World->Prop),K { tmps:=sl a.tmps x,defers:=[] } W->assign.wpIn (F.inRound l) (n-1-1) P (Exit.then K (fun _ _ _ => False)) { tmps:=(ps.zip (encs x)).foldl (fun t (p,v) => t.setIfInBounds p v) a.tmps,defers:=[] } W)
  (hbody:∀ (l:Nat) (pre:List α) (x:α) (Fp:Nat->Prop) (W:World),U pre Fp W->w.heap.size<=W.heap.size->Sp (pre ++ [x])->(w.heap.size<=l/\¬ Fp l/\∃ r,W.heap[l]? = some (.loop r))->body.wpIn (F.inRound l) (n-1-1) P (Left Fp U Ux (pre ++ [x]) W) { tmps:=sl a.tmps x,defers:=[] } W)
  (hdone:∀ (d:Nat) (xs:List α) (Fp:Nat->Prop) (W:World),S xs->w.heap.size<=d->U xs Fp W->¬ Fp d->W.heap[d]? = some (.deferred (some []))->Q .normal { a with defers:={ target:=.collected d,args:=#[] } :: a.defers } W)
  (hstop:∀ (d:Nat) (c:Code) (pre:List α) (Fp:Nat->Prop) (W:World),Sp pre->w.heap.size<=d->Ux c pre Fp W->¬ Fp d->W.heap[d]? = some (.deferred (some []))->c.wpIn F n P Q { a with defers:={ target:=.collected d,args:=#[] } :: a.defers } W) :
  (Code.rangeFunc g ps assign body).wpIn F n P Q a w:=by
 refine wpIn_rangeFunc fun fn hfn => ?_
 rw [hro]
 let rec_:LoopState->Option Code->Loop:=fun st pe => { state:=st,pending:=pe,fn,tmps:=a.tmps,params:=ps,assign,body,defers:=w.heap.size }
 have hrs:∀ st pe,(rec_ st pe).state=st:=fun _ _ => rfl
 have hrp:∀ st pe,(rec_ st pe).params=ps:=fun _ _ => rfl
 have hrb:∀ st pe st' pe',{ rec_ st pe with state:=st',pending:=pe' }=rec_ st' pe':=fun _ _ _ _ => rfl
 have hrb2:∀ st pe st',{ rec_ st pe with state:=st' }=rec_ st' pe:=fun _ _ _ => rfl
 have hrf:∀ st pe,(rec_ st pe).fn=fn/\(rec_ st pe).assign=assign/\(rec_ st pe).body=body/\(rec_ st pe).tmps=a.tmps/\(rec_ st pe).pending=pe:=fun _ _ => ⟨rfl,rfl,rfl,rfl,rfl⟩
 have hent:(Instr.enterLoop fn a.tmps ps assign body none).run P w = .ok (w.heap.size+1,[{ target:=.collected w.heap.size,args:=#[] }]) ((w.alloc (.deferred (some []))).alloc (.loop (rec_ .ready none))):=run_enterLoop_outer fn a.tmps ps assign body
 let Bk:Loop->World->Prop:=fun r W => W.heap[w.heap.size+1]? = some (.loop r)/\W.heap[w.heap.size]? = some (.deferred (some []))
 have hBk:∀ r W,Bk r W↔(W.heap[w.heap.size+1]? = some (.loop r)/\W.heap[w.heap.size]? = some (.deferred (some []))):=fun _ _ => Iff.rfl
 generalize hW1:(w.alloc (.deferred (some []))).alloc (.loop (rec_ .ready none))=W1 at hent
 have hs1:W1.heap.size=w.heap.size+2:=by subst hW1;rw [World.size_alloc,World.size_alloc]
 have hB1:Bk (rec_ .ready none) W1:=by
  subst hW1
  refine ⟨?_,(Below.heap_alloc _ _ _ (by simp)).trans (World.alloc_heap_new w _)⟩
  have:=World.alloc_heap_new (w.alloc (.deferred (some []))) (.loop (rec_ .ready none))
  rwa [World.size_alloc] at this
 have hg1:w.grownBy W1 none:=by subst hW1;exact ⟨rfl,rfl,rfl,by simp;omega,fun k hk _ => by rw [Below.heap_alloc _ _ _ (by simp;omega),Below.heap_alloc _ _ _ hk]⟩
 have hU1:U [] Fp0 W1:=hU _ _ _ _ _ h0 (Nat.le_refl _) hg1 (fun r e => by cases e)
 have hC1:∀ b,C b->b<W1.heap.size/\W1.heap[b]? = w0.heap[b]?:=fun b hb => by
  obtain ⟨h1,h2⟩:=hC b hb
  exact ⟨by omega,by rw [hg1.block b h1 (fun e => by cases e)];exact h2⟩
 clear_value Bk rec_
 have keep:∀ {r A B} {Fp:Nat->Prop},Only Fp A B->¬ Fp w.heap.size->¬ Fp (w.heap.size+1)->Bk r A->Bk r B:=fun hk f0 f1 hb => by
  rw [hBk] at hb ⊢
  exact ⟨(hk.block _ (zx hb.1) f1).trans hb.1,(hk.block _ (zx hb.2) f0).trans hb.2⟩
 have big:∀ {r A},Bk r A->w.heap.size+1<A.heap.size:=fun hb => by rw [hBk] at hb;exact (zx hb.1)
 have turn:∀ {r A} (r':Loop),Bk r A->Bk r' (A.putObj (w.heap.size+1) (.loop r')):=fun r' hb => by
  have h:=big hb
  rw [hBk] at hb ⊢
  exact ⟨World.putObj_heap_same h,(World.putObj_heap_other (by omega)).trans hb.2⟩
 refine ⟨w.heap.size+1,[{ target:=.collected w.heap.size,args:=#[] }],W1,{ target:=.fn (.func gf) lb,args:=#[.func (.yield (w.heap.size+1)) #[] #[]] },W1,gf,#[.func (.yield (w.heap.size+1)) #[] #[]] ++ lb,W1,hent,?_,?_,?_,fun _ => h1,?_⟩
 ·simp only [resolve,hg]
  simp [go_sem]
 ·intro f' hf';simp [Target.leads] at hf';subst hf';exact hFg
 ·simp [invoke,go_sem,eg]
 refine (hseq (w.heap.size+1) (fun pre Fp' A => ∃ Fp,(∀ b,Fp' b↔Fp b\/b=w.heap.size+1)/\U pre Fp A/\Bk (rec_ .ready none) A/\¬ Fp w.heap.size/\¬ Fp (w.heap.size+1)) (fun pre Fp' A => ∃ Fp c,(∀ b,Fp' b↔Fp b\/b=w.heap.size+1)/\Ux c pre Fp A/\Bk (rec_ .done (some c)) A/\¬ Fp w.heap.size/\¬ Fp (w.heap.size+1)) W1 (fun b => Fp0 b\/b=w.heap.size+1) hC1 ?_ ?_ ?_ ?_ ?_).mono ?_
 ·rintro b (hb | rfl)
  ·exact ⟨by have:=(hFp0 b hb).1;omega,(hFp0 b hb).2⟩
  ·exact ⟨by omega,fun hc => by have:=(hC _ hc).1;omega⟩
 ·rintro pre Fp' A A' row ⟨Fp,hF,hu,hb,f0,f1⟩ hsz hg hrow
  have hnl:∀ r,row=some r->w.heap.size<=r/\¬ Fp r:=fun r e => ⟨by have:=(hrow r e).1;omega,fun hf => (hrow r e).2 ((hF r).2 (.inl hf))⟩
  refine ⟨Fp,hF,hU _ _ _ _ _ hu (by omega) hg hnl,?_,f0,f1⟩
  rw [hBk] at hb ⊢
  exact ⟨(hg.block _ (zx hb.1) (fun e => by have:=(hrow _ e.symm).1;omega)).trans hb.1,(hg.block _ (zx hb.2) (fun e => by have:=(hrow _ e.symm).1;omega)).trans hb.2⟩
 ·rintro pre Fp' A A' row ⟨Fp,c,hF,hu,hb,f0,f1⟩ hsz hg hrow
  have hnl:∀ r,row=some r->w.heap.size<=r/\¬ Fp r:=fun r e => ⟨by have:=(hrow r e).1;omega,fun hf => (hrow r e).2 ((hF r).2 (.inl hf))⟩
  refine ⟨Fp,c,hF,hUx _ _ _ _ _ _ hu (by omega) hg hnl,?_,f0,f1⟩
  rw [hBk] at hb ⊢
  exact ⟨(hg.block _ (zx hb.1) (fun e => by have:=(hrow _ e.symm).1;omega)).trans hb.1,(hg.block _ (zx hb.2) (fun e => by have:=(hrow _ e.symm).1;omega)).trans hb.2⟩
 ·rintro pre x Fp' A ⟨Fp,hF,hu,hb,f0,f1⟩ hsz hlen
  have hl0:=((hBk _ _).1 hb).1
  have hy:=run_yield (P:=P) (args:=encs x) hl0 (by rw [hrp];exact hps x)
  obtain ⟨e1,e2,e3,e4,e5⟩:=hrf .ready none
  rw [e1,e2,e3,e4,hrp] at hy
  have hub:U pre Fp (A.putObj (w.heap.size+1) (.loop (rec_ .busy none))):=hU _ _ _ _ _ hu (by omega) (grownBy_putObj' A (w.heap.size+1) _) (fun r e => by cases e;exact ⟨Nat.le_succ _,f1⟩)
  have hbb:Bk (rec_ .busy none) (A.putObj (w.heap.size+1) (.loop (rec_ .busy none))):=turn _ hb
  have hsb:(A.putObj (w.heap.size+1) (.loop (rec_ .busy none))).heap.size=A.heap.size:=by simp
  refine ⟨fn,_,assign,body,hy,roundIn_of_wpIn hfn (hassign _ x A _ ⟨_,by have:=run_beginRound (P:=P) hl0 (hrs _ _);rw [hrb2] at this;exact this,?_⟩)⟩
  refine wpIn_mono (hbody _ pre x Fp _ hub (by rw [hsb];omega) hlen ⟨Nat.le_succ _,f1,_,((hBk _ _).1 hbb).1⟩) ?_
  have fin:∀ (jump:Option Code) (W3:World),Only Fp (A.putObj (w.heap.size+1) (.loop (rec_ .busy none))) W3 ->
    (Instr.endRound (w.heap.size+1) jump).run P W3 = .ok (.bool jump.isNone) (W3.putObj (w.heap.size+1) (.loop (rec_ (if jump.isNone then .ready else .done) jump))) /\
    W3.heap[w.heap.size+1]? = some (.loop (rec_ .busy none))/\Bk (rec_ (if jump.isNone then .ready else .done) jump) (W3.putObj (w.heap.size+1) (.loop (rec_ (if jump.isNone then .ready else .done) jump))):=fun jump W3 hk3 => by
   have hb3:=keep hk3 f0 f1 hbb
   have hl3:=((hBk _ _).1 hb3).1
   have:=run_endRound (P:=P) jump hl3
   rw [hrb] at this
   exact ⟨this,hl3,turn _ hb3⟩
  have hbs:=big hb
  have grow_:∀ (W3:World) (Fp2:Nat->Prop) (jump:Option Code),Only Fp (A.putObj (w.heap.size+1) (.loop (rec_ .busy none))) W3->(∀ b,Fp2 b->Fp b\/(A.putObj (w.heap.size+1) (.loop (rec_ .busy none))).heap.size<=b)->¬ Fp2 w.heap.size/\¬ Fp2 (w.heap.size+1) /\
    Only Fp' A (W3.putObj (w.heap.size+1) (.loop (rec_ (if jump.isNone then .ready else .done) jump)))/\∀ b,(Fp2 b\/b=w.heap.size+1)->Fp' b\/A.heap.size<=b:=fun W3 Fp2 jump ho2 hn2 => by
   rw [hsb] at hn2
   refine ⟨fun h => ?_,fun h => ?_,?_,?_⟩
   ·rcases hn2 _ h with h | h
    ·exact f0 h
    ·omega
   ·rcases hn2 _ h with h | h
    ·exact f1 h
    ·omega
   ·have s0:W3.heap.size=(W3.putObj (w.heap.size+1) (.loop (rec_ (if jump.isNone then .ready else .done) jump))).heap.size:=by simp
    refine ⟨ho2.os,ho2.tape,ho2.output,?_,fun k hk hnf => ?_⟩
    ·have:=ho2.size;rw [hsb] at this;rw [<- s0];exact this
    ·have hk1:k≠w.heap.size+1:=fun e => hnf ((hF k).2 (.inr e))
     have hk2:¬ Fp k:=fun h => hnf ((hF k).2 (.inl h))
     rw [World.putObj_heap_other hk1,ho2.block k (by rw [hsb];exact hk) hk2,World.putObj_heap_other hk1]
   ·rintro b (hb5 | rfl)
    ·rcases hn2 b hb5 with h | h
     ·exact .inl ((hF b).2 (.inl h))
     ·exact .inr h
    ·exact .inl ((hF _).2 (.inr rfl))
  rintro e a3 W3 hp
  cases e with
  | normal =>
   obtain ⟨Fp2,hu2,ho2,hn2⟩:=hp
   obtain ⟨hr,hl3,hb4⟩:=fin none W3 ho2
   obtain ⟨g0,g1,k1,k2⟩:=grow_ W3 Fp2 none ho2 hn2
   exact ⟨_,_,hr,.inl ⟨rfl,fun b => Fp2 b\/b=w.heap.size+1,⟨Fp2,fun b => Iff.rfl,hU _ _ _ _ _ hu2 (by have:=ho2.size;rw [hsb] at this;omega) (grownBy_putObj' W3 (w.heap.size+1) _) (fun r e => by cases e;exact ⟨Nat.le_succ _,g1⟩),hb4,g0,g1⟩,k1,k2⟩⟩
  | ret =>
   obtain ⟨Fp2,hu2,ho2,hn2⟩:=hp
   obtain ⟨hr,hl3,hb4⟩:=fin (some .ret) W3 ho2
   obtain ⟨g0,g1,k1,k2⟩:=grow_ W3 Fp2 (some .ret) ho2 hn2
   exact ⟨_,_,hr,.inr ⟨rfl,fun b => Fp2 b\/b=w.heap.size+1,⟨Fp2,.ret,fun b => Iff.rfl,hUx _ _ _ _ _ _ hu2 (by have:=ho2.size;rw [hsb] at this;omega) (grownBy_putObj' W3 (w.heap.size+1) _) (fun r e => by cases e;exact ⟨Nat.le_succ _,g1⟩),hb4,g0,g1⟩,k1,k2⟩⟩
  | exit id =>
   obtain ⟨Fp2,hu2,ho2,hn2⟩:=hp
   obtain ⟨hr,hl3,hb4⟩:=fin (some (.exit id)) W3 ho2
   obtain ⟨g0,g1,k1,k2⟩:=grow_ W3 Fp2 (some (.exit id)) ho2 hn2
   exact ⟨_,_,hr,.inr ⟨rfl,fun b => Fp2 b\/b=w.heap.size+1,⟨Fp2,(.exit id),fun b => Iff.rfl,hUx _ _ _ _ _ _ hu2 (by have:=ho2.size;rw [hsb] at this;omega) (grownBy_putObj' W3 (w.heap.size+1) _) (fun r e => by cases e;exact ⟨Nat.le_succ _,g1⟩),hb4,g0,g1⟩,k1,k2⟩⟩
  | goto t =>
   obtain ⟨Fp2,hu2,ho2,hn2⟩:=hp
   obtain ⟨hr,hl3,hb4⟩:=fin (some (.goto t)) W3 ho2
   obtain ⟨g0,g1,k1,k2⟩:=grow_ W3 Fp2 (some (.goto t)) ho2 hn2
   exact ⟨_,_,hr,.inr ⟨rfl,fun b => Fp2 b\/b=w.heap.size+1,⟨Fp2,(.goto t),fun b => Iff.rfl,hUx _ _ _ _ _ _ hu2 (by have:=ho2.size;rw [hsb] at this;omega) (grownBy_putObj' W3 (w.heap.size+1) _) (fun r e => by cases e;exact ⟨Nat.le_succ _,g1⟩),hb4,g0,g1⟩,k1,k2⟩⟩
  | panic ch => exact hp.elim
  | outgrown => exact hp.elim
 ·exact ⟨Fp0,fun b => Iff.rfl,hU1,hB1,fun h => by have:=(hFp0 _ h).1;omega,fun h => by have:=(hFp0 _ h).1;omega⟩
 ·rintro e W2 ⟨⟨v,rfl⟩,(⟨pre,Fp',hS,Fp,hF,hd,hb,f0,f1⟩ | ⟨pre,Fp',hSp,Fp,c,hF,hx,hb,f0,f1⟩)⟩
  ·have hb2:=(hBk _ _).1 hb
   have hbs:=big hb
   exact ⟨none,_,by have:=run_endLoop (P:=P) hb2.1 (by rw [hrs];simp);rw [(hrf .ready none).2.2.2.2] at this;exact this,hdone _ pre Fp _ hS (Nat.le_refl _) (hU _ _ _ _ _ hd (by omega) (grownBy_putObj' W2 (w.heap.size+1) _) (fun r e => by cases e;exact ⟨Nat.le_succ _,f1⟩)) f0 ((World.putObj_heap_other (by omega)).trans hb2.2)⟩
  ·have hb2:=(hBk _ _).1 hb
   have hbs:=big hb
   exact ⟨some c,_,by have:=run_endLoop (P:=P) hb2.1 (by rw [hrs];simp);rw [(hrf .done (some c)).2.2.2.2] at this;exact this,hstop _ c pre Fp _ hSp (Nat.le_refl _) (hUx _ _ _ _ _ _ hx (by omega) (grownBy_putObj' W2 (w.heap.size+1) _) (fun r e => by cases e;exact ⟨Nat.le_succ _,f1⟩)) f0 ((World.putObj_heap_other (by omega)).trans hb2.2)⟩
theorem SeqF.inRound' {α:Type} {g:Nat} {lb:Array Value} {encs:α->Array Value} {S Sp:List α->Prop} {C:Nat->Prop} {w:World} (l:Nat) (h:SeqF F n P g lb encs S Sp C w):SeqF (F.inRound l) n P g lb encs S Sp C w:=h
end Fo
end
section
open Go.RowKit
namespace Fo
variable {F:Fence} {n:Nat} {P:Program}
theorem range_foot_new {α:Type} {g:Operand} {ps:Array Tmp} {assign body:Code} {Q:Exit->Act->World->Prop} {a:Act} {w w0:World}
  (hro:F.round=none) (h1:1<=n) {gf:Nat} {lb:Array Value} (hg:a.eval g = .func (.func gf) #[] lb) (hFg:F.fn gf) (eg:∀ args w,(callFunc gf args).run P w = .ok (.enter gf args) w)
  {encs:α->Array Value} {S Sp:List α->Prop} {C:Nat->Prop} (hseq:SeqF F (n-1) P gf lb encs S Sp C w0) (hps:∀ x,(encs x).size=ps.size) (hC:∀ b,C b->b<w.heap.size/\w.heap[b]? = w0.heap[b]?)
  (U:List α->(Nat->Prop)->World->Prop) (Ux:Code->List α->(Nat->Prop)->World->Prop) (Fp0:Nat->Prop) (hFp0:∀ b,Fp0 b->b<w.heap.size/\¬ C b)
  (hU:∀ pre Fp A A' row,U pre Fp A->w.heap.size<=A.heap.size->A.grownBy A' row->(∀ r,row=some r->w.heap.size<=r/\¬ Fp r)->U pre Fp A')
  (hUx:∀ c pre Fp A A' row,Ux c pre Fp A->w.heap.size<=A.heap.size->A.grownBy A' row->(∀ r,row=some r->w.heap.size<=r/\¬ Fp r)->Ux c pre Fp A')
  (h0:U [] Fp0 w) (a₁:α->Nat->Act) (ob:α->Obj)
  (hassign:∀ (l:Nat) (x:α) (W:World) (K:Act->World->Prop),(∃ pre,Sp (pre ++ [x]))->K (a₁ x W.heap.size) (W.alloc (ob x))->assign.wpIn (F.inRound l) (n-1-1) P (Exit.then K (fun _ _ _ => False)) { tmps:=(ps.zip (encs x)).foldl (fun t (p,v) => t.setIfInBounds p v) a.tmps,defers:=[] } W)
  (hbody:∀ (l:Nat) (pre:List α) (x:α) (Fp:Nat->Prop) (b:Nat) (W:World),U pre Fp W->w.heap.size<=W.heap.size->Sp (pre ++ [x])->(∃ A,U pre Fp A/\w.heap.size<=A.heap.size/\A.heap.size=b)->b<W.heap.size->W.heap[b]? = some (ob x)->body.wpIn (F.inRound l) (n-1-1) P (Left Fp U Ux (pre ++ [x]) W) (a₁ x b) W)
  (hdone:∀ (d:Nat) (xs:List α) (Fp:Nat->Prop) (W:World),S xs->w.heap.size<=d->U xs Fp W->¬ Fp d->W.heap[d]? = some (.deferred (some []))->Q .normal { a with defers:={ target:=.collected d,args:=#[] } :: a.defers } W)
  (hstop:∀ (d:Nat) (c:Code) (pre:List α) (Fp:Nat->Prop) (W:World),Sp pre->w.heap.size<=d->Ux c pre Fp W->¬ Fp d->W.heap[d]? = some (.deferred (some []))->c.wpIn F n P Q { a with defers:={ target:=.collected d,args:=#[] } :: a.defers } W) :
  (Code.rangeFunc g ps assign body).wpIn F n P Q a w:=by
 refine wpIn_rangeFunc fun fn hfn => ?_
 rw [hro]
 let rec_:LoopState->Option Code->Loop:=fun st pe => { state:=st,pending:=pe,fn,tmps:=a.tmps,params:=ps,assign,body,defers:=w.heap.size }
 have hrs:∀ st pe,(rec_ st pe).state=st:=fun _ _ => rfl
 have hrp:∀ st pe,(rec_ st pe).params=ps:=fun _ _ => rfl
 have hrb:∀ st pe st' pe',{ rec_ st pe with state:=st',pending:=pe' }=rec_ st' pe':=fun _ _ _ _ => rfl
 have hrb2:∀ st pe st',{ rec_ st pe with state:=st' }=rec_ st' pe:=fun _ _ _ => rfl
 have hrf:∀ st pe,(rec_ st pe).fn=fn/\(rec_ st pe).assign=assign/\(rec_ st pe).body=body/\(rec_ st pe).tmps=a.tmps/\(rec_ st pe).pending=pe:=fun _ _ => ⟨rfl,rfl,rfl,rfl,rfl⟩
 have hent:(Instr.enterLoop fn a.tmps ps assign body none).run P w = .ok (w.heap.size+1,[{ target:=.collected w.heap.size,args:=#[] }]) ((w.alloc (.deferred (some []))).alloc (.loop (rec_ .ready none))):=run_enterLoop_outer fn a.tmps ps assign body
 let Bk:Loop->World->Prop:=fun r W => W.heap[w.heap.size+1]? = some (.loop r)/\W.heap[w.heap.size]? = some (.deferred (some []))
 have hBk:∀ r W,Bk r W↔(W.heap[w.heap.size+1]? = some (.loop r)/\W.heap[w.heap.size]? = some (.deferred (some []))):=fun _ _ => Iff.rfl
 generalize hW1:(w.alloc (.deferred (some []))).alloc (.loop (rec_ .ready none))=W1 at hent
 have hs1:W1.heap.size=w.heap.size+2:=by subst hW1;rw [World.size_alloc,World.size_alloc]
 have hB1:Bk (rec_ .ready none) W1:=by
  subst hW1
  refine ⟨?_,(Below.heap_alloc _ _ _ (by simp)).trans (World.alloc_heap_new w _)⟩
  have:=World.alloc_heap_new (w.alloc (.deferred (some []))) (.loop (rec_ .ready none))
  rwa [World.size_alloc] at this
 have hg1:w.grownBy W1 none:=by subst hW1;exact ⟨rfl,rfl,rfl,by simp;omega,fun k hk _ => by rw [Below.heap_alloc _ _ _ (by simp;omega),Below.heap_alloc _ _ _ hk]⟩
 have hU1:U [] Fp0 W1:=hU _ _ _ _ _ h0 (Nat.le_refl _) hg1 (fun r e => by cases e)
 have hC1:∀ b,C b->b<W1.heap.size/\W1.heap[b]? = w0.heap[b]?:=fun b hb => by
  obtain ⟨h1,h2⟩:=hC b hb
  exact ⟨by omega,by rw [hg1.block b h1 (fun e => by cases e)];exact h2⟩
 clear_value Bk rec_
 have keep:∀ {r A B} {Fp:Nat->Prop},Only Fp A B->¬ Fp w.heap.size->¬ Fp (w.heap.size+1)->Bk r A->Bk r B:=fun hk f0 f1 hb => by
  rw [hBk] at hb ⊢
  exact ⟨(hk.block _ (zx hb.1) f1).trans hb.1,(hk.block _ (zx hb.2) f0).trans hb.2⟩
 have big:∀ {r A},Bk r A->w.heap.size+1<A.heap.size:=fun hb => by rw [hBk] at hb;exact (zx hb.1)
 have turn:∀ {r A} (r':Loop),Bk r A->Bk r' (A.putObj (w.heap.size+1) (.loop r')):=fun r' hb => by
  have h:=big hb
  rw [hBk] at hb ⊢
  exact ⟨World.putObj_heap_same h,(World.putObj_heap_other (by omega)).trans hb.2⟩
 refine ⟨w.heap.size+1,[{ target:=.collected w.heap.size,args:=#[] }],W1,{ target:=.fn (.func gf) lb,args:=#[.func (.yield (w.heap.size+1)) #[] #[]] },W1,gf,#[.func (.yield (w.heap.size+1)) #[] #[]] ++ lb,W1,hent,?_,?_,?_,fun _ => h1,?_⟩
 ·simp only [resolve,hg]
  simp [go_sem]
 ·intro f' hf';simp [Target.leads] at hf';subst hf';exact hFg
 ·simp [invoke,go_sem,eg]
 refine (hseq (w.heap.size+1) (fun pre Fp' A => ∃ Fp,(∀ b,Fp' b↔Fp b\/b=w.heap.size+1)/\U pre Fp A/\Bk (rec_ .ready none) A/\¬ Fp w.heap.size/\¬ Fp (w.heap.size+1)) (fun pre Fp' A => ∃ Fp c,(∀ b,Fp' b↔Fp b\/b=w.heap.size+1)/\Ux c pre Fp A/\Bk (rec_ .done (some c)) A/\¬ Fp w.heap.size/\¬ Fp (w.heap.size+1)) W1 (fun b => Fp0 b\/b=w.heap.size+1) hC1 ?_ ?_ ?_ ?_ ?_).mono ?_
 ·rintro b (hb | rfl)
  ·exact ⟨by have:=(hFp0 b hb).1;omega,(hFp0 b hb).2⟩
  ·exact ⟨by omega,fun hc => by have:=(hC _ hc).1;omega⟩
 ·rintro pre Fp' A A' row ⟨Fp,hF,hu,hb,f0,f1⟩ hsz hg hrow
  have hnl:∀ r,row=some r->w.heap.size<=r/\¬ Fp r:=fun r e => ⟨by have:=(hrow r e).1;omega,fun hf => (hrow r e).2 ((hF r).2 (.inl hf))⟩
  refine ⟨Fp,hF,hU _ _ _ _ _ hu (by omega) hg hnl,?_,f0,f1⟩
  rw [hBk] at hb ⊢
  exact ⟨(hg.block _ (zx hb.1) (fun e => by have:=(hrow _ e.symm).1;omega)).trans hb.1,(hg.block _ (zx hb.2) (fun e => by have:=(hrow _ e.symm).1;omega)).trans hb.2⟩
 ·rintro pre Fp' A A' row ⟨Fp,c,hF,hu,hb,f0,f1⟩ hsz hg hrow
  have hnl:∀ r,row=some r->w.heap.size<=r/\¬ Fp r:=fun r e => ⟨by have:=(hrow r e).1;omega,fun hf => (hrow r e).2 ((hF r).2 (.inl hf))⟩
  refine ⟨Fp,c,hF,hUx _ _ _ _ _ _ hu (by omega) hg hnl,?_,f0,f1⟩
  rw [hBk] at hb ⊢
  exact ⟨(hg.block _ (zx hb.1) (fun e => by have:=(hrow _ e.symm).1;omega)).trans hb.1,(hg.block _ (zx hb.2) (fun e => by have:=(hrow _ e.symm).1;omega)).trans hb.2⟩
 ·rintro pre x Fp' A0 ⟨Fp,hF,hu,hb,f0,f1⟩ hsz hlen
  have hl00:=((hBk _ _).1 hb).1
  have hy:=run_yield (P:=P) (args:=encs x) hl00 (by rw [hrp];exact hps x)
  obtain ⟨e1,e2,e3,e4,e5⟩:=hrf .ready none
  rw [e1,e2,e3,e4,hrp] at hy
  have hbs0:=big hb
  obtain ⟨A,hA⟩:∃ A,A=A0.alloc (ob x):=⟨_,rfl⟩
  have hsA:A.heap.size=A0.heap.size+1:=by rw [hA,World.size_alloc]
  have hoA:∀ k,k<A0.heap.size->A.heap[k]? = A0.heap[k]?:=fun k hk => by rw [hA];exact Below.heap_alloc _ _ _ hk
  have hgA:A0.grownBy A none:=by rw [hA];exact ⟨rfl,rfl,rfl,by simp,fun k hk _ => Below.heap_alloc _ _ _ hk⟩
  have huA:U pre Fp A:=hU _ _ _ _ _ hu (by omega) hgA (fun r e => by cases e)
  have hbA:Bk (rec_ .ready none) A:=by
   rw [hBk] at hb ⊢
   exact ⟨(hoA _ hbs0).trans hb.1,(hoA _ (by omega)).trans hb.2⟩
  have hl0:=((hBk _ _).1 hbA).1
  have hub:U pre Fp (A.putObj (w.heap.size+1) (.loop (rec_ .busy none))):=hU _ _ _ _ _ huA (by omega) (grownBy_putObj' A (w.heap.size+1) _) (fun r e => by cases e;exact ⟨Nat.le_succ _,f1⟩)
  have hbb:Bk (rec_ .busy none) (A.putObj (w.heap.size+1) (.loop (rec_ .busy none))):=turn _ hbA
  have hsb:(A.putObj (w.heap.size+1) (.loop (rec_ .busy none))).heap.size=A0.heap.size+1:=by rw [<- hsA];simp
  have hnew:(A.putObj (w.heap.size+1) (.loop (rec_ .busy none))).heap[A0.heap.size]? = some (ob x):=by
   rw [World.putObj_heap_other (by omega),hA];exact World.alloc_heap_new _ _
  refine ⟨fn,_,assign,body,hy,roundIn_of_wpIn hfn (hassign _ x A0 _ ⟨pre,hlen⟩ ⟨_,by have:=run_beginRound (P:=P) hl0 (hrs _ _);rw [hrb2] at this;rw [<- hA];exact this,?_⟩)⟩
  refine wpIn_mono (hbody _ pre x Fp A0.heap.size _ hub (by rw [hsb];omega) hlen ⟨A0,hu,by omega,rfl⟩ (by rw [hsb];omega) hnew) ?_
  have fin:∀ (jump:Option Code) (W3:World),Only Fp (A.putObj (w.heap.size+1) (.loop (rec_ .busy none))) W3 ->
    (Instr.endRound (w.heap.size+1) jump).run P W3 = .ok (.bool jump.isNone) (W3.putObj (w.heap.size+1) (.loop (rec_ (if jump.isNone then .ready else .done) jump))) /\
    W3.heap[w.heap.size+1]? = some (.loop (rec_ .busy none))/\Bk (rec_ (if jump.isNone then .ready else .done) jump) (W3.putObj (w.heap.size+1) (.loop (rec_ (if jump.isNone then .ready else .done) jump))):=fun jump W3 hk3 => by
   have hb3:=keep hk3 f0 f1 hbb
   have hl3:=((hBk _ _).1 hb3).1
   have:=run_endRound (P:=P) jump hl3
   rw [hrb] at this
   exact ⟨this,hl3,turn _ hb3⟩
  have hbs:=big hbA
  have grow_:∀ (W3:World) (Fp2:Nat->Prop) (jump:Option Code),Only Fp (A.putObj (w.heap.size+1) (.loop (rec_ .busy none))) W3->(∀ b,Fp2 b->Fp b\/(A.putObj (w.heap.size+1) (.loop (rec_ .busy none))).heap.size<=b)->¬ Fp2 w.heap.size/\¬ Fp2 (w.heap.size+1) /\
    Only Fp' A0 (W3.putObj (w.heap.size+1) (.loop (rec_ (if jump.isNone then .ready else .done) jump)))/\∀ b,(Fp2 b\/b=w.heap.size+1)->Fp' b\/A0.heap.size<=b:=fun W3 Fp2 jump ho2 hn2 => by
   rw [hsb] at hn2
   refine ⟨fun h => ?_,fun h => ?_,?_,?_⟩
   ·rcases hn2 _ h with h | h
    ·exact f0 h
    ·omega
   ·rcases hn2 _ h with h | h
    ·exact f1 h
    ·omega
   ·have s0:W3.heap.size=(W3.putObj (w.heap.size+1) (.loop (rec_ (if jump.isNone then .ready else .done) jump))).heap.size:=by simp
    refine ⟨ho2.os.trans hgA.os,ho2.tape.trans hgA.tape,ho2.output.trans hgA.output,?_,fun k hk hnf => ?_⟩
    ·have:=ho2.size;rw [hsb] at this;rw [<- s0];omega
    ·have hk1:k≠w.heap.size+1:=fun e => hnf ((hF k).2 (.inr e))
     have hk2:¬ Fp k:=fun h => hnf ((hF k).2 (.inl h))
     rw [World.putObj_heap_other hk1,ho2.block k (by rw [hsb];omega) hk2,World.putObj_heap_other hk1,hoA k hk]
   ·rintro b (hb5 | rfl)
    ·rcases hn2 b hb5 with h | h
     ·exact .inl ((hF b).2 (.inl h))
     ·exact .inr (by omega)
    ·exact .inl ((hF _).2 (.inr rfl))
  rintro e a3 W3 hp
  cases e with
  | normal =>
   obtain ⟨Fp2,hu2,ho2,hn2⟩:=hp
   obtain ⟨hr,hl3,hb4⟩:=fin none W3 ho2
   obtain ⟨g0,g1,k1,k2⟩:=grow_ W3 Fp2 none ho2 hn2
   exact ⟨_,_,hr,.inl ⟨rfl,fun b => Fp2 b\/b=w.heap.size+1,⟨Fp2,fun b => Iff.rfl,hU _ _ _ _ _ hu2 (by have:=ho2.size;rw [hsb] at this;omega) (grownBy_putObj' W3 (w.heap.size+1) _) (fun r e => by cases e;exact ⟨Nat.le_succ _,g1⟩),hb4,g0,g1⟩,k1,k2⟩⟩
  | ret =>
   obtain ⟨Fp2,hu2,ho2,hn2⟩:=hp
   obtain ⟨hr,hl3,hb4⟩:=fin (some .ret) W3 ho2
   obtain ⟨g0,g1,k1,k2⟩:=grow_ W3 Fp2 (some .ret) ho2 hn2
   exact ⟨_,_,hr,.inr ⟨rfl,fun b => Fp2 b\/b=w.heap.size+1,⟨Fp2,.ret,fun b => Iff.rfl,hUx _ _ _ _ _ _ hu2 (by have:=ho2.size;rw [hsb] at this;omega) (grownBy_putObj' W3 (w.heap.size+1) _) (fun r e => by cases e;exact ⟨Nat.le_succ _,g1⟩),hb4,g0,g1⟩,k1,k2⟩⟩
  | exit id =>
   obtain ⟨Fp2,hu2,ho2,hn2⟩:=hp
   obtain ⟨hr,hl3,hb4⟩:=fin (some (.exit id)) W3 ho2
   obtain ⟨g0,g1,k1,k2⟩:=grow_ W3 Fp2 (some (.exit id)) ho2 hn2
   exact ⟨_,_,hr,.inr ⟨rfl,fun b => Fp2 b\/b=w.heap.size+1,⟨Fp2,(.exit id),fun b => Iff.rfl,hUx _ _ _ _ _ _ hu2 (by have:=ho2.size;rw [hsb] at this;omega) (grownBy_putObj' W3 (w.heap.size+1) _) (fun r e => by cases e;exact ⟨Nat.le_succ _,g1⟩),hb4,g0,g1⟩,k1,k2⟩⟩
  | goto t =>
   obtain ⟨Fp2,hu2,ho2,hn2⟩:=hp
   obtain ⟨hr,hl3,hb4⟩:=fin (some (.goto t)) W3 ho2
   obtain ⟨g0,g1,k1,k2⟩:=grow_ W3 Fp2 (some (.goto t)) ho2 hn2
   exact ⟨_,_,hr,.inr ⟨rfl,fun b => Fp2 b\/b=w.heap.size+1,⟨Fp2,(.goto t),fun b => Iff.rfl,hUx _ _ _ _ _ _ hu2 (by have:=ho2.size;rw [hsb] at this;omega) (grownBy_putObj' W3 (w.heap.size+1) _) (fun r e => by cases e;exact ⟨Nat.le_succ _,g1⟩),hb4,g0,g1⟩,k1,k2⟩⟩
  | panic ch => exact hp.elim
  | outgrown => exact hp.elim
 ·exact ⟨Fp0,fun b => Iff.rfl,hU1,hB1,fun h => by have:=(hFp0 _ h).1;omega,fun h => by have:=(hFp0 _ h).1;omega⟩
 ·rintro e W2 ⟨⟨v,rfl⟩,(⟨pre,Fp',hS,Fp,hF,hd,hb,f0,f1⟩ | ⟨pre,Fp',hSp,Fp,c,hF,hx,hb,f0,f1⟩)⟩
  ·have hb2:=(hBk _ _).1 hb
   have hbs:=big hb
   exact ⟨none,_,by have:=run_endLoop (P:=P) hb2.1 (by rw [hrs];simp);rw [(hrf .ready none).2.2.2.2] at this;exact this,hdone _ pre Fp _ hS (Nat.le_refl _) (hU _ _ _ _ _ hd (by omega) (grownBy_putObj' W2 (w.heap.size+1) _) (fun r e => by cases e;exact ⟨Nat.le_succ _,f1⟩)) f0 ((World.putObj_heap_other (by omega)).trans hb2.2)⟩
  ·have hb2:=(hBk _ _).1 hb
   have hbs:=big hb
   exact ⟨some c,_,by have:=run_endLoop (P:=P) hb2.1 (by rw [hrs];simp);rw [(hrf .done (some c)).2.2.2.2] at this;exact this,hstop _ c pre Fp _ hSp (Nat.le_refl _) (hUx _ _ _ _ _ _ hx (by omega) (grownBy_putObj' W2 (w.heap.size+1) _) (fun r e => by cases e;exact ⟨Nat.le_succ _,f1⟩)) f0 ((World.putObj_heap_other (by omega)).trans hb2.2)⟩
end Fo
end
end Go.Proofs.YtimhglmfckfclaaGreatDoor
