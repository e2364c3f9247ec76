/- Parts of the proof. -/
import Derived.Test.YtimhglmfckfclaaGreatDoorM12
import Derived.Sort.LoopGhostIn
import Derived.Maps.OwnIn
set_option linter.unusedVariables false
set_option linter.unusedSimpArgs false
set_option maxRecDepth 100000
set_option maxHeartbeats 16000000
namespace Go.Proofs.YtimhglmfckfclaaGreatDoor
section
open Go.RowKit Go.Maps Go.Shelf
namespace Fr
open Vw (Sess)
attribute [local go_sem] Oper.semAt_some
def FromI (a bA bI:Nat) (S:List Slt) (fr:List Int) (nw:Nat) (L:List Int) (pre:List Int) (A:World):Prop :=
 pre <+: L/\pre.length<L.length/\ArAt a S fr nw A/\A.cell? ⟨bA,0,none⟩=some (.pointer (some ⟨a,0,none⟩))/\Boxed A bI 3 (.int .i64 (pre.getLastD (L.headD (-1))))
def FromStep (bI:Nat) (L:List Int) (pre:List Int) (x:Int) (A B:World):Prop :=
 L[pre.length]? = some x/\Boxed B bI 3 (.int .i64 x)/\Only (fun b => b=bI) A B
theorem from_any (a:Nat) (i:Int) (w:World):Calls Tryz.prog 191 #[.pointer (some ⟨a,0,none⟩),.int .i64 i] w fun e w' =>
  e = .returned (.func (.func 251) #[] #[.pointer (some ⟨w.heap.size+1,0,none⟩),.pointer (some ⟨w.heap.size,0,none⟩)]) /\
  w'=(w.alloc (.cells #[.pointer (some ⟨a,0,none⟩)] 102)).alloc (.cells #[.int .i64 i] 3):=by
 go_enter Tryz.func191,Tryz.ntmps191
 go_wp2
 go_ret
 exact ⟨rfl,rfl⟩
theorem ring_next {S:List Slt} {last:Int} {L pre:List Int} {x:Int} (hR:RingAt S last L) (hp:pre <+: L) (hne:pre≠[]) (hx:L[pre.length]? = some x):(sl S (pre.getLastD (-1))).next=x:=by
 obtain ⟨t,rfl⟩:=hp
 rcases List.eq_nil_or_concat pre with rfl | ⟨p,y,rfl⟩
 ·exact absurd rfl hne
 rw [List.getElem?_append_right (Nat.le_refl _),Nat.sub_self] at hx
 cases t with
 | nil => simp at hx
 | cons z r =>
  simp only [List.getElem?_cons_zero,Option.some.injEq] at hx
  subst hx
  rcases hR with ⟨h,_⟩ | ⟨q,hq,h⟩
  ·simp at h
  ·have h2:Path S ((last :: p) ++ y :: z :: r):=by
    have e:last :: (p.concat y ++ z :: r)=(last :: p) ++ y :: z :: r:=by simp
    rwa [e] at h
   have:=path_nx h2
   simp only [List.concat_eq_append,List.getLastD_concat]
   exact this.1
theorem from_seq (n:Nat) (hn:6<=n) (a bA bI:Nat) (S:List Slt) (fr:List Int) (nw:Nat) (last:Int) (L:List Int) (hR:RingAt S last L) (ht:∀ x ∈ L,thr x=true) (hl:L.length<=32) (hab:a≠bI) (hbb:bA≠bI) :
  Mq.Seq Fence.wide n Tryz.prog 251 #[.pointer (some ⟨bI,0,none⟩),.pointer (some ⟨bA,0,none⟩)] encI (FromI a bA bI S fr nw L) (FromStep bI L) (fun _ _ _ => False) 31:=by
 intro l J Jx Done W hJ h0
 refine callsIn_of_wp Tryz.func251 rfl trivial ?_ rfl
 simp only [Tryz.ntmps251,List.size_toArray,List.length_cons,List.length_nil,Nat.reduceAdd,Nat.reduceSub,Array.replicate_succ,Array.replicate_zero,List.push_toArray,List.append_toArray,List.nil_append,List.cons_append]
 have HJ:=zh hJ;have HT:=zh ht;have HL:=zh hl;have HR:=zh hR
 have HNX:=zh (fun (pre:List Int) (x:Int) => ring_next (pre:=pre) (x:=x) hR)
 have h0':=(hJ [] W h0).1
 have hfirst:∃ x,L[0]? = some x:=⟨L[0]'h0'.2.1,List.getElem?_eq_getElem h0'.2.1⟩
 obtain ⟨x0,hx0⟩:=hfirst
 have hhd:L.headD (-1)=x0:=by
  cases L with
  | nil => simp at hx0
  | cons y r => simpa using hx0
 have hb0:=h0'.2.2.2.2
 simp only [List.getLastD_nil] at hb0
 rw [hhd] at hb0
 have HY0:=zh ((hJ [] W h0).2.2.1 x0 W ⟨hx0,hb0,Only.refl _ _⟩)
 have HX0:=zh hx0;have HB0:=zh hb0;have HC0:=zh h0'.2.2.2.1
 have HA0:=zh h0'.2.2.1
 clear hJ ht hl hR h0 h0' hx0 hhd hb0
 gi_wp2
 gi_loopg [4] (L.length) (fun g i wr => ∃ (pre:List Int) (x:Int),g=L.length-pre.length/\i = .int .i64 pre.length/\L[pre.length]? = some x/\wr.cell? ⟨bA,0,none⟩=some (.pointer (some ⟨a,0,none⟩))/\Boxed wr bI 3 (.int .i64 x) /\
  YieldAt Fence.wide (n-1) Tryz.prog l (encI x) wr fun e W' => (e = .returned (.bool true)/\J (pre ++ [x]) W')\/(e = .returned (.bool false)/\Jx (pre ++ [x]) W'))
 case atStart => exact ⟨[],x0,by simp,rfl,HX0.out,HC0.out,HB0.out,HY0.out⟩
 case round =>
  obtain ⟨pre,x,rfl,rfl,hx,cA,hbI,hy⟩:=hrel
  have hlt:pre.length<L.length:=(List.getElem?_eq_some_iff.1 hx).1
  have htx:=HT.out x (List.mem_of_getElem? hx)
  obtain ⟨K,hK⟩:∃ K,K=pre.length:=⟨_,rfl⟩
  have k32:(K:Int)<32:=by have:=HL.out;omega
  have cI:=hbI.cell
  have HTX:=zh (fun w => rthere_yes x htx w)
  obtain ⟨fn,tmps,assign,body,hy1,hR⟩:=hy
  unfold encI at hy1
  have HRO:=zh hR;have HLT:=zh hlt;have HK:=zh hK;have HBI:=zh hbI
  rw [<- hK]
  clear hR hlt hK hx hbI htx
  gi_wp2_with fail
  refine ⟨trivial,fun _ => by omega,(callsIn_wide.2 (HTX.out _)).mono ?_⟩
  rintro e w2 ⟨rfl,rfl⟩
  gi_wp2_with fail
  refine ⟨fun _ => by omega,HRO.out.mono ?_⟩
  rintro e W3 (⟨rfl,hJ3⟩ | ⟨rfl,hX3⟩)
  ·obtain ⟨⟨i1,i2,i3,i4,i5⟩,h31,hst,-⟩:=HJ.out (pre ++ [x]) W3 hJ3
   have hx':∃ y,L[(pre ++ [x]).length]? = some y:=⟨_,List.getElem?_eq_getElem i2⟩
   obtain ⟨y,hy'⟩:=hx'
   have hnx:=HNX.out (pre ++ [x]) y i1 (by simp) hy'
   have e5:(pre ++ [x]).getLastD (L.headD (-1))=x:=by simp
   have e6:(pre ++ [x]).getLastD (-1)=x:=by simp
   rw [e5] at i5
   rw [e6] at hnx
   have ht3:=HT.out x (i1.subset (by simp))
   have cA3:=i4
   have cI3:=i5.cell
   have hof:Calls Tryz.prog 192 #[.pointer (some ⟨a,0,none⟩),.int .i64 x] W3 fun e w' => e = .returned (.agg #[.int .i64 (sl S x).prev,.int .i64 (sl S x).next])/\Below W3.heap.size W3 w':=by
    obtain ⟨⟨nx,fi,hA,-⟩,-⟩:=i3
    exact of_ok hA x ht3
   rw [hnx] at hof
   obtain ⟨pv,hpv⟩:∃ pv,pv=(sl S x).prev:=⟨_,rfl⟩
   rw [<- hpv] at hof
   have HOF:=zh hof
   have HST:=zh (fun B => hst y B)
   have HY:=zh hy';have I5:=zh i5;have I2:=zh i2;have I4:=zh i4
   have HF:=lk_next pv y
   have e7:IntKind.i64.wrap ((K:Int)+1)=((K+1:Nat):Int):=by rw [IntWalk.i64_in _ (by omega)];rfl
   clear i1 i2 i3 i4 i5 hst hy' hnx e5 e6 ht3 hof hpv hJ3 cA cI hy1
   gi_wp2_with fail
   refine ⟨trivial,fun _ => by omega,(callsIn_wide.2 HOF.out).mono ?_⟩
   rintro e W4 ⟨rfl,hb4⟩
   have hBI4:Boxed W4 bI 3 (.int .i64 x):=(hb4.block bI I5.out.lt).trans I5.out
   have c4:=hBI4.cell
   have f4:=hBI4.frozen
   have hBI5:=hBI4.set (.int .i64 y)
   have hO5:Only (fun b => b=bI) W3 (W4.setCell ⟨bI,0,none⟩ (.int .i64 y)):=(Only.of_below (F:=fun b => b=bI) hb4).setCell (p:=⟨bI,0,none⟩) (fun _ => rfl) _
   have cA5:(W4.setCell ⟨bI,0,none⟩ (.int .i64 y)).cell? ⟨bA,0,none⟩=some (.pointer (some ⟨a,0,none⟩)):=(hO5.cell (p:=⟨bA,0,none⟩) (World.block_lt_of_cell? W3 _ I4.out) (fun h => hbb h)).trans I4.out
   have HY5:=zh (HST.out (W4.setCell ⟨bI,0,none⟩ (.int .i64 y)) ⟨HY.out,hBI5,hO5⟩)
   have HB5:=zh hBI5;have HA5:=zh cA5
   clear hb4 hBI4 hBI5 hO5 cA5 cA3 cI3
   gi_wp2
   gi_roundg (L.length-(pre ++ [x]).length)
   case rel => exact ⟨pre ++ [x],y,rfl,by have:=HK.out;simp;omega,HY.out,HA5.out,HB5.out,HY5.out⟩
   case measure => have:=HLT.out;simp;omega
  ·have HU:=zh hX3
   clear hX3
   gi_wp2
   go_end0
   exact ⟨⟨_,rfl⟩,.inr ⟨_,HU.out⟩⟩
end Fr
end
section
open Go.RowKit Go.Maps Go.Shelf
namespace Fr
open Vw (Sess)
attribute [local go_sem] Oper.semAt_some
theorem FrL.head {nx:List Int}:∀ {post:List Int} {fi:Int},FrL nx fi post->fi=post.headD (-1)
 | [],_,h => h
 | i :: r,_,h => h.1
theorem FrL.behind {nx:List Int}:∀ {pre:List Int} {fi i:Int} {post:List Int},FrL nx fi (pre ++ i :: post)->nx.getD i.toNat 0=post.headD (-1)
 | [],_,_,_,h => h.2.2.head
 | _ :: t,_,_,_,h => FrL.behind (pre:=t) h.2.2
theorem nodup_len32 {L:List Int} (hd:L.Nodup) (ht:∀ x ∈ L,thr x=true):L.length<=32:=by
 have:=nodup_le (m:=ids) hd (fun x hx => mem_ids.2 (ht x hx))
 rwa [ids_len] at this
theorem now_seq (n:Nat) (a bx:Nat) (S:List Slt) (fr:List Int) (nw:Nat) (w:World) (h:ArAt a S fr nw w) (hbx:w.heap[bx]? = some (.cells #[.pointer (some ⟨a,0,none⟩)] 102 (0,0))) :
  Fo.SeqF Fence.wide n Tryz.prog 189 #[.pointer (some ⟨bx,0,none⟩)] encI (fun ys => ys=fr) (fun p => p <+: fr) (fun b => b=a\/b=bx) w:=by
 intro l J Jx W Fp0 hCW hFp hJ hJx hY h0
 obtain ⟨⟨nx,fi,hA,hF,-⟩,-⟩:=h
 have HC:Hid (∀ A:World,(∀ b,(b=a\/b=bx)->b<A.heap.size/\A.heap[b]? = w.heap[b]?)->ArW a S nx fi nw A/\A.cell? ⟨bx,0,none⟩=some (.pointer (some ⟨a,0,none⟩))):=fun A hA2 => by
  refine ⟨hA.keep (hA2 a (.inl rfl)).2,?_⟩
  rw [zc ((hA2 bx (.inr rfl)).2.trans hbx)];rfl
 obtain ⟨hAW,cb⟩:=HC.out W hCW
 have c1:=hAW.first
 have HF:=zh hF
 have HY:=zh hY
 have HK0:Hid (Kept (fun b => b=a\/b=bx) Fp0 w W):=fun b hb => ⟨fun hf => (hFp b hf).2 hb,hCW b hb⟩
 have H0:=zh h0
 have hhd:=hF.head
 have HHD:=zh hhd
 clear hY hCW hFp h0 hA hF hAW hJ hJx hbx hhd
 refine callsIn_of_wp Tryz.func189 rfl trivial ?_ rfl
 simp only [Tryz.ntmps189,List.size_toArray,List.length_cons,List.length_nil,Nat.reduceAdd,Nat.reduceSub,Array.replicate_succ,Array.replicate_zero,List.push_toArray,List.append_toArray,List.nil_append,List.cons_append]
 gi_wp2
 gi_loopg [3] fr.length (fun g i wr => ∃ (pre post:List Int) (Fp:Nat->Prop),fr=pre ++ post/\g=post.length/\i = .int .i64 (post.headD (-1))/\J pre Fp wr/\W.heap.size<=wr.heap.size/\Kept (fun b => b=a\/b=bx) Fp w wr)
 case atStart => exact ⟨[],fr,Fp0,rfl,rfl,by rw [HHD.out],H0.out,Nat.le_refl _,HK0.out⟩
 case round =>
  obtain ⟨pre,post,Fp,hfr,rfl,rfl,hj,hsz,hkp⟩:=hrel
  obtain ⟨hAr,cbx⟩:=HC.out wr hkp.agree
  cases post with
  | nil =>
   rw [List.append_nil] at hfr
   rw [<- hfr] at hj
   clear hfr hAr
   simp only [List.headD_nil]
   gi_wp2
   go_end0
   exact ⟨⟨_,rfl⟩,.inl ⟨_,Fp,rfl,hj⟩⟩
  | cons i post =>
   simp only [List.headD_cons]
   have hFF:=HF.out
   rw [hfr] at hFF
   have ti:=thr_iff.1 (hFF.thr i (by simp))
   have hbe:=FrL.behind hFF
   obtain ⟨m,rfl⟩:=Int.eq_ofNat_of_zero_le ti.1
   have m32:(m:Int)<32:=ti.2
   have mne:((m:Int) != -1)=true:=by rw [bne_iff_ne];omega
   obtain ⟨fn,tmps,assign,body,hy,hR⟩:=HY.out pre (m:Int) Fp wr hj hsz (by
    show _ <+: _
    rw [hfr];exact ⟨post,by simp⟩)
   unfold encI at hy
   have HR:=zh hR;have HKP:=zh hkp;have HSZ:=zh hsz;have HFR:=zh hfr;have HBE:=zh hbe;have HM:=zh m32
   have HAR:=zh hAr
   clear hR hj hkp hsz hfr hFF hbe ti hAr
   gi_wp2_with fail
   refine ⟨fun h => by simp [Fence.wide] at h,HR.out.mono ?_⟩
   rintro e W3 (⟨rfl,Fp',hJ3,ho3,hn3⟩ | ⟨rfl,Fp',hJx3,-,-⟩)
   ·have HK3:=zh (HKP.out.yield ho3 hn3)
    have HS3:Hid (W.heap.size<=W3.heap.size):=Nat.le_trans HSZ.out ho3.size
    have HJ3:=zh hJ3
    obtain ⟨hA3,cb3⟩:=HC.out W3 HK3.out.agree
    have c3:=hA3.next (k:=m) (by have:=HM.out;omega)
    have hbe':=HBE.out
    rw [Int.toNat_natCast] at hbe'
    rw [hbe'] at c3
    clear hJ3 ho3 hn3 hA3 hbe' cbx
    gi_wp2
    gi_roundg post.length
    case rel => exact ⟨pre ++ [(m:Int)],post,Fp',by rw [HFR.out];simp,rfl,by simp,HJ3.out,HS3.out,HK3.out⟩
    case measure => simp
   ·have HU:=zh hJx3
    clear hJx3
    gi_wp2
    refine bodyPost_ret (results_none rfl _ _ _) rfl ?_
    exact ⟨⟨_,rfl⟩,.inr ⟨_,Fp',by rw [HFR.out];exact ⟨post,by simp⟩,HU.out⟩⟩
theorem now_any (a:Nat) (w:World):Calls Tryz.prog 116 #[.pointer (some ⟨a,0,none⟩)] w fun e w' => e = .returned (.func (.func 189) #[] #[.pointer (some ⟨w.heap.size,0,none⟩)])/\w'=w.alloc (.cells #[.pointer (some ⟨a,0,none⟩)] 102):=by
 go_enter Tryz.func116,Tryz.ntmps116
 go_wp2
 go_ret
 exact ⟨rfl,rfl⟩
end Fr
end
section
open Go.RowKit Go.Maps
namespace Fr
theorem finfo_int:(Tryz.prog.info? 3).map (fun i => (i.zero,i.size,i.bytes))=some (some (.int .i64 0),1,8):=by kernel_rfl
theorem own_shape {w:World} {base e size n:Nat} {v:Value} {xs:List Value} (h:w.ownsRow base e size v n xs):∃ q r,v = .slice q n r/\n<=r:=by
 rcases h.2 with ⟨rfl,rfl⟩ | ⟨g,cap,cur,rfl,h2,h3,h4,h5⟩
 ·exact ⟨_,_,rfl,Nat.le_refl _⟩
 ·exact ⟨_,_,rfl,h4⟩
theorem own_stay {w w':World} {base e size n:Nat} {v:Value} {xs:List Value} (h:w.ownsRow base e size v n xs) (hk:∀ b,v.ownBlock=some b->w'.heap[b]? = w.heap[b]?):w'.ownsRow base e size v n xs:=by
 refine ⟨h.1,?_⟩
 rcases h.2 with h2 | ⟨g,cap,cur,rfl,h2,h3,h4⟩
 ·exact .inl h2
 ·exact .inr ⟨g,cap,cur,rfl,h2,(hk g rfl).trans h3,h4⟩
theorem own_down {w:World} {base base' e size n:Nat} {v:Value} {xs:List Value} (h:w.ownsRow base e size v n xs) (hb:base'<=base):w.ownsRow base' e size v n xs:=by
 refine ⟨h.1,?_⟩
 rcases h.2 with h2 | ⟨g,cap,cur,rfl,h2,h3,h4⟩
 ·exact .inl h2
 ·exact .inr ⟨g,cap,cur,rfl,Nat.le_trans hb h2,h3,h4⟩
theorem push_in_box {A w1:World} {o1:Obj} {t e:TypeId} {size n m base b1:Nat} {d v':Value} {xs ys:List Value} (h1:Boxed A b1 t d) (hb:b1<base) (h2:A.ownsRow base e size d n xs)
  (hown':w1.ownsRow base e size v' m ys) (hgrow:(A.alloc o1).grownBy w1 d.ownBlock) (hat:v'.ownBlock=d.ownBlock\/v'.ownBlock=some (A.alloc o1).heap.size) :
  Boxed w1 b1 t d/\Boxed (w1.setCell ⟨b1,0,none⟩ v') b1 t v'/\(w1.setCell ⟨b1,0,none⟩ v').ownsRow base e size v' m ys/\Only (fun b => b=b1\/d.ownBlock=some b) A (w1.setCell ⟨b1,0,none⟩ v')/\∀ b,v'.ownBlock=some b->d.ownBlock=some b\/A.heap.size<=b:=by
 have hlt:=h1.lt
 have hnb:∀ b,d.ownBlock=some b->base<=b:=fun b e => (h2.lt b e).1
 have ho:Only (fun b => b=b1\/d.ownBlock=some b) A w1:=((Only.refl _ A).alloc o1).grown hgrow (fun k hk e => .inr e)
 have hb1:Boxed w1 b1 t d:=(h1.alloc o1).kept hgrow (fun e => by have:=hnb _ e.symm;omega)
 refine ⟨hb1,hb1.set v',own_stay hown' (fun b e => Below.heap_setCell _ _ _ _ ?_),ho.setCell (fun _ => .inl rfl) _,fun b e => ?_⟩
 ·have:=(hown'.lt b e).1
  show b≠b1
  omega
 ·rcases hat with h | h
  ·exact .inl (h.symm.trans e)
  ·have e2:b=(A.alloc o1).heap.size:=Option.some.inj (e.symm.trans h)
   exact .inr (by rw [e2];simp)
structure GL (t:TypeId) (B D:Nat) (w:World) (d:Value) (pre:List Int) (Fp:Nat->Prop) (A:World):Prop where
 b1:Boxed A B t d
 r1:A.ownsRow D 3 1 d pre.length (pre.map (Value.int .i64))
 fp:∀ b,Fp b↔b=B\/d.ownBlock=some b
 lt:B<D
 bel:Below B w A
theorem GL.far {t:TypeId} {B D:Nat} {w A:World} {d:Value} {pre:List Int} {Fp:Nat->Prop} (h:GL t B D w d pre Fp A) {b:Nat} (hb:Fp b):B<=b:=by
 rcases (h.fp b).1 hb with h1 | h1
 ·omega
 ·have:=(h.r1.lt b h1).1;have:=h.lt;omega
theorem GL.turn {t:TypeId} {B D:Nat} {w A A':World} {d:Value} {pre:List Int} {Fp:Nat->Prop} {row:Option Nat} (h:GL t B D w d pre Fp A) (hg:A.grownBy A' row) (hrow:∀ r,row=some r->B<r/\¬ Fp r):GL t B D w d pre Fp A' :=
 ⟨h.b1.kept hg (fun e => by have:=(hrow _ e.symm).1;omega),own_stay h.r1 (fun b e => hg.block b (h.r1.lt b e).2 (fun e2 => (hrow b e2.symm).2 ((h.fp b).2 (.inr e)))),h.fp,h.lt,h.bel.grown hg (Nat.le_of_lt h.b1.lt) (fun k e => Nat.le_of_lt (hrow k e).1)⟩
theorem GL.start {t:TypeId} (w:World):GL t w.heap.size (w.heap.size+1) w (.slice none 0 0) [] (fun b => b=w.heap.size) (w.alloc (.cells #[.slice none 0 0] t)) :=
 ⟨Boxed.new w t _,World.ownsRow_nil _ _ _ _,fun b => ⟨.inl,fun h => h.elim id (fun h => by cases h)⟩,Nat.lt_succ_self _,(Below.refl _ _).alloc (Nat.le_refl _) _⟩
theorem GL.push {t:TypeId} {B D:Nat} {w A w1:World} {d v:Value} {pre:List Int} {x:Int} {Fp:Nat->Prop} {o1:Obj} (h:GL t B D w d pre Fp A)
  (hown':w1.ownsRow D 3 1 v (pre.length+1) (pre.map (Value.int .i64) ++ [Value.int .i64 x])) (hgrow:(A.alloc o1).grownBy w1 d.ownBlock) (hat:v.ownBlock=d.ownBlock\/v.ownBlock=some (A.alloc o1).heap.size) :
  Boxed w1 B t d/\Below B w w1/\∃ Fp',GL t B D w v (pre ++ [x]) Fp' (w1.setCell ⟨B,0,none⟩ v)/\Only Fp A (w1.setCell ⟨B,0,none⟩ v)/\∀ b,Fp' b->Fp b\/A.heap.size<=b:=by
 obtain ⟨h1,h2,h3,h4,h5⟩:=push_in_box h.b1 h.lt h.r1 hown' hgrow hat
 have ho:Only Fp A (w1.setCell ⟨B,0,none⟩ v):=h4.mono (fun i _ hi => (h.fp i).2 hi)
 refine ⟨h1,(h.bel.alloc (Nat.le_of_lt h.b1.lt) o1).grown hgrow (by have:=h.b1.lt;simp;omega) (fun k e => by have:=(h.r1.lt k e).1;have:=h.lt;omega),fun b => b=B\/v.ownBlock=some b,⟨h2,?_,fun b => Iff.rfl,h.lt,h.bel.trans (ho.below (Nat.le_of_lt h.b1.lt) (fun i hi hf => by have:=h.far hf;omega))⟩,ho,?_⟩
 ·rw [List.length_append,List.map_append];exact h3
 ·rintro b (h6 | h6)
  ·exact .inl ((h.fp b).2 (.inl h6))
  ·exact (h5 b h6).imp (fun h7 => (h.fp b).2 (.inr h7)) id
theorem GL.cells {t:TypeId} {B D:Nat} {w A:World} {d:Value} {pre:List Int} {Fp:Nat->Prop} (h:GL t B D w d pre Fp A) {b:Nat} (hb:Fp b):∃ o:Obj,A.heap[b]? = some o/\o.isCells=true:=by
 rcases (h.fp b).1 hb with rfl | h1
 ·exact ⟨_,h.b1,rfl⟩
 ·rcases h.r1.2 with ⟨e,_⟩ | ⟨g,cap,cur,e,h2,h3,h4⟩
  ·rw [e] at h1;cases h1
  ·rw [e] at h1;cases h1;exact ⟨_,h3,rfl⟩
theorem GL.other {t:TypeId} {B D:Nat} {w A A':World} {d:Value} {pre:List Int} {Fp F:Nat->Prop} (h:GL t B D w d pre Fp A) (ho:Only F A A') (hF:∀ b,F b->B<b/\¬ Fp b):GL t B D w d pre Fp A' :=
 ⟨(ho.block _ h.b1.lt (fun hf => by have:=(hF _ hf).1;omega)).trans h.b1,own_stay h.r1 (fun b e => ho.block b (h.r1.lt b e).2 (fun hf => (hF b hf).2 ((h.fp b).2 (.inr e)))),h.fp,h.lt,h.bel.trans (ho.below (Nat.le_of_lt h.b1.lt) (fun i hi hf => by have:=(hF i hf).1;omega))⟩
theorem keeps_only {F:Nat->Prop} {A B:World} (ho:Only F A B) (hc:∀ b,F b->∃ o:Obj,A.heap[b]? = some o/\o.isCells=true) (n:Nat):KeepsFrom n A B :=
 ⟨ho.size,fun k o _ hk he => (ho.block k (zx hk) (fun hf => by
  obtain ⟨o2,h2,h3⟩:=hc k hf
  rw [hk] at h2
  cases h2
  rw [he] at h3
  cases h3)).trans hk⟩
theorem gathered {t:TypeId} {bx D:Nat} {v:Value} {L:List Int} {w:World} (hb:Boxed w bx t v) (hr:w.ownsRow D 3 1 v L.length (L.map (Value.int .i64))) :
  ∀ W:World,(∀ b,(b=bx\/v.ownBlock=some b)->b<W.heap.size/\W.heap[b]? = w.heap[b]?)->W.cell? ⟨bx,0,none⟩=some v/\In.IntArg W v L:=fun W hW =>
 ⟨Boxed.cell (t:=t) (show Boxed W bx t v from (hW bx (.inl rfl)).2.trans hb),In.own_ints (fun _ => rfl) rfl (own_stay hr (fun b e => (hW b (.inr e)).2))⟩
end Fr
end
section
open Go.RowKit Go.Maps Go.Shelf
namespace Fr
open Vw (Sess)
attribute [local go_sem] Oper.semAt_some
theorem frees_any (a:Nat) (S:List Slt) (fr:List Int) (nw:Nat) (w:World) (h:ArAt a S fr nw w) :
  Calls Tryz.prog 47 #[.pointer (some ⟨a,0,none⟩)] w fun e w' => (∃ v,e = .returned (.func (.func 117) #[] #[.pointer (some ⟨w.heap.size,0,none⟩)])/\Boxed w' w.heap.size 43 v/\w'.ownsRow (w.heap.size+1) 3 1 v fr.length (fr.map (Value.int .i64)))/\Below w.heap.size w w':=by
 obtain ⟨i0,hi,hz0,hz1,hz2⟩:=info_parts finfo_int
 have hfl:fr.length<=32:=by obtain ⟨⟨nx,fi,hA,hF,-⟩,hnd⟩:=h;exact nodup_len32 hnd hF.thr
 have halt:a<w.heap.size:=by obtain ⟨⟨nx,fi,hA,-⟩,-⟩:=h;exact hA.lt
 obtain ⟨W1,hW1⟩:∃ W1,W1=w.alloc (.cells #[.slice none 0 0] 43):=⟨_,rfl⟩
 obtain ⟨W2,hW2⟩:∃ W2,W2=W1.alloc (.cells #[.pointer (some ⟨a,0,none⟩)] 102):=⟨_,rfl⟩
 have hs1:W1.heap.size=w.heap.size+1:=by rw [hW1,World.size_alloc]
 have hs2:W2.heap.size=w.heap.size+2:=by rw [hW2,World.size_alloc,hs1]
 have hU1:GL 43 w.heap.size (w.heap.size+1) w (.slice none 0 0) [] (fun b => b=w.heap.size) W1:=by rw [hW1];exact GL.start w
 have hU0:GL 43 w.heap.size (w.heap.size+1) w (.slice none 0 0) [] (fun b => b=w.heap.size) W2:=hU1.turn (by rw [hW2];exact World.grownBy_alloc _ _ none) (fun r e => by cases e)
 have hb2:Below w.heap.size w W2:=hU0.bel
 have hA2:ArAt a S fr nw W2:=h.below hb2
 have hbx:W2.heap[W1.heap.size]? = some (.cells #[.pointer (some ⟨a,0,none⟩)] 102 (0,0)):=by rw [hW2];exact Ut.alloc_at _ _
 have hseq:=fun n => now_seq n a W1.heap.size S fr nw W2 hA2 hbx
 rw [hs1] at hseq hbx
 have HNOW:=zh (now_any a W1)
 have HSEQ:=zh (hseq 8);have HS1:=zh hs1;have HS2:=zh hs2;have HU0:=zh hU0;have HW1:=zh hW1;have HW2:=zh hW2;have HFL:=zh hfl
 have HA:=zh halt
 clear hseq hs1 hs2 hU0 hU1 hb2 hA2 hbx hW1 hW2 h hfl halt
 refine (callsIn_wide (n:=9)).1 ?_
 refine callsIn_of_wp_marks Tryz.func47 rfl trivial ?_ rfl
 simp only [Tryz.ntmps47,List.size_toArray,List.length_cons,List.length_nil,Nat.reduceAdd,Nat.reduceSub,Array.replicate_succ,Array.replicate_zero,List.push_toArray,List.append_toArray,List.nil_append,List.cons_append]
 refine wpIn_wide.2 ?_
 go_wp2_with fail
 rw [<- HW1.out]
 refine HNOW.out.mono ?_
 rintro e w3 ⟨rfl,hw3⟩
 rw [<- HW2.out] at hw3
 subst hw3
 rw [HS1.out]
 go_wp2_with fail
 refine (wpIn_wide (n:=9)).1 ?_
 refine Fo.range_foot (F:=Fence.wide) (n:=9) rfl (by omega) (gf:=189) (lb:=#[.pointer (some ⟨w.heap.size+1,0,none⟩)]) rfl trivial (enters_of Tryz.func189 (by kernel_rfl) rfl)
  HSEQ.out (fun _ => rfl) (fun b hb => ⟨by have:=HS2.out;have:=HA.out;rcases hb with rfl | rfl <;> omega,rfl⟩)
  (fun pre Fp A => ∃ d,GL 43 w.heap.size (w.heap.size+1) w d pre Fp A) (fun c pre Fp A => False) (fun b => b=w.heap.size) (fun b hb => ⟨by have:=HS2.out;omega,fun h => by have:=HA.out;rcases h with h | h <;> omega⟩)
  ?hU ?hUx ⟨_,HU0.out⟩
  (fun x => { tmps:=#[.pointer (some ⟨a,0,none⟩),undef,.nilFunc,.pointer (some ⟨w.heap.size,0,none⟩),.int .i64 x,.pointer (some ⟨a,0,none⟩),.func (.func 189) #[] #[.pointer (some ⟨w.heap.size+1,0,none⟩)],.int .i64 x,undef,undef,undef,undef,undef],defers:=[] })
  ?assign ?body ?done ?stop
 case hU =>
  rintro pre Fp A A' row ⟨d,h1⟩ hsz hg hrow
  exact ⟨d,h1.turn hg (fun r e => ⟨by have:=(hrow r e).1;have:=HS2.out;omega,(hrow r e).2⟩)⟩
 case hUx => intro c pre Fp A A' row h1;exact h1.elim
 case assign =>
  intro l2 x A K hK
  unfold encI
  gi_wp2
  exact hK
 case body =>
  rintro l2 pre x Fp A ⟨d,hu⟩ hszA hpre
  obtain ⟨q1,r1,rfl,-⟩:=own_shape hu.r1
  have hc1:=hu.b1.cell
  have hlen:pre.length+1<=32:=by
   have h1:=hpre.length_le
   simp only [List.length_append,List.length_singleton] at h1
   exact Nat.le_trans h1 HFL.out
  obtain ⟨K,hK⟩:∃ K,K=pre.length:=⟨_,rfl⟩
  have am1:K+1<=maxLen:=by unfold maxLen;omega
  have am3:(K+1) * 8<=140737488355328:=by omega
  have k3:w.heap.size+1<=(A.alloc (.cells #[.int .i64 x] 3)).heap.size:=by have:=hu.b1.lt;simp;omega
  have hr1:=hu.r1
  have HP1:=zh (fun (v1:Value) (w1:World) (o1:Obj) => GL.push (v:=v1) (w1:=w1) (o1:=o1) (x:=x) hu)
  rw [<- hK] at hc1 hr1 HP1
  have H1K:=zh hr1
  clear hu hszA hpre hlen hr1 hK
  gi_wp2_with (gi_at_builtin;(refine wpListIn_append_own_at _ rfl _ _ 43 rfl (w.heap.size+1) 3 i0 (.int .i64 0) 1 8 Tryz.underlying43 hi hz0 hz1 hz2 rfl (by decide) _ _ _ rfl (H1K.out.alloc _) ⟨A.heap.size,0,none⟩ 1 1 [.int .i64 x] rfl rfl (World.news_of_block (Ut.alloc_at _ _)) (by intro u hu;rw [List.mem_singleton.1 hu];rfl) am1 am3 k3 ?_);(intro v1 w1 hown' hgrow hnil hat;obtain ⟨q',r',rfl,-⟩:=own_shape hown';obtain ⟨hb1,-,Fp',hn1⟩:=HP1.out _ _ _ hown' hgrow hat;(have hc1':=hb1.cell);(have hf1:=hb1.frozen);(have HN:=zh hn1);clear hown' hgrow hat hn1 hb1 hnil))
  exact ⟨Fp',⟨_,HN.out.1⟩,HN.out.2.1,HN.out.2.2⟩
 case done =>
  rintro D ys Fp A rfl hD ⟨d,hu⟩ hnf hK
  gi_wp2
  go_wp2_with fail
  refine ⟨by simp,.inl ⟨_,_,rfl,run_takeDeferred (show A.heap[D]? = _ from hK),?_⟩⟩
  have h2:=hu.turn (grownBy_putObj' A D (.deferred none)) (fun r e => by cases e;exact ⟨by have:=HS2.out;omega,hnf⟩)
  exact ⟨_,results_tmp rfl _ _ _,⟨d,rfl,h2.b1,h2.r1⟩,h2.bel⟩
 case stop => intro D c pre Fp A hSp hD h1;exact h1.elim
end Fr
end
section
open Go.RowKit Go.Maps Go.Shelf
namespace Fr
open Vw (Sess)
attribute [local go_sem] Oper.semAt_some
section
variable {a B N:Nat} {S:List Slt} {fr:List Int} {nw:Nat} {last:Int} {L:List Int} {W1:World}
def AllB (a B N:Nat) (W1:World) (pre:List Int) (y:Int) (A:World):Prop :=
 ∃ d Fp,GL 43 B (B+1) W1 d pre Fp A/\(∀ b,Fp b->b≠N/\b≠N+1)/\A.heap[N]? = some (.cells #[.pointer (some ⟨a,0,none⟩)] 102 (0,0))/\Boxed A (N+1) 3 (.int .i64 y)
def AllU (a B N:Nat) (L:List Int) (W1:World) (pre:List Int) (A:World):Prop:=pre <+: L/\pre.length<L.length/\AllB a B N W1 pre (pre.getLastD (L.headD (-1))) A
def AllM (a B N:Nat) (L:List Int) (W1:World) (p:List Int × Int) (A:World):Prop:=p.1 <+: L/\L[p.1.length]? = some p.2/\AllB a B N W1 p.1 p.2 A
def AllM2 (a B N:Nat) (L:List Int) (W1:World) (p:List Int × Int × Nat) (A:World):Prop:=AllM a B N L W1 (p.1,p.2.1) A
def AllX (a B N:Nat) (L:List Int) (W1:World) (c:Code) (pre:List Int) (A:World):Prop:=c = .exit 0/\pre=L/\∃ y,AllB a B N W1 pre y A
theorem AllB.own {n:Nat} (hB:B<n) (hN:N+1<n) {pre:List Int} {y:Int} {A A':World} {row:Option Nat} (h:AllB a B N W1 pre y A) (hg:A.grownBy A' row) (hr:∀ r,row=some r->n<=r/\∃ o:Obj,A.heap[r]? = some o/\o.isCells=false):AllB a B N W1 pre y A':=by
 obtain ⟨d,Fp,h1,h2,h3,h4⟩:=h
 have hlt3:N<A.heap.size:=(zx h3)
 refine ⟨d,Fp,h1.turn hg (fun r e => ⟨by have:=(hr r e).1;omega,fun hf => ?_⟩),h2,(hg.block N hlt3 (fun e => by have:=(hr N e.symm).1;omega)).trans h3,h4.kept hg (fun e => by have:=(hr _ e.symm).1;omega)⟩
 obtain ⟨o,k1,k2⟩:=h1.cells hf
 obtain ⟨-,o2,k3,k4⟩:=hr r e
 rw [k1] at k3
 cases k3
 rw [k2] at k4
 cases k4
theorem AllB.turn {pre:List Int} {y x:Int} {A A':World} (h:AllB a B N W1 pre y A) (hBN:B<N) (ho:Only (fun b => b=N+1) A A') (hx:Boxed A' (N+1) 3 (.int .i64 x)):AllB a B N W1 pre x A':=by
 obtain ⟨d,Fp,h1,h2,h3,h4⟩:=h
 refine ⟨d,Fp,h1.other ho (fun b hb => ?_),h2,(ho.block N (zx h3) (by omega)).trans h3,hx⟩
 subst hb
 exact ⟨by omega,fun hf => (h2 _ hf).2 rfl⟩
theorem ring_first {last:Int} {L:List Int} {x:Int} (hR:RingAt S last L) (hx:L[0]? = some x):(sl S last).next=x:=by
 cases L with
 | nil => simp at hx
 | cons z r =>
  simp only [List.getElem?_cons_zero,Option.some.injEq] at hx
  subst hx
  rcases hR with ⟨h,_⟩ | ⟨q,hq,h⟩
  ·simp at h
  ·exact h.1.1
theorem all_last {last:Int} {L pre:List Int} {x:Int} (hR:RingAt S last L) (hd:L.Nodup) (hp:pre <+: L) (hx:L[pre.length]? = some x):pre ++ [x] <+: L/\(x=last->pre ++ [x]=L)/\(x≠last->(pre ++ [x]).length<L.length):=by
 obtain ⟨t,rfl⟩:=hp
 rw [List.getElem?_append_right (Nat.le_refl _),Nat.sub_self] at hx
 cases t with
 | nil => simp at hx
 | cons z r =>
  simp only [List.getElem?_cons_zero,Option.some.injEq] at hx
  subst hx
  have hl:∃ q,pre ++ z :: r=q ++ [last]:=by
   rcases hR with ⟨h,_⟩ | ⟨q,hq,h⟩
   ·simp at h
   ·exact ⟨q,hq⟩
  obtain ⟨q,hq⟩:=hl
  refine ⟨⟨r,by simp⟩,fun e => ?_,fun e => ?_⟩
  ·subst e
   rcases List.eq_nil_or_concat r with rfl | ⟨r',y,rfl⟩
   ·rfl
   ·have e2:y=z:=by
     have h2:(pre ++ z :: r') ++ [y]=q ++ [z]:=by rw [<- hq];simp
     exact (List.append_inj' h2 rfl).2 |> fun h => by simpa using h
    subst e2
    have:=(List.nodup_append.1 hd).2.1
    simp at this
  ·rcases List.eq_nil_or_concat r with rfl | ⟨r',y,rfl⟩
   ·have:=(List.append_inj' hq rfl).2
    simp at this
    exact absurd this e
   ·simp
end
theorem all_any (a:Nat) (S:List Slt) (fr:List Int) (nw:Nat) (last:Int) (L:List Int) (w:World) (h:ArAt a S fr nw w) (hR:RingAt S last L) (ht:∀ x ∈ L,thr x=true) (hd:L.Nodup) :
  Calls Tryz.prog 118 #[.pointer (some ⟨a,0,none⟩),.int .i64 last] w fun e w' => (∃ bx v,e = .returned (.func (.func 193) #[] #[.pointer (some ⟨bx,0,none⟩)])/\w.heap.size<=bx/\Boxed w' bx 43 v/\w'.ownsRow (bx+1) 3 1 v L.length (L.map (Value.int .i64)))/\Below w.heap.size w w':=by
 obtain ⟨W0,hW0⟩:∃ W0,W0=w.alloc (.cells #[.int .i64 last] 3):=⟨_,rfl⟩
 have hs0:W0.heap.size=w.heap.size+1:=by rw [hW0,World.size_alloc]
 have hb0:Below w.heap.size w W0:=by rw [hW0];exact (Below.refl _ _).alloc (Nat.le_refl _) _
 have hx0:Boxed W0 w.heap.size 3 (.int .i64 last):=by rw [hW0];exact Boxed.new _ _ _
 obtain ⟨W1,hW1⟩:∃ W1,W1=W0.alloc (.cells #[.slice none 0 0] 43):=⟨_,rfl⟩
 have hU1:GL 43 W0.heap.size (W0.heap.size+1) W0 (.slice none 0 0) [] (fun b => b=W0.heap.size) W1:=by rw [hW1];exact GL.start W0
 have hs1:W1.heap.size=w.heap.size+2:=by rw [hW1,World.size_alloc,hs0]
 have hb1:Below w.heap.size w W1:=hb0.trans (hU1.bel.mono hb0.size)
 rw [hs0] at hU1
 have cl:W1.cell? ⟨w.heap.size,0,none⟩=some (.int .i64 last):=(hU1.bel.cell (p:=⟨w.heap.size,0,none⟩) (Nat.lt_succ_self _)).trans hx0.cell
 have HW0:=zh hW0;have HW1:=zh hW1
 by_cases hne:L=[]
 ·subst hne
  have hla:last = -1:=by
   rcases hR with ⟨-,h⟩ | ⟨r,h,-⟩
   ·exact h
   ·simp at h
  subst hla
  have HNO:=zh (fun w => rthere_no (-1) (by decide) w)
  have HU:=zh hU1;have HB:=zh hb1
  rw [hW1,hW0] at cl
  clear hW0 hW1 hs0 hs1 hb0 hx0 hU1 hb1 h hR ht hd
  go_enter Tryz.func118,Tryz.ntmps118
  go_wp2_with fail
  refine (HNO.out _).mono ?_
  rintro e w2 ⟨rfl,hw2⟩
  rw [<- HW0.out,<- HW1.out] at hw2
  subst hw2
  go_wp2
  go_ret
  exact ⟨⟨_,_,rfl,by omega,HU.out.b1,HU.out.r1⟩,HB.out⟩
 ·have hlast:=ht last (hR.last_mem hne)
  have HYES:=zh (fun w => rthere_yes last hlast w)
  have hpos:0<L.length:=List.length_pos_iff.2 hne
  obtain ⟨x0,hx00⟩:∃ x,L[0]? = some x:=⟨L[0]'hpos,List.getElem?_eq_getElem hpos⟩
  have hfirst:=ring_first hR hx00
  have hhd:L.headD (-1)=x0:=by
   cases L with
   | nil => exact absurd rfl hne
   | cons z r => simpa using hx00
  have hA1:ArAt a S fr nw W1:=h.below hb1
  have hof:Calls Tryz.prog 192 #[.pointer (some ⟨a,0,none⟩),.int .i64 last] W1 fun e w' => e = .returned (.agg #[.int .i64 (sl S last).prev,.int .i64 (sl S last).next])/\Below W1.heap.size W1 w':=by
   obtain ⟨⟨nx,fi,hA,-⟩,-⟩:=hA1
   exact of_ok hA last hlast
  rw [hfirst] at hof
  obtain ⟨pv,hpv⟩:∃ pv,pv=(sl S last).prev:=⟨_,rfl⟩
  rw [<- hpv] at hof
  have HOF:=zh hof
  have HF:=lk_next pv x0
  have hll:=nodup_len32 hd ht
  have halt:=h.lt
  have HA1:=zh hA1;have HR:=zh hR;have HT:=zh ht;have HD:=zh hd;have HU1:=zh hU1;have HB1:=zh hb1;have HS1:=zh hs1;have HX:=zh hx00;have HH:=zh hhd;have HP:=zh hpos;have HLL:=zh hll;have HAL:=zh halt;have HX0:=zh hx0;have HS0:=zh hs0
  have HCL:=zh cl
  rw [hW1,hW0] at cl
  clear hW0 hW1 hs0 hs1 hb0 hx0 hU1 hb1 h hR ht hd hof hpv hA1 hx00 hhd hpos hll halt hfirst hlast hne
  refine (callsIn_wide (n:=9)).1 ?_
  refine callsIn_of_wp_marks Tryz.func118 rfl trivial ?_ rfl
  simp only [Tryz.ntmps118,List.size_toArray,List.length_cons,List.length_nil,Nat.reduceAdd,Nat.reduceSub,Array.replicate_succ,Array.replicate_zero,List.push_toArray,List.append_toArray,List.nil_append,List.cons_append]
  refine wpIn_wide.2 ?_
  go_wp2_with fail
  refine (HYES.out _).mono ?_
  rintro e w2 ⟨rfl,hw2⟩
  rw [<- HW0.out,<- HW1.out] at hw2
  subst hw2
  have cl2:=HCL.out
  clear cl
  go_wp2_with fail
  refine HOF.out.mono ?_
  rintro e W3 ⟨rfl,hb3⟩
  go_wp2_with fail
  refine (from_any a x0 W3).mono ?_
  rintro e w5 ⟨rfl,hw5⟩
  obtain ⟨N,hN⟩:∃ N,N=W3.heap.size:=⟨_,rfl⟩
  have hNge:w.heap.size+2<=N:=by have:=hb3.size;have:=HS1.out;omega
  have hs5:w5.heap.size=N+2:=by rw [hw5,World.size_alloc,World.size_alloc,hN]
  have hbA:w5.heap[N]? = some (.cells #[.pointer (some ⟨a,0,none⟩)] 102 (0,0)):=by
   rw [hw5,hN];exact (Below.heap_alloc _ _ _ (by simp)).trans (Ut.alloc_at _ _)
  have hbI:Boxed w5 (N+1) 3 (.int .i64 x0):=by
   have:=Boxed.new (W3.alloc (.cells #[.pointer (some ⟨a,0,none⟩)] 102)) 3 (.int .i64 x0)
   rw [World.size_alloc] at this
   rw [hw5,hN];exact this
  have hG3:GL 43 (w.heap.size+1) (w.heap.size+1+1) W0 (.slice none 0 0) [] (fun b => b=w.heap.size+1) W3:=HU1.out.other (F:=fun _ => False) (Only.of_below hb3) (fun _ h => h.elim)
  have hG5:GL 43 (w.heap.size+1) (w.heap.size+1+1) W0 (.slice none 0 0) [] (fun b => b=w.heap.size+1) w5:=by
   rw [hw5]
   exact (hG3.turn (World.grownBy_alloc _ _ none) (fun r e => by cases e)).turn (World.grownBy_alloc _ _ none) (fun r e => by cases e)
  have hU5:AllU a (w.heap.size+1) N L W0 [] w5:=⟨List.nil_prefix,HP.out,_,_,hG5,fun b hb => by omega,hbA,by rw [List.getLastD_nil,HH.out];exact hbI⟩
  rw [<- hN]
  have HU5:=zh hU5;have HS5:=zh hs5;have HN:=zh hNge
  clear hU5 hG5 hG3 hbI hbA hs5 hw5 hb3 hN hNge cl2
  obtain ⟨i0,hi,hz0,hz1,hz2⟩:=info_parts finfo_int
  go_wp2_with fail
  refine (wpIn_wide (n:=9)).1 ?_
  refine Mq.range_mut_sl (F:=Fence.wide) (n:=9) rfl (by omega) (gf:=251) (lb:=#[.pointer (some ⟨N+1,0,none⟩),.pointer (some ⟨N,0,none⟩)]) rfl trivial (enters_of Tryz.func251 (by kernel_rfl) rfl)
   (from_seq 8 (by omega) a N (N+1) S fr nw last L HR.out HT.out HLL.out (by have:=HAL.out;have:=HN.out;omega) (by omega)) (fun _ => rfl)
   (AllU a (w.heap.size+1) N L W0) (AllM a (w.heap.size+1) N L W0) (AllM2 a (w.heap.size+1) N L W0) (fun _ _ => False) (AllX a (w.heap.size+1) N L W0)
   ?hU ?hM (fun _ _ _ _ h _ _ => h) ?hX ?hstep HU5.out
   (fun T x b => (T.setIfInBounds 15 (.int .i64 x)).setIfInBounds 6 (.int .i64 x)) (fun _ W => W) (fun pre x W h => ⟨h,KeepsFrom.refl _ _⟩) ?assign ?body (fun _ _ _ _ h _ => h.elim) ?stop
  case hU => exact fun pre W W' row h hg hr => ⟨h.1,h.2.1,h.2.2.own (by have:=HS5.out;have:=HN.out;omega) (by have:=HS5.out;omega) hg hr⟩
  case hM => exact fun p W W' row h hg hr => ⟨h.1,h.2.1,h.2.2.own (by have:=HS5.out;have:=HN.out;omega) (by have:=HS5.out;omega) hg hr⟩
  case hX => exact fun c pre W W' row h hg hr => ⟨h.1,h.2.1,h.2.2.imp fun y h3 => h3.own (by have:=HS5.out;have:=HN.out;omega) (by have:=HS5.out;omega) hg hr⟩
  case hstep =>
   intro pre A hu hsz
   obtain ⟨u1,u2,hB⟩:=hu
   obtain ⟨d,Fp,g1,g2,g3,g4⟩:=id hB
   have hAA:ArAt a S fr nw A:=HA1.out.keep (by
    have e1:A.heap[a]? = W0.heap[a]?:=g1.bel.block a (by have:=HAL.out;omega)
    have e2:W1.heap[a]? = W0.heap[a]?:=HU1.out.bel.block a (by have:=HAL.out;omega)
    exact e1.trans e2.symm)
   refine ⟨⟨u1,u2,hAA,by rw [zc g3];rfl,g4⟩,by have:=HLL.out;omega,fun x B hs => ⟨⟨u1,hs.1,hB.turn (by have:=HN.out;omega) hs.2.2 hs.2.1⟩,keeps_only hs.2.2 (fun b hb => ⟨_,by subst hb;exact g4,rfl⟩) _⟩,fun B hf => hf.elim⟩
  case assign =>
   intro l2 x A K hK
   unfold encI
   gi_wp2
   exact hK
  case body =>
   rintro l2 pre x b A ⟨hp,hx,d,Fp,hu,g2,g3,g4⟩
   simp only at hp hx hu g4
   obtain ⟨e1,e2,e3⟩:=all_last HR.out HD.out hp hx
   obtain ⟨q1,r1,rfl,-⟩:=own_shape hu.r1
   have hc1:=hu.b1.cell
   have hlen:pre.length+1<=32:=by
    have h1:=e1.length_le
    simp only [List.length_append,List.length_singleton] at h1
    exact Nat.le_trans h1 HLL.out
   obtain ⟨K,hK⟩:∃ K,K=pre.length:=⟨_,rfl⟩
   have am1:K+1<=maxLen:=by unfold maxLen;omega
   have am3:(K+1) * 8<=140737488355328:=by omega
   have k3:w.heap.size+1+1<=(A.alloc (.cells #[.int .i64 x] 3)).heap.size:=by have:=hu.b1.lt;simp;omega
   have hr1:=hu.r1
   have HP1:=zh (fun (v1:Value) (w1:World) (o1:Obj) => GL.push (v:=v1) (w1:=w1) (o1:=o1) (x:=x) hu)
   have HKP:=zh (fun (A':World) (ho:Only Fp A A') => keeps_only ho (fun b hb => hu.cells hb) w5.heap.size)
   have HFR:Hid (∀ (A':World) (v:Value) (Fp':Nat->Prop),GL 43 (w.heap.size+1) (w.heap.size+1+1) W0 v (pre ++ [x]) Fp' A'->Only Fp A A'->(∀ b,Fp' b->Fp b\/A.heap.size<=b)->AllB a (w.heap.size+1) N W0 (pre ++ [x]) x A'):=fun A' v Fp' k1 k2 k4 => ⟨v,Fp',k1,fun b hb => by
     rcases k4 b hb with h | h
     ·exact g2 b h
     ·have:=g4.lt;omega,(k2.block N (zx g3) (fun h => (g2 N h).1 rfl)).trans g3,(k2.block (N+1) g4.lt (fun h => (g2 (N+1) h).2 rfl)).trans g4⟩
   rw [<- hK] at hc1 hr1 HP1
   have H1K:=zh hr1
   have HE1:=zh e1;have HE2:=zh e2;have HE3:=zh e3
   clear hu hlen hr1 hK hp hx g2 g3 g4 e1 e2 e3
   gi_wp2_with (gi_at_builtin;(refine wpListIn_append_own_at _ rfl _ _ 43 rfl (w.heap.size+1+1) 3 i0 (.int .i64 0) 1 8 Tryz.underlying43 hi hz0 hz1 hz2 rfl (by decide) _ _ _ rfl (H1K.out.alloc _) ⟨A.heap.size,0,none⟩ 1 1 [.int .i64 x] rfl rfl (World.news_of_block (Ut.alloc_at _ _)) (by intro u hu;rw [List.mem_singleton.1 hu];rfl) am1 am3 k3 ?_);(intro v1 w1 hown' hgrow hnil hat;obtain ⟨q',r',rfl,-⟩:=own_shape hown';obtain ⟨hb1,hbe,Fp',hn1⟩:=HP1.out _ _ _ hown' hgrow hat;(have hc1':=hb1.cell);(have hf1:=hb1.frozen);(have hcl1:=(hbe.cell (p:=⟨w.heap.size,0,none⟩) (Nat.lt_succ_self _)).trans HX0.out.cell);(have HN2:=zh hn1);clear hown' hgrow hat hn1 hb1 hnil hbe))
   ·rename_i hx
    have he:x=last:=by simpa using hx
    exact ⟨HKP.out _ HN2.out.2.1,rfl,HE2.out he,_,HFR.out _ _ _ HN2.out.1 HN2.out.2.1 HN2.out.2.2⟩
   ·rename_i hx
    have hne:x≠last:=fun e => by rw [e] at hx;simp at hx
    exact ⟨HKP.out _ HN2.out.2.1,HE1.out,HE3.out hne,by simp only [List.getLastD_concat];exact HFR.out _ _ _ HN2.out.1 HN2.out.2.1 HN2.out.2.2⟩
  case stop =>
   rintro D c pre A hD ⟨rfl,rfl,y,d,Fp,hu,-,-,-⟩ hK
   obtain ⟨o0,k1,k2⟩:∃ o,A.heap[D]? = some o/\o.isCells=false:=⟨_,hK,rfl⟩
   have hnf:¬ Fp D:=fun hf => by
    obtain ⟨o2,k3,k4⟩:=hu.cells hf
    rw [k1] at k3;cases k3;rw [k2] at k4;cases k4
   gi_wp2
   go_wp2_with fail
   refine ⟨by simp,.inl ⟨_,_,rfl,run_takeDeferred (show A.heap[D]? = _ from hK),?_⟩⟩
   have h2:=hu.turn (grownBy_putObj' A D (.deferred none)) (fun r e => by cases e;exact ⟨by have:=HS5.out;have:=HN.out;omega,hnf⟩)
   have h3:Below w.heap.size w W0:=by rw [HW0.out];exact (Below.refl _ _).alloc (Nat.le_refl _) _
   exact ⟨_,results_tmp rfl _ _ _,⟨_,d,rfl,by omega,h2.b1,h2.r1⟩,h3.trans (h2.bel.mono (by omega))⟩
end Fr
end
end Go.Proofs.YtimhglmfckfclaaGreatDoor
