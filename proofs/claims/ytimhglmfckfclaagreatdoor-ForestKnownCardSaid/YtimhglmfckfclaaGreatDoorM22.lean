/- Parts of the proof. -/
import Derived.Test.YtimhglmfckfclaaGreatDoorM21
import Derived.RangeFuncCalls
set_option linter.unusedVariables false
set_option linter.unusedSimpArgs false
set_option maxRecDepth 100000
set_option maxHeartbeats 16000000
namespace Go.Proofs.YtimhglmfckfclaaGreatDoor
section
open Go.RowKit Go.Maps Go.Shelf
namespace Fr
open Vw (Sess)
attribute [local go_sem] Oper.semAt_some
structure BelOk (S:List Slt) (K:Int->List Int) (G:Int->Prop) (d:Int->Nat):Prop where
 ring:∀ p,G p->RingAt S (sl S p).kids (K p)
 nd:∀ p,G p->(K p).Nodup
 th:∀ p,G p->thr p=true
 kid:∀ p x,G p->x ∈ K p->G x/\d x<d p
 pos:∀ p,G p->1<=d p
section
variable {S:List Slt} {K:Int->List Int} {G:Int->Prop} {d:Int->Nat}
theorem BelOk.all (h:BelOk S K G d) {p:Int} (hp:G p):allL S (sl S p).kids=K p:=(h.ring p hp).all (fun x hx => h.th x (h.kid p x hp hx).1) (h.nd p hp)
theorem BelOk.step (h:BelOk S K G d) {p:Int} (hp:G p) (n:Nat) (seen:List Int):belowN S (n+1) p seen=if seen.contains p then seen else (K p).foldl (fun sn k => belowN S n k sn) (seen ++ [p]):=by
 show (if _ then _ else _)=_
 rw [h.all hp]
def SlotsNd (l:List Int):Prop:=l.Nodup/\∀ x ∈ l,thr x=true
theorem SlotsNd.len {l:List Int} (h:SlotsNd l):l.length<=32:=nodup_len32 h.1 h.2
theorem SlotsNd.snoc {l:List Int} {i:Int} (h:SlotsNd l) (hi:thr i=true) (hn:l.contains i=false):SlotsNd (l ++ [i]):=by
 have hn2:i ∉ l:=by simpa using hn
 refine ⟨List.nodup_append.2 ⟨h.1,by simp,?_⟩,?_⟩
 ·intro x hx y hy
  rw [List.mem_singleton] at hy
  subst hy
  exact fun e => hn2 (e ▸ hx)
 ·intro x hx
  rcases List.mem_append.1 hx with hx | hx
  ·exact h.2 x hx
  ·rw [List.mem_singleton] at hx;subst hx;exact hi
theorem BelOk.slots (h:BelOk S K G d):∀ (n:Nat) (i:Int) (seen:List Int),G i->SlotsNd seen->SlotsNd (belowN S n i seen)
 | 0,_,_,_,hs => hs
 | n+1,i,seen,hi,hs => by
  rw [h.step hi]
  cases hc:seen.contains i with
  | true => exact hs
  | false =>
   show SlotsNd (List.foldl _ _ _)
   have hk:∀ x ∈ K i,G x:=fun x hx => (h.kid i x hi hx).1
   have:∀ (l:List Int),(∀ x ∈ l,G x)->∀ s,SlotsNd s->SlotsNd (l.foldl (fun sn k => belowN S n k sn) s):=by
    intro l
    induction l with
    | nil => exact fun _ s hs => hs
    | cons y r ih => exact fun hl s hs => ih (fun x hx => hl x (List.mem_cons_of_mem _ hx)) _ (BelOk.slots h n y s (hl y (List.mem_cons_self ..)) hs)
   exact this (K i) hk _ (hs.snoc (h.th i hi) hc)
end
theorem contains_own {D:Nat} {v:Value} {L:List Int} {w:World} (h:w.ownsRow D 3 1 v L.length (L.map (Value.int .i64))) (hl:L.length<=65536) (i:Int) :
  Calls Tryz.prog 209 #[v,.int .i64 i] w fun e w' => e = .returned (.bool (L.contains i))/\w'=w:=by
 rcases Nat.eq_zero_or_pos L.length with h0 | h0
 ·have e:L=[]:=List.eq_nil_of_length_eq_zero h0
  subst e
  obtain ⟨q,c,rfl,-⟩:=own_shape h
  exact Tryz.slices_Contains_int_empty q c i w
 ·obtain ⟨g,c,rfl,_,_,_,hg,hc⟩:=Ut.own_cells h h0
  have:=Tryz.slices_Contains_int g 0 L.length c L i w (Nat.le_refl _) (by omega) (fun j hj => by rw [Nat.zero_add,hc j hj,List.getElem?_map,List.getD_eq_getElem?_getD,List.getElem?_eq_getElem hj];rfl)
  rwa [List.take_length] at this
def BelPost (D:Nat) (v:Value) (L:List Int) (w:World) (e:Ending) (w':World):Prop :=
 ∃ v',e = .returned v'/\w'.ownsRow D 3 1 v' L.length (L.map (Value.int .i64))/\Only (fun b => v.ownBlock=some b) w w'/\∀ b,v'.ownBlock=some b->v.ownBlock=some b\/w.heap.size<=b
structure BLv (t:Nat) (D:Nat) (v:Value) (w A:World) (d:Value) (L:List Int):Prop where
 bt:Boxed A w.heap.size 103 (.pointer (some ⟨t,0,none⟩))
 bs:Boxed A (w.heap.size+1) 43 d
 row:A.ownsRow D 3 1 d L.length (L.map (Value.int .i64))
 only:Only (fun b => v.ownBlock=some b) w A
 new:∀ b,d.ownBlock=some b->v.ownBlock=some b\/w.heap.size<=b
 apart:∀ b,d.ownBlock=some b->b≠w.heap.size/\b≠w.heap.size+1
section
variable {t D:Nat} {v d:Value} {w A A':World} {L:List Int}
theorem BLv.turn {row:Option Nat} (h:BLv t D v w A d L) (hg:A.grownBy A' row) (hr:∀ r,row=some r->w.heap.size+1<r/\d.ownBlock≠some r):BLv t D v w A' d L where
 bt:=h.bt.kept hg (fun e => by have:=(hr _ e.symm).1;omega)
 bs:=h.bs.kept hg (fun e => by have:=(hr _ e.symm).1;omega)
 row:=own_stay h.row (fun b e => hg.block b (h.row.lt b e).2 (fun e2 => (hr b e2.symm).2 e))
 only:=h.only.grown hg (fun k hk e => by have:=(hr k e).1;omega)
 new:=h.new
 apart:=h.apart
theorem BLv.below (h:BLv t D v w A d L) (hb:Below A.heap.size A A'):BLv t D v w A' d L where
 bt:=(hb.block _ h.bt.lt).trans h.bt
 bs:=(hb.block _ h.bs.lt).trans h.bs
 row:=own_stay h.row (fun b e => hb.block b (h.row.lt b e).2)
 only:=h.only.trans (Only.of_below (F:=fun _ => False) hb) (fun _ _ h => h.elim)
 new:=h.new
 apart:=h.apart
theorem BLv.step {d':Value} {L':List Int} {A1:World} (h:BLv t D v w A d L) (ho:Only (fun b => d.ownBlock=some b) A A1) (hrow:A1.ownsRow D 3 1 d' L'.length (L'.map (Value.int .i64))) (hn:∀ b,d'.ownBlock=some b->d.ownBlock=some b\/A.heap.size<=b) :
  (Boxed A1 w.heap.size 103 (.pointer (some ⟨t,0,none⟩))/\Boxed A1 (w.heap.size+1) 43 d)/\BLv t D v w (A1.setCell ⟨w.heap.size+1,0,none⟩ d') d' L'/\Only (fun b => b=w.heap.size+1\/d.ownBlock=some b) A (A1.setCell ⟨w.heap.size+1,0,none⟩ d'):=by
 have hbt:Boxed A1 w.heap.size 103 (.pointer (some ⟨t,0,none⟩)):=(ho.block _ h.bt.lt (fun e => (h.apart _ e).1 rfl)).trans h.bt
 have hbs:Boxed A1 (w.heap.size+1) 43 d:=(ho.block _ h.bs.lt (fun e => (h.apart _ e).2 rfl)).trans h.bs
 have hap:∀ b,d'.ownBlock=some b->b≠w.heap.size/\b≠w.heap.size+1:=fun b e => by
  rcases hn b e with h1 | h1
  ·exact h.apart b h1
  ·have:=h.bs.lt;omega
 have hsz:=h.only.size
 have ho2:Only (fun b => b=w.heap.size+1\/d.ownBlock=some b) A (A1.setCell ⟨w.heap.size+1,0,none⟩ d'):=(ho.mono (fun _ _ h => .inr h)).setCell (fun _ => .inl rfl) _
 refine ⟨⟨hbt,hbs⟩,⟨?_,hbs.set d',own_stay hrow (fun b e => Below.heap_setCell _ _ _ _ (hap b e).2),?_,?_,hap⟩,ho2⟩
 ·exact (Below.heap_setCell _ _ _ _ (by simp)).trans hbt
 ·refine h.only.trans ho2 ?_
  rintro i hi (h1 | h1)
  ·omega
  ·rcases h.new i h1 with h2 | h2
   ·exact h2
   ·omega
 ·intro b e
  rcases hn b e with h1 | h1
  ·exact h.new b h1
  ·exact .inr (by omega)
end
section
variable {t a:Nat} {r:Int} {S:List Slt} {fr:List Int} {nw D:Nat} {K:Int->List Int} {G:Int->Prop} {d:Int->Nat}
theorem below_any (hB:BelOk S K G d):∀ (n:Nat) (i:Int) (seen:List Int) (v:Value) (w:World),G i->d i<=n->TrAt t a r w->ArAt a S fr nw w->a<D->t<D->D<=w.heap.size->SlotsNd seen ->
  w.ownsRow D 3 1 v seen.length (seen.map (Value.int .i64))->Calls Tryz.prog 125 #[.pointer (some ⟨t,0,none⟩),.int .i64 i,v] w (BelPost D v (belowN S n i seen) w)
 | 0,i,seen,v,w,hi,hd,_,_,_,_,_,_,_ => by have:=hB.pos i hi;omega
 | n+1,i,seen,v,w,hi,hd,hT,hA,haD,htD,hDw,hsn,hrow => by
  have ih:=below_any hB n
  rw [hB.step hi]
  obtain ⟨q,c,rfl,-⟩:=own_shape hrow
  obtain ⟨W1,hW1⟩:∃ W1,W1=w.alloc (.cells #[.pointer (some ⟨t,0,none⟩)] 103):=⟨_,rfl⟩
  obtain ⟨W2,hW2⟩:∃ W2,W2=W1.alloc (.cells #[.slice q seen.length c] 43):=⟨_,rfl⟩
  have hs1:W1.heap.size=w.heap.size+1:=by rw [hW1,World.size_alloc]
  have hs2:W2.heap.size=w.heap.size+2:=by rw [hW2,World.size_alloc,hs1]
  have hb1:Below w.heap.size w W1:=by rw [hW1];exact (Below.refl _ _).alloc (Nat.le_refl _) _
  have hb2:Below w.heap.size w W2:=by rw [hW2];exact hb1.alloc (by omega) _
  have hx1:Boxed W1 w.heap.size 103 (.pointer (some ⟨t,0,none⟩)):=by rw [hW1];exact Boxed.new _ _ _
  have hx2:Boxed W2 (w.heap.size+1) 43 (.slice q seen.length c):=by rw [hW2,<- hs1];exact Boxed.new _ _ _
  have hV0:BLv t D (.slice q seen.length c) w W2 (.slice q seen.length c) seen:=⟨by rw [hW2];exact hx1.alloc _,hx2,own_stay hrow (fun b e => hb2.block b (hrow.lt b e).2),Only.of_below hb2,fun b e => .inl e,fun b e => by have:=(hrow.lt b e).2;omega⟩
  have HCON:Hid (Calls Tryz.prog 209 #[.slice q seen.length c,.int .i64 i] W2 fun e w' => e = .returned (.bool (seen.contains i))/\w'=W2)  := contains_own hV0.row (by have:=hsn.len;omega) i
  have HV0:=zh hV0;have HW2:Hid (W2=(w.alloc (.cells #[.pointer (some ⟨t,0,none⟩)] 103)).alloc (.cells #[.slice q seen.length c] 43)):=by show _=_;rw [hW2,hW1]
  have cT:=hV0.bt.cell
  have cS:=hV0.bs.cell
  cases hc:seen.contains i with
  | true =>
   rw [hc] at HCON
   rw [hW2,hW1] at cT cS
   rw [if_pos rfl]
   clear ih hB hi hd hT hA haD htD hDw hsn hrow hs1 hs2 hb1 hb2 hx1 hx2 hV0 hc hW2 hW1
   go_enter Tryz.func125,Tryz.ntmps125
   go_wp2_with fail
   rw [<- HW2.out]
   refine HCON.out.mono ?_
   rintro e w3 ⟨rfl,rfl⟩
   rw [<- HW2.out] at cT cS
   go_wp2
   go_ret
   exact ⟨_,rfl,HV0.out.row,HV0.out.only,HV0.out.new⟩
  | false =>
   rw [hc] at HCON
   rw [if_neg (by simp)]
   have hti:=hB.th i hi
   obtain ⟨i0,hi0,hz0,hz1,hz2⟩:=info_parts finfo_int
   have hlen:seen.length+1<=32:=by have:=(hsn.snoc hti hc).len;simpa using this
   have am1:seen.length+1<=maxLen:=by unfold maxLen;omega
   have am3:(seen.length+1) * 8<=140737488355328:=by omega
   have k3:D<=(W2.alloc (.cells #[.int .i64 i] 3)).heap.size:=by simp;omega
   have HAPP:Hid (∀ (v1:Value) (w1:World),w1.ownsRow D 3 1 v1 (seen.length+1) (seen.map (Value.int .i64) ++ [Value.int .i64 i])->(W2.alloc (.cells #[.int .i64 i] 3)).grownBy w1 (Value.ownBlock (.slice q seen.length c))->(v1.ownBlock=Value.ownBlock (.slice q seen.length c)\/v1.ownBlock=some (W2.alloc (.cells #[.int .i64 i] 3)).heap.size) ->
     (Boxed w1 w.heap.size 103 (.pointer (some ⟨t,0,none⟩))/\Boxed w1 (w.heap.size+1) 43 (.slice q seen.length c))/\BLv t D (.slice q seen.length c) w (w1.setCell ⟨w.heap.size+1,0,none⟩ v1) v1 (seen ++ [i])):=fun v1 w1 h1 h2 h3 => by
    obtain ⟨g1,g2,-⟩:=hV0.step (d':=v1) (L':=seen ++ [i]) (((Only.refl _ W2).alloc _).grown h2 (fun k _ e => e)) (by rw [List.length_append,List.map_append];exact h1) (fun b e => by
     rcases h3 with h3 | h3
     ·exact .inl (h3 ▸ e)
     ·rw [h3] at e;cases e;exact .inr (by simp))
    exact ⟨g1,g2⟩
   have H1K:Hid (W2.ownsRow D 3 1 (.slice q seen.length c) seen.length (seen.map (Value.int .i64))):=hV0.row
   have HSN:=zh (hsn.snoc hti hc)
   have HKIDS:Hid (∀ A,Below D w A->Calls Tryz.prog 210 #[.pointer (some ⟨t,0,none⟩),.int .i64 i] A (AllPost (K i) A)):=fun A hb => kids_any (hT.keep (hb.block t htD)) (hA.keep (hb.block a haD)) i hti (hB.ring i hi) (fun x hx => hB.th x (hB.kid i x hi hx).1) (hB.nd i hi)
   have HIH:Hid (∀ (x:Int) (L:List Int) (u:Value) (A:World),x ∈ K i->SlotsNd L->A.ownsRow D 3 1 u L.length (L.map (Value.int .i64))->Below D w A->Calls Tryz.prog 125 #[.pointer (some ⟨t,0,none⟩),.int .i64 x,u] A (BelPost D u (belowN S n x L) A)):=fun x L u A hx hL hr hb =>
    ih x L u A (hB.kid i x hi hx).1 (by have:=(hB.kid i x hi hx).2;omega) (hT.keep (hb.block t htD)) (hA.keep (hb.block a haD)) haD htD (Nat.le_trans hDw hb.size) hL hr
   have HSL:Hid (∀ (x:Int) (L:List Int),x ∈ K i->SlotsNd L->SlotsNd (belowN S n x L)):=fun x L hx hL => hB.slots n x L (hB.kid i x hi hx).1 hL
   have HKL:Hid ((K i).length<=32):=nodup_len32 (hB.nd i hi) (fun x hx => hB.th x (hB.kid i x hi hx).1)
   have HON:Hid (∀ A,Only (fun b => Value.ownBlock (.slice q seen.length c)=some b) w A->Below D w A):=fun A ho => ho.below hDw (fun j hj e => by have:=(hrow.lt j e).1;omega)
   have HS2:=zh hs2
   rw [hW2,hW1] at cT cS
   clear ih hB hi hd hT hA haD htD hDw hsn hrow hs1 hs2 hb1 hb2 hx1 hx2 hV0 hc hti hlen
   refine (callsIn_wide (n:=9)).1 ?_
   refine callsIn_of_wp_marks Tryz.func125 rfl trivial ?_ rfl
   simp only [Tryz.ntmps125,List.size_toArray,List.length_cons,List.length_nil,Nat.reduceAdd,Nat.reduceSub,Array.replicate_succ,Array.replicate_zero,List.push_toArray,List.append_toArray,List.nil_append,List.cons_append]
   refine wpIn_wide.2 ?_
   go_wp2_with fail
   rw [<- HW2.out]
   refine HCON.out.mono ?_
   rintro e w3 ⟨rfl,hw3⟩
   rw [hw3]
   rw [<- HW2.out] at cT cS
   clear hW1 hW2 hw3 w3
   go_wp2_with (at_builtin;(refine wpList_append_own_at _ rfl _ _ 43 rfl D 3 i0 (.int .i64 0) 1 8 Tryz.underlying43 hi0 hz0 hz1 hz2 rfl (by decide) _ _ _ rfl (H1K.out.alloc _) ⟨W2.heap.size,0,none⟩ 1 1 [.int .i64 i] rfl rfl (World.news_of_block (Ut.alloc_at _ _)) (by intro u hu;rw [List.mem_singleton.1 hu];rfl) am1 am3 k3 ?_);(intro v1 w1 hown' hgrow hnil hat;obtain ⟨q',r',rfl,-⟩:=own_shape hown';obtain ⟨hb1,hn1⟩:=HAPP.out _ _ hown' hgrow hat;(have hc0':=hb1.1.cell);(have hc1':=hb1.2.cell);(have hf1:=hb1.2.frozen);(have HN:=zh hn1);clear hown' hgrow hat hn1 hb1 hnil))
   rename_i w1 _ _ _ _
   refine (HKIDS.out _ (HON.out _ HN.out.only)).mono ?_
   rintro e w4 ⟨⟨bx,u,rfl,q1,q2,q3⟩,hb4⟩
   have hN4:=HN.out.below hb4
   have hs4:w.heap.size+2<=w4.heap.size:=by have:=hN4.bs.lt;omega
   have hbx:w.heap.size+1<bx:=by have:=HN.out.bs.lt;omega
   have hux:∀ b,u.ownBlock=some b->bx<b/\b<w4.heap.size:=fun b e => q3.lt b e
   have hnx:∀ b,Value.ownBlock (.slice q' (seen.length+1) r')=some b->b<bx:=fun b e => by have:=(HN.out.row.lt b e).2;omega
   have HN4:=zh hN4;have HS4:=zh hs4;have HBX:=zh hbx;have HUX:=zh hux;have HNX:=zh hnx
   have HSEQ:=zh (all_seq 8 bx u (K i) (by have:=HKL.out;omega) (fun b => b=bx\/u.ownBlock=some b) w4 (gathered q2 q3))
   have HBL:Hid (bx<w4.heap.size):=q2.lt
   clear hN4 hs4 hbx hux hnx q1 q2 q3 hb4 hc0' hc1' hf1 HN cT cS
   go_wp2_with fail
   refine (wpIn_wide (n:=9)).1 ?_
   refine Fo.range_foot_sl (F:=Fence.wide) (n:=9) rfl (by omega) (gf:=193) (lb:=#[.pointer (some ⟨bx,0,none⟩)]) rfl trivial (enters_of Tryz.func193 (by kernel_rfl) rfl)
    HSEQ.out (fun _ => rfl) (fun b hb => ⟨by rcases hb with rfl | hb;exact HBL.out;exact (HUX.out b hb).2,rfl⟩)
    (fun pre Fp A => ∃ d,BLv t D (.slice q seen.length c) w A d (pre.foldl (fun sn k => belowN S n k sn) (seen ++ [i]))/\SlotsNd (pre.foldl (fun sn k => belowN S n k sn) (seen ++ [i]))/\∀ b,Fp b↔b=w.heap.size+1\/d.ownBlock=some b) (fun c pre Fp A => False)
    (fun b => b=w.heap.size+1\/Value.ownBlock (.slice q' (seen.length+1) r')=some b)
    (fun b hb => ⟨by have h1:=HBL.out;have h2:=HBX.out;rcases hb with rfl | hb;omega;have:=HNX.out b hb;omega,fun h => by
     have h2:=HBX.out
     rcases hb with rfl | hb
     ·rcases h with h | h
      ·omega
      ·have:=HUX.out _ h;omega
     ·have h3:=HNX.out b hb
      rcases h with h | h
      ·omega
      ·have:=HUX.out _ h;omega⟩)
    ?hU ?hUx ⟨_,HN4.out,HSN.out,fun b => Iff.rfl⟩ (fun T x => (T.setIfInBounds 19 (.int .i64 x)).setIfInBounds 7 (.int .i64 x)) ?assign ?body ?done ?stop
   case hU =>
    rintro pre Fp A A' row ⟨d,h1,h2,h3⟩ hsz hg hrow
    exact ⟨d,h1.turn hg (fun r e => ⟨by have:=(hrow r e).1;have:=HS4.out;omega,fun e2 => (hrow r e).2 ((h3 r).2 (.inr e2))⟩),h2,h3⟩
   case hUx => intro c pre Fp A A' row h1;exact h1.elim
   case assign =>
    intro l2 x A K2 hK
    unfold encI
    gi_wp2
    exact hK
   case body =>
    rintro l2 pre x Fp A ⟨d,hV,hL,hF⟩ hszA hpre
    have hx:x ∈ K i:=hpre.subset (by simp)
    obtain ⟨L,hLL⟩:∃ L,L=pre.foldl (fun sn k => belowN S n k sn) (seen ++ [i]):=⟨_,rfl⟩
    have hfl:(pre ++ [x]).foldl (fun sn k => belowN S n k sn) (seen ++ [i])=belowN S n x L:=by rw [List.foldl_append,<- hLL];rfl
    rw [<- hLL] at hV hL
    obtain ⟨q2,c2,rfl,-⟩:=own_shape hV.row
    have cT:=hV.bt.cell
    have cS:=hV.bs.cell
    have HC:=zh (HIH.out x L _ A hx hL hV.row (HON.out _ hV.only))
    have HV:=zh hV;have HX2:=zh (HSL.out x L hx hL);have HFL:=zh hfl;have HF:=zh hF
    clear hV hL hF hx hLL hfl hszA hpre
    gi_wp2_with fail
    refine ⟨trivial,(CallsIn.inRound _ (callsIn_wide.2 HC.out)).mono ?_⟩
    rintro e w6 ⟨v',rfl,k1,k2,k3⟩
    obtain ⟨q3,c3,rfl,-⟩:=own_shape k1
    obtain ⟨⟨g1,g2⟩,g3,g4⟩:=HV.out.step k2 k1 k3
    have d0:=g1.cell
    have d1:=g2.cell
    have d2:=g2.frozen
    have HE:Hid (∀ b,(b=w.heap.size+1\/Value.ownBlock (.slice q3 (belowN S n x L).length c3)=some b)->Fp b\/A.heap.size<=b):=fun b hb => by
     rcases hb with h | h
     ·exact .inl ((HF.out b).2 (.inl h))
     ·exact (k3 b h).imp (fun h => (HF.out b).2 (.inr h)) id
    have HG3:=zh g3
    have HG4:Hid (Only Fp A (w6.setCell ⟨w.heap.size+1,0,none⟩ (.slice q3 (belowN S n x L).length c3))):=g4.mono (fun b _ hb => (HF.out b).2 hb)
    clear k1 k2 k3 g1 g2 g3 g4
    gi_wp2
    exact ⟨_,⟨_,by rw [HFL.out];exact HG3.out,by rw [HFL.out];exact HX2.out,fun b => Iff.rfl⟩,HG4.out,HE.out⟩
   case done =>
    rintro D2 ys Fp A rfl hD ⟨d,hu,hL,hF⟩ hnf hK
    obtain ⟨q2,c2,rfl,-⟩:=own_shape hu.row
    have cS:=hu.bs.cell
    have h2:=hu.turn (grownBy_putObj' A D2 (.deferred none)) (fun r e => by cases e;exact ⟨by have:=HS4.out;omega,fun e => hnf ((hF _).2 (.inr e))⟩)
    have HR2:=zh h2;have HK:=zh hK
    clear h2 hu hL hF hnf hK
    gi_wp2
    go_wp2_with fail
    refine ⟨by simp,.inl ⟨_,_,rfl,run_takeDeferred (show A.heap[D2]? = _ from HK.out),?_⟩⟩
    exact ⟨_,results_tmp rfl _ _ _,⟨.slice q2 _ c2,rfl,HR2.out.row,HR2.out.only,HR2.out.new⟩⟩
   case stop => intro D2 c pre Fp A hSp hD h1;exact h1.elim
end
end Fr
end
section
open Go.RowKit Go.Maps Go.Shelf
namespace Fr
open Vw (Sess)
def UndPost (L:List Int) (w:World) (e:Ending) (w':World):Prop:=(∃ bx v,e = .returned (.func (.func 126) #[] #[.pointer (some ⟨bx,0,none⟩)])/\w.heap.size<=bx/\Boxed w' bx 43 v/\w'.ownsRow (bx+1) 3 1 v L.length (L.map (Value.int .i64)))/\Below w.heap.size w w'
section
variable {t a:Nat} {r:Int} {S:List Slt} {fr:List Int} {nw:Nat} {w:World} {K:Int->List Int} {G:Int->Prop} {d:Int->Nat}
theorem under_any (hB:BelOk S K G d) (h:TrAt t a r w) (hA:ArAt a S fr nw w) (i:Int) (hi:G i) (hd:d i<=33) :
  Calls Tryz.prog 61 #[.pointer (some ⟨t,0,none⟩),.int .i64 i] w (UndPost (underI S i) w):=by
 have hti:=hB.th i hi
 have hund:underI S i=belowN S 33 i []:=by unfold underI;rw [if_pos hti]
 rw [hund]
 obtain ⟨cs,hcs⟩:∃ cs,cs=(sl S i).cells:=⟨_,rfl⟩
 have hb0:Below w.heap.size w (w.alloc (.cells #[.slice none 0 0] 43)):=(Below.refl _ _).alloc (Nat.le_refl _) _
 have hget:=aget_ok (hA.below hb0) i hti
 rw [<- hcs] at hget
 have c1:=(h.below hb0).arena
 have HX0:Hid (Boxed (w.alloc (.cells #[.slice none 0 0] 43)) w.heap.size 43 (.slice none 0 0)):=Boxed.new _ _ _
 have HCL:Hid (cs.length=17):=by show _=_;rw [hcs];rfl
 have HC1:Hid (∀ u ∈ cs,u.oneCell'=true):=by show ∀ _,_;rw [hcs];exact (sl S i).one
 have HBE:Hid (∀ W,Below w.heap.size w W->w.heap.size<W.heap.size->Calls Tryz.prog 125 #[.pointer (some ⟨t,0,none⟩),.int .i64 i,.slice none 0 0] W (BelPost (w.heap.size+1) (.slice none 0 0) (belowN S 33 i []) W)):=fun W hb hs =>
  below_any hB 33 i [] _ W hi hd (h.below hb) (hA.below hb) (by have:=hA.lt;omega) (by have:=h.lt;omega) hs ⟨List.nodup_nil,fun _ h => by cases h⟩ (World.ownsRow_nil _ _ _ _)
 have HG:=zh hget;have HB0:=zh hb0
 obtain ⟨W1,hW1⟩:∃ W1,W1=w.alloc (.cells #[.slice none 0 0] 43):=⟨_,rfl⟩
 have HW1:=zh hW1
 have hs1:w.heap.size<W1.heap.size:=by rw [hW1];simp
 have HS1:=zh hs1
 rw [<- hW1] at c1 HG HB0 HX0
 clear hB h hA hi hd hti hund hcs hget hb0 hs1
 have c2:=c1
 rw [hW1] at c2
 go_enter Tryz.func61,Tryz.ntmps61
 go_wp2_with fail
 rw [<- HW1.out]
 refine HG.out.mono ?_
 rintro e w3 ⟨rfl,hb3⟩
 clear hW1 c2
 obtain ⟨W4,hW4⟩:∃ W4,W4=w3.alloc (.cells cs.toArray 115):=⟨_,rfl⟩
 obtain ⟨b,hbq⟩:∃ b,b=w3.heap.size:=⟨_,rfl⟩
 have hb4:Below W1.heap.size W1 W4:=by rw [hW4];exact hb3.alloc hb3.size _
 have HB4:Hid (Below w.heap.size w W4):=HB0.out.trans (hb4.mono (Nat.le_of_lt HS1.out))
 have HS4:Hid (w.heap.size<W4.heap.size):=Nat.lt_of_lt_of_le HS1.out hb4.size
 have HX4:Hid (Boxed W4 w.heap.size 43 (.slice none 0 0)):=(hb4.block _ HS1.out).trans HX0.out
 have HW4:=zh hW4;have HBQ:=zh hbq
 clear hW4 hbq hb3 hb4
 go_upto_region 3 with (first
  | (refine Ag.wpList_store_new (by rfl) 115 (.tmp 6) (.tmp 15) (by rfl) cs (by rfl) (by rfl) (by rw [HCL.out];kernel_rfl) (by rw [HCL.out];rfl) HC1.out ?_))
 rw [<- HW4.out,<- HBQ.out]
 go_wp2_with fail
 refine (HBE.out _ HB4.out HS4.out).mono ?_
 rintro e w5 ⟨v,rfl,k1,k2,k3⟩
 obtain ⟨q,c,rfl,-⟩:=own_shape k1
 have hx5:Boxed w5 w.heap.size 43 (.slice none 0 0):=(k2.block _ HS4.out (fun e => by cases e)).trans HX4.out
 have d1:=hx5.cell
 have d2:=hx5.frozen
 have HE:Hid (Boxed (w5.setCell ⟨w.heap.size,0,none⟩ (.slice q (belowN S 33 i []).length c)) w.heap.size 43 (.slice q (belowN S 33 i []).length c)/\(w5.setCell ⟨w.heap.size,0,none⟩ (.slice q (belowN S 33 i []).length c)).ownsRow (w.heap.size+1) 3 1 (.slice q (belowN S 33 i []).length c) (belowN S 33 i []).length ((belowN S 33 i []).map (Value.int .i64))/\Below w.heap.size w (w5.setCell ⟨w.heap.size,0,none⟩ (.slice q (belowN S 33 i []).length c))) :=
  ⟨hx5.set _,own_stay k1 (fun b e => Below.heap_setCell _ _ _ _ (Nat.ne_of_gt (k1.lt b e).1)),(HB4.out.trans (k2.below (Nat.le_of_lt HS4.out) (fun _ _ e => by cases e))).setCell (p:=⟨w.heap.size,0,none⟩) (Nat.le_refl _) _⟩
 clear k1 k2 k3 hx5
 go_wp2
 go_ret
 exact ⟨⟨_,_,rfl,Nat.le_refl _,HE.out.1,HE.out.2.1⟩,HE.out.2.2⟩
end
end Fr
end
section
open Go.RowKit Go.Maps
namespace Ex
open Hp (It ahd without HeapAt)
theorem within_yes (n low high:Int) (h1:low<=n) (h2:n<=high) (w:World):Calls Tryz.prog 185 #[.int .i64 n,.int .i64 low,.int .i64 high] w fun e w' => e = .returned (.bool true)/\w=w':=by
 go_enter Tryz.func185,Tryz.ntmps185
 go_wp2
 go_ret
 exact ⟨by simp,rfl⟩
def NewPost (w:World) (e:Ending) (w':World):Prop:=∃ E F,e = .returned (.pointer (some ⟨E,0,none⟩))/\ExpAt w.heap.size E 0 [] F w'/\Below w.heap.size w w'
theorem enew_any (w:World):Calls Tryz.prog 59 #[] w (NewPost w):=by
 have HN:=zh (Hp.hnew_any 32 (by omega) (by omega) w)
 have hmm:=@run_makeMap Tryz.prog
 go_enter Tryz.func59,Tryz.ntmps59
 go_wp2_with fail
 refine HN.out.mono ?_
 rintro e w1 ⟨H,F0,rfl,hh,hb⟩
 have hs:=hb.size
 have c1:=Ut.alloc_at (w1.alloc (.map #[] 0)) (.cells #[.pointer (some ⟨H,0,none⟩),.map (some w1.heap.size)] 220)
 have e1:(w1.alloc (.map #[] 0)).heap.size=w1.heap.size+1:=by simp
 rw [e1] at c1
 have hb2:Below w1.heap.size w1 (w1.alloc (.map #[] 0)):=(Below.refl _ _).alloc (Nat.le_refl _) _
 have hb3:Below w1.heap.size w1 ((w1.alloc (.map #[] 0)).alloc (.cells #[.pointer (some ⟨H,0,none⟩),.map (some w1.heap.size)] 220)):=hb2.alloc (by simp) _
 have hm:=((World.ownsMap_made w1 Tryz.prog 3 (plainElem (H:=Unit) Tryz.prog 3)).alloc (.cells #[.pointer (some ⟨H,0,none⟩),.map (some w1.heap.size)] 220))
 have hR:NewPost w (.returned (.pointer (some ⟨w1.heap.size+1,0,none⟩))) ((w1.alloc (.map #[] 0)).alloc (.cells #[.pointer (some ⟨H,0,none⟩),.map (some w1.heap.size)] 220)) :=
  ⟨w1.heap.size+1,fun k => k=w1.heap.size+1\/k=w1.heap.size\/F0 k,rfl,⟨H,w1.heap.size,0,_,[],F0,c1,by omega,hh.below hb3,List.Perm.refl _,Inv.nil,hm,Nat.le_refl _,⟨hs,Nat.lt_succ_self _⟩,MapIs.nil,fun k => Iff.rfl,fun hf => by have:=(hh.lt _ hf).2;omega,fun hf => by have:=(hh.lt _ hf).2;omega⟩,hb.trans (hb3.mono hs)⟩
 have HR:=zh hR
 clear hh hb hs c1 e1 hb2 hb3 hm hR
 go_wp2
 go_ret
 exact HR.out
def okE (s b a:Int):Prop:=0<=s/\s<=31/\1<=b/\b<=1048576/\0<=a/\a<=1099511627776
theorem intLaw:Keyed Tryz.prog 3:=int_keyed Tryz.underlying3
theorem mapT:Tryz.prog.underlying 218=some (.map 3 3):=Tryz.underlying218
def SetPost (lo E N:Nat) (S:List Ent) (F:Nat->Prop) (x:Ent) (w:World) (e:Ending) (w':World):Prop :=
 e = .returned .nilIface/\∃ F',ExpAt lo E (N+1) (put (wo S x.1) x) F' w'/\Only F w w'/\∀ k,F' k->F k\/w.heap.size<=k
theorem eset_ok (lo E N:Nat) (S:List Ent) (F:Nat->Prop) (w:World) (h:ExpAt lo E N S F w) (hlo:lo<=w.heap.size) (hN:N<=1099511627776) (s b a:Int) (hok:okE s b a) :
  Calls Tryz.prog 109 #[.pointer (some ⟨E,0,none⟩),.agg #[.int .i64 s,.int .i64 b],.int .i64 a] w (SetPost lo E N S F (s,b,a) w):=by
 obtain ⟨h1,h2,h3,h4,h5,h6⟩:=hok
 have HOK:Hid (0<=s/\s<32):=⟨h1,by omega⟩
 have HY1:=zh (fun w => within_yes s 0 31 h1 h2 w)
 have HY2:=zh (fun w => within_yes b 1 1048576 h3 h4 w)
 have HY3:=zh (fun w => within_yes a 0 1099511627776 h5 h6 w)
 have HKEY:=zh (keyOf_int_mk (P:=Tryz.prog) (k:=3) Tryz.underlying3 (WalkArith.wf_i64 (n:=s) (by omega)))
 have HVAL:=zh (plainElem_int (H:=Unit) (P:=Tryz.prog) (e:=3) Tryz.underlying3 (WalkArith.wf_i64 (n:=b) (by omega)))
 obtain ⟨W,hW⟩:∃ W,W=w.alloc (.cells #[.int .i64 s,.int .i64 b] 26):=⟨_,rfl⟩
 have hb:Below w.heap.size w W:=by rw [hW];exact (Below.refl _ _).alloc (Nat.le_refl _) _
 have hx:=h.below hb
 have hlt:=h.lt
 obtain ⟨H,bm,n,D,L,Fh,k1,k2,k3,k4,k5,k6,k7,k8,k9,k10,k11,k12⟩:=hx
 have c0:W.cell? ⟨E,0,none⟩=some (.pointer (some ⟨H,0,none⟩)):=zl k1 rfl
 have c1:W.cell? ⟨E,1,none⟩=some (.map (some bm)):=zl k1 rfl
 have x0:W.cell? ⟨w.heap.size,0,none⟩=some (.int .i64 s):=by rw [hW];simp
 have x1:W.cell? ⟨w.heap.size,1,none⟩=some (.int .i64 b):=by rw [hW];simp
 have hsz:w.heap.size<W.heap.size:=by rw [hW];simp
 have HSE:=zh ((Hp.hset_any lo H 32 L Fh W.drew (k3.below ((Below.refl _ _).drew)) (by omega) (by show lo<=W.heap.size;omega) s a).mono fun e w2 h2 => (by
  unfold Hp.SetPost at h2;rw [if_pos (show 0<=s/\s<((32:Nat):Int) by omega)] at h2;exact h2 :
  e = .returned .nilIface/\∃ L' F',HeapAt lo H 32 L' F' w2/\List.Perm L' ((s,a) :: without L s)/\Only Fh W.drew w2/\∀ k,F' k->Fh k\/W.drew.heap.size<=k))
 have hE:E<W.heap.size:=(zx k1)
 have hF0:¬ Fh w.heap.size:=fun hf => by have:=(hlt _ ((k10 _).2 (.inr (.inr hf)))).2;omega
 have HE:=zh hE;have HF0:=zh hF0;have HNE:=zh k11;have HNB:=zh k12;have HSZ:=zh hsz;have HLT:=zh hlt
 have HK1:=zh k1;have HK4:=zh k4;have HK5:=zh k5;have HK6:=zh k6;have HK7:=zh k7;have HK9:=zh k9;have HK10:=zh k10;have HK2:=zh k2;have HK8:=zh k8
 have HBW:=zh hb;have HN:=zh hN
 clear h hlt hb k1 k2 k3 k4 k5 k6 k7 k8 k9 k10 k11 k12 hsz hE hF0 h1 h2 h3 h4 h5 h6 hN hlo
 go_enter Tryz.func109,Tryz.ntmps109
 go_wp2_with fail
 rw [<- hW]
 have HW:=zh hW
 clear hW
 go_wp2_with (first
  | (go_at_call 185;(with_reducible refine (HY1.out _).mono ?_);rintro e w' ⟨rfl,rfl⟩)
  | (go_at_call 185;(with_reducible refine (HY2.out _).mono ?_);rintro e w' ⟨rfl,rfl⟩)
  | (go_at_call 185;(with_reducible refine (HY3.out _).mono ?_);rintro e w' ⟨rfl,rfl⟩))
 go_region_held3 (fun w' => w'.cell? ⟨E,0,none⟩=some (.pointer (some ⟨H,0,none⟩))/\w'.cell? ⟨E,1,none⟩=some (.map (some bm))/\w'.cell? ⟨w.heap.size,0,none⟩=some (.int .i64 s)/\w'.cell? ⟨w.heap.size,1,none⟩=some (.int .i64 b)) (go_keep) (first
  | (go_at_call 186;refine HSE.out.mono ?_;rintro e w3 ⟨rfl,L',F',hh,hp,ho,hn⟩;(have n0:w3.cell? ⟨E,0,none⟩=some (.pointer (some ⟨H,0,none⟩)):=(ho.cell (p:=⟨E,0,none⟩) HE.out HNE.out).trans c0);(have n1:w3.cell? ⟨E,1,none⟩=some (.map (some bm)):=(ho.cell (p:=⟨E,1,none⟩) HE.out HNE.out).trans c1);(have n2:w3.cell? ⟨w.heap.size,0,none⟩=some (.int .i64 s):=(ho.cell (p:=⟨w.heap.size,0,none⟩) HSZ.out HF0.out).trans x0);(have n3:w3.cell? ⟨w.heap.size,1,none⟩=some (.int .i64 b):=(ho.cell (p:=⟨w.heap.size,1,none⟩) HSZ.out HF0.out).trans x1);have HH:=zh hh;have HP:=zh hp;have HO:=zh ho;have HNW:=zh hn;clear hh hp ho hn))
 have hom:w3.ownsMap Tryz.prog 3 (plainElem Tryz.prog 3) bm n D:=map_only HK6.out.drew HO.out HNB.out
 have HOM:=zh hom
 have HFIN:Hid (∀ w5,w5.ownsMap Tryz.prog 3 (plainElem Tryz.prog 3) bm (n+1) (D.put (lk s) (.lit (.int .i64 b)))->w3.drew.grownBy w5 (some bm)->SetPost lo E N S F (s,b,a) w (.returned .nilIface) w5):=fun w5 hm5 hg5 => by
  have ho5:Only (fun k => k=bm) w3 w5:=((Only.refl (fun k => k=bm) w3).drew).grown hg5 (fun k _ e => by cases e;rfl)
  have hFhbm:¬ F' bm:=fun hf => by
   rcases HNW.out bm hf with h | h
   ·exact HNB.out h
   ·have:W.heap.size<=bm:=h
    have:=HK6.out.lt;omega
  have hFhE:¬ F' E:=fun hf => by
   rcases HNW.out E hf with h | h
   ·exact HNE.out h
   ·have:W.heap.size<=E:=h
    have:=HE.out;omega
  have hEbm:E≠bm:=fun e => by
   have h1:=HK1.out
   obtain ⟨es,cl,h2,_⟩:=HK6.out
   rw [e] at h1;rw [h1] at h2;cases h2
  have hoW:Only F w W.drew:=(Only.of_below (F:=F) HBW.out).drew
  have ho3:Only F w w3:=hoW.trans HO.out (fun i hi hf => (HK10.out i).2 (.inr (.inr hf)))
  have hoF:Only F w w5:=ho3.trans ho5 (fun i hi e => by subst e;exact (HK10.out _).2 (.inr (.inl rfl)))
  have hsz3:W.heap.size<=w3.heap.size:=HO.out.size
  have htop:w5.heap[E]? = some (.cells #[.pointer (some ⟨H,0,none⟩),.map (some bm)] 220 (0,0)) :=
   (ho5.block E (by have:=HE.out;omega) hEbm).trans ((HO.out.block E HE.out HNE.out).trans HK1.out)
  refine ⟨rfl,fun k => k=E\/k=bm\/F' k,⟨H,bm,n+1,_,L',F',htop,HK2.out,HH.out.only ho5 (fun k hk e => hFhbm (e ▸ hk)),?_,(HK5.out.wo s).put HOK.out.1 HOK.out.2 wo_none,hm5,by have:=HK7.out;omega,HK8.out,HK9.out.put HK5.out (s,b,a) HOK.out.1 HOK.out.2,fun k => Iff.rfl,hFhE,hFhbm⟩,hoF,fun k hk => ?_⟩
  ·refine HP.out.trans (List.Perm.trans ?_ (items_put _ _).symm)
   refine List.Perm.cons _ ?_
   rw [items_wo];exact Hp.without_perm HK4.out s
  ·rcases hk with rfl | rfl | hk
   ·exact .inl ((HK10.out _).2 (.inl rfl))
   ·exact .inl ((HK10.out _).2 (.inr (.inl rfl)))
   ·rcases HNW.out k hk with h | h
    ·exact .inl ((HK10.out k).2 (.inr (.inr h)))
    ·right
     have h':W.heap.size<=k:=h
     have:=HSZ.out;omega
 clear hom c0 c1 x0 x1
 have hnm:n<maxLen:=by have:=HK7.out;have:=HN.out;unfold maxLen;omega
 obtain ⟨w5,hrun,hm5,hg5⟩:=HOM.out.drew.update intLaw mapT hnm HKEY.out HVAL.out
 have HF5:=zh (HFIN.out w5 hm5 hg5)
 clear hm5 hg5
 go_wp2
 go_region
 all_goals (
  go_wp2
  go_ret
  exact HF5.out)
end Ex
end
section
open Go.RowKit Go.Maps
namespace Ex
open Hp (It ahd without HeapAt)
theorem zeroI (w:World):(zeroValue 3).run Tryz.prog w = .ok (.int .i64 0) w:=by kernel_rfl
theorem wo_same {S:List Ent} {s:Int} (h:birthOf S s=none):wo S s=S:=by
 unfold wo
 rw [List.filter_eq_self]
 intro e he
 unfold birthOf at h
 have h2:=List.find?_eq_none.1 (Option.map_eq_none_iff.1 h) e he
 simpa using h2
def ForPost (lo E N:Nat) (S:List Ent) (F:Nat->Prop) (s:Int) (w:World) (e:Ending) (w':World):Prop :=
 e = .returned (.bool (birthOf S s).isSome)/\∃ F',ExpAt lo E N (wo S s) F' w'/\Only F w w'/\∀ k,F' k->F k\/w.heap.size<=k
theorem eforget_any (lo E N:Nat) (S:List Ent) (F:Nat->Prop) (w:World) (h:ExpAt lo E N S F w) (hlo:lo<=w.heap.size) (s:Int) (hs:(Lit.int .i64 s).wf=true) :
  Calls Tryz.prog 137 #[.pointer (some ⟨E,0,none⟩),.int .i64 s] w (ForPost lo E N S F s w):=by
 have HKEY:=zh (keyOf_int_mk (P:=Tryz.prog) (k:=3) Tryz.underlying3 hs)
 have HX:=zh h
 obtain ⟨H,bm,n,D,L,Fh,k1,k2,k3,k4,k5,k6,k7,k8,k9,k10,k11,k12⟩:=h
 have c0:w.cell? ⟨E,0,none⟩=some (.pointer (some ⟨H,0,none⟩)):=zl k1 rfl
 have c1:w.cell? ⟨E,1,none⟩=some (.map (some bm)):=zl k1 rfl
 have hhas:=(k9.2 s).1
 have HM:=zh k6
 by_cases hb:birthOf S s=none
 ·rw [hb] at hhas
  have hh:Maps.has D (lk s)=false:=hhas
  have HR:Hid (ForPost lo E N S F s w (.returned (.bool false)) w):=⟨by rw [hb];rfl,F,by rw [wo_same hb];exact HX.out,Only.refl _ _,fun k hk => .inl hk⟩
  clear k1 k2 k3 k4 k5 k6 k7 k8 k9 k10 k11 k12 hhas hb hlo
  go_enter Tryz.func137,Tryz.ntmps137
  go_wp2_with (first | (at_lookup;refine wpList_lookup_own_ok_int _ rfl _ _ 218 rfl 3 3 .i64 intLaw mapT Tryz.underlying3 (zeroI _) bm n _ rfl HM.out _ (lk s) rfl HKEY.out ?_;intro c2 hat hwc))
  go_ret
  exact HR.out
 ·obtain ⟨bb,hbb⟩:=Option.ne_none_iff_exists'.1 hb
  rw [hbb] at hhas
  have hh:Maps.has D (lk s)=true:=hhas
  have hkey:(Hp.keyOf L s).isSome=true:=by
   rw [Hp.keyOf_perm k3.good k4,keyOf_items,hbb];rfl
  have HBB:=zh hbb
  have hE:E<w.heap.size:=(zx k1)
  have hEbm:E≠bm:=fun e => by
   obtain ⟨es,cl,h2,_⟩:=k6
   rw [e] at k1;rw [k1] at h2;cases h2
  have HK1:=zh k1;have HK2:=zh k2;have HK3:=zh k3;have HK4:=zh k4;have HK5:=zh k5;have HK7:=zh k7;have HK8:=zh k8;have HK9:=zh k9;have HK10:=zh k10;have HNE:=zh k11;have HNB:=zh k12
  have HKY:=zh hkey;have HE:=zh hE;have HEB:=zh hEbm;have HLO:=zh hlo
  clear k1 k2 k3 k4 k5 k6 k7 k8 k9 k10 k11 k12 hhas hb hbb hkey hE hEbm hlo
  go_enter Tryz.func137,Tryz.ntmps137
  go_wp2_with (first
   | (at_lookup;refine wpList_lookup_own_ok_int _ rfl _ _ 218 rfl 3 3 .i64 intLaw mapT Tryz.underlying3 (zeroI _) bm n _ rfl HM.out _ (lk s) rfl HKEY.out ?_;intro c2 hat hwc)
   | (at_delete;refine wpList_delete_own _ rfl _ _ 218 3 rfl 3 intLaw mapT _ bm n D rfl HM.out _ _ rfl HKEY.out ?_;intro w1 hown1 hturn1;(have HO1:Hid (Only (fun k => k=bm) w w1):=(Only.refl (fun k => k=bm) w).grown hturn1.grown (fun k _ e => by cases e;rfl));(have d0:w1.cell? ⟨E,0,none⟩=some (.pointer (some ⟨H,0,none⟩)):=(HO1.out.cell (p:=⟨E,0,none⟩) HE.out HEB.out).trans c0);(have HH1:=zh (HK3.out.only HO1.out (fun k hk e => HNB.out (e ▸ hk))));have HM1:=zh hown1;(have HDR:=zh (Hp.hdrop_any lo H 32 L Fh w1 HH1.out (by omega) s));clear hown1 hturn1)
   | (go_at_call 228;refine HDR.out.mono ?_;rintro e w3 ⟨rfl,L',F',hh3,hp3,ho3,hn3⟩;rw [HKY.out];have HH3:=zh hh3;have HP3:=zh hp3;have HO3:=zh ho3;have HN3:=zh hn3;clear hh3 hp3 ho3 hn3))
  have hlt:=HX.out.lt
  have hR:ForPost lo E N S F s w (.returned (.bool true)) w3:=by
   have hs1:w.heap.size<=w1.heap.size:=HO1.out.size
   have hFbm:¬ F' bm:=fun hf => by
    rcases HN3.out bm hf with h | h
    ·exact HNB.out h
    ·have:=HM.out.lt;omega
   have hFE:¬ F' E:=fun hf => by
    rcases HN3.out E hf with h | h
    ·exact HNE.out h
    ·have:=HE.out;omega
   have hoF:Only F w w3:=(HO1.out.mono (G:=F) (fun i hi e => by subst e;exact (HK10.out _).2 (.inr (.inl rfl)))).trans HO3.out (fun i hi hf => (HK10.out i).2 (.inr (.inr hf)))
   have htop:w3.heap[E]? = some (.cells #[.pointer (some ⟨H,0,none⟩),.map (some bm)] 220 (0,0)) :=
    (HO3.out.block E (by have:=HE.out;omega) HNE.out).trans ((HO1.out.block E HE.out HEB.out).trans HK1.out)
   refine ⟨by rw [HBB.out];rfl,fun k => k=E\/k=bm\/F' k,⟨H,bm,n,_,L',F',htop,HK2.out,HH3.out,?_,HK5.out.wo s,map_only HM1.out HO3.out HNB.out,HK7.out,HK8.out,HK9.out.del s,fun k => Iff.rfl,hFE,hFbm⟩,hoF,fun k hk => ?_⟩
   ·rw [items_wo];exact HP3.out.trans (Hp.without_perm HK4.out s)
   ·rcases hk with rfl | rfl | hk
    ·exact .inl ((HK10.out _).2 (.inl rfl))
    ·exact .inl ((HK10.out _).2 (.inr (.inl rfl)))
    ·rcases HN3.out k hk with h | h
     ·exact .inl ((HK10.out k).2 (.inr (.inr h)))
     ·right;omega
  have HR:=zh hR
  clear hR
  go_ret
  exact HR.out
end Ex
end
end Go.Proofs.YtimhglmfckfclaaGreatDoor
