/- Parts of the proof. -/
import Derived.Test.YtimhglmfckfclaaGreatDoorM26
set_option linter.unusedVariables false
set_option linter.unusedSimpArgs false
set_option maxRecDepth 100000
set_option maxHeartbeats 16000000
namespace Go.Proofs.YtimhglmfckfclaaGreatDoor
section
open Go.RowKit Go.Maps
namespace Pk
theorem binfo:(Tryz.prog.info? 5).map (fun i => (i.zero,i.size,i.bytes))=some (some (.int .u8 0),1,1):=by kernel_rfl
theorem own_shape {w:World} {base e size n:Nat} {v:Value} {xs:List Value} (h:w.ownsRow base e size v n xs):∃ q r,v = .slice q n r/\n<=r:=by
 rcases h.2 with ⟨rfl,rfl⟩ | ⟨g,cap,cur,rfl,h2,h3,h4,h5⟩
 ·exact ⟨_,_,rfl,Nat.le_refl _⟩
 ·exact ⟨_,_,rfl,h4⟩
theorem own_stay {w w':World} {base e size n:Nat} {v:Value} {xs:List Value} (h:w.ownsRow base e size v n xs) (hk:∀ b,v.ownBlock=some b->w'.heap[b]? = w.heap[b]?):w'.ownsRow base e size v n xs:=by
 refine ⟨h.1,?_⟩
 rcases h.2 with h2 | ⟨g,cap,cur,rfl,h2,h3,h4⟩
 ·exact .inl h2
 ·exact .inr ⟨g,cap,cur,rfl,h2,(hk g rfl).trans h3,h4⟩
def WrAt (p:Nat) (L:List Nat) (F:Nat->Prop) (w:World):Prop :=
 ∃ v,Boxed w p 344 v/\w.ownsRow (p+1) 5 1 v L.length (L.map bV)/\∀ b,F b↔b=p\/v.ownBlock=some b
theorem WrAt.only {p:Nat} {L:List Nat} {F G:Nat->Prop} {w w':World} (h:WrAt p L F w) (ho:Only G w w') (hG:∀ b,F b->¬ G b):WrAt p L F w':=by
 obtain ⟨v,h1,h2,h3⟩:=h
 exact ⟨v,(ho.block p h1.lt (hG p ((h3 p).2 (.inl rfl)))).trans h1,own_stay h2 (fun b e => ho.block b (h2.lt b e).2 (hG b ((h3 b).2 (.inr e)))),h3⟩
theorem WrAt.below {p:Nat} {L:List Nat} {F:Nat->Prop} {w w':World} (h:WrAt p L F w) (hb:Below w.heap.size w w'):WrAt p L F w':=h.only (Only.of_below (F:=fun _ => False) hb) (fun _ _ h => h)
theorem WrAt.lt {p:Nat} {L:List Nat} {F:Nat->Prop} {w:World} (h:WrAt p L F w) {b:Nat} (hb:F b):p<=b/\b<w.heap.size:=by
 obtain ⟨v,h1,h2,h3⟩:=h
 rcases (h3 b).1 hb with rfl | e
 ·exact ⟨Nat.le_refl _,h1.lt⟩
 ·have:=h2.lt b e;omega
def WrPost (p:Nat) (L:List Nat) (F:Nat->Prop) (w w':World):Prop:=∃ F',WrAt p L F' w'/\Only F w w'/\∀ b,F' b->F b\/w.heap.size<=b
theorem WrPost.trans {p:Nat} {L':List Nat} {F:Nat->Prop} {w w' w'':World} (h:Only F w w') {F':Nat->Prop} (hn:∀ b,F' b->F b\/w.heap.size<=b) (k:WrPost p L' F' w' w''):WrPost p L' F w w'':=by
 obtain ⟨F2,k1,k2,k3⟩:=k
 refine ⟨F2,k1,h.trans k2 (fun i hi hF => ?_),fun b hb => ?_⟩
 ·rcases hn i hF with h1 | h1
  ·exact h1
  ·omega
 ·rcases k3 b hb with h1 | h1
  ·exact hn b h1
  ·exact .inr (Nat.le_trans h.size h1)
theorem wr_push {p:Nat} {L M:List Nat} {F:Nat->Prop} {A A1 w1:World} {v v1:Value} (h1:Boxed A p 344 v) (h2:A.ownsRow (p+1) 5 1 v L.length (L.map bV)) (h3:∀ b,F b↔b=p\/v.ownBlock=some b)
  (hA:Below A.heap.size A A1) (hown:w1.ownsRow (p+1) 5 1 v1 (L.length+M.length) (L.map bV ++ M.map bV)) (hgrow:A1.grownBy w1 v.ownBlock) (hat:v1.ownBlock=v.ownBlock\/v1.ownBlock=some A1.heap.size) :
  Boxed w1 p 344 v/\WrPost p (L ++ M) F A (w1.setCell ⟨p,0,none⟩ v1):=by
 have ho:Only F A w1:=(Only.of_below hA).grown hgrow (fun k hk e => (h3 k).2 (.inr e))
 have hne:∀ b,v.ownBlock=some b->p<b:=fun b e => (h2.lt b e).1
 have hb1:Boxed w1 p 344 v:=(hgrow.block p (Nat.lt_of_lt_of_le h1.lt hA.size) (fun e => by have:=hne p e.symm;omega)).trans ((hA.block p h1.lt).trans h1)
 refine ⟨hb1,fun b => b=p\/v1.ownBlock=some b,⟨v1,hb1.set v1,?_,fun b => Iff.rfl⟩,ho.setCell (fun _ => (h3 p).2 (.inl rfl)) _,?_⟩
 ·rw [List.length_append,List.map_append]
  exact own_stay hown (fun b e => Below.heap_setCell _ _ _ _ (Nat.ne_of_gt (hown.lt b e).1))
 ·rintro b (h4 | h4)
  ·exact .inl ((h3 b).2 (.inl h4))
  ·rcases hat with h5 | h5
   ·exact .inl ((h3 b).2 (.inr (h5 ▸ h4)))
   ·have e:b=A1.heap.size:=Option.some.inj (h4.symm.trans h5)
    exact .inr (by rw [e];exact hA.size)
theorem wnew_any (w:World):Calls Tryz.prog 175 #[] w fun e w' => e = .returned (.pointer (some ⟨w.heap.size,0,none⟩))/\WrAt w.heap.size [] (fun b => b=w.heap.size) w'/\Below w.heap.size w w':=by
 have HE:Hid (WrAt w.heap.size [] (fun b => b=w.heap.size) (w.alloc (.cells #[.slice none 0 0] 344))/\Below w.heap.size w (w.alloc (.cells #[.slice none 0 0] 344))):=⟨⟨_,Boxed.new _ _ _,World.ownsRow_nil _ _ _ _,fun b => ⟨.inl,fun h => h.elim id (fun h => by cases h)⟩⟩,(Below.refl _ _).alloc (Nat.le_refl _) _⟩
 go_enter Tryz.func175,Tryz.ntmps175
 go_wp2
 go_ret
 exact ⟨rfl,HE.out⟩
theorem or_all:∀ x:Fin 256,bits .or .u8 ((x.val:Nat):Int) 128=((x.val % 128+128:Nat):Int):=by decide +kernel
theorem shr7 (y:Nat) (W:World):(binOp .shr 27 (.int .u64 (y:Int)) (.int .u64 7)).run Tryz.prog W = .ok (.int .u64 ((y / 128:Nat):Int)) W:=by
 rw [binOp_shr,shift_shr .u64 .u64 _ 7 (by omega) (by decide)]
 rfl
def NumRel (p v:Nat) (L:List Nat) (F:Nat->Prop) (w:World) (x:Value) (wr:World):Prop :=
 ∃ (n y:Nat) (dn:List Nat) (F':Nat->Prop),x = .int .u64 (y:Int)/\y<128 ^ (n+1)/\n+dn.length=9/\dn ++ sevF n y=sevens v/\WrAt p (L ++ dn) F' wr/\Only F w wr/\∀ b,F' b->F b\/w.heap.size<=b
theorem number_any {p:Nat} {L:List Nat} {F:Nat->Prop} {w:World} (h:WrAt p L F w) (v:Nat) (hv:v<18446744073709551616) (hl:L.length<=1099511627776) :
  Calls Tryz.prog 177 #[.pointer (some ⟨p,0,none⟩),.int .u64 (v:Int)] w fun e w' => e = .returned (.tuple #[])/\WrPost p (L ++ sevens v) F w w':=by
 obtain ⟨i0,hi,hz0,hz1,hz2⟩:=info_parts binfo
 have H:=zh h;have HL:=zh hl
 have HV:Hid (v<128 ^ (9+1)):=Nat.lt_of_lt_of_le hv (by decide)
 clear h hl hv
 go_enter Tryz.func177,Tryz.ntmps177
 go_wp2
 go_loopw [1] (fun x wr => NumRel p v L F w x wr) (fun x _ => (intOf x).toNat)
 case atStart => exact ⟨9,v,[],F,rfl,HV.out,rfl,rfl,by rw [List.append_nil];exact H.out,Only.refl _ _,fun b hb => .inl hb⟩
 case round =>
  obtain ⟨n,y,dn,F',rfl,hy,hn,hd,hw,ho,hf⟩:=hrel
  obtain ⟨M,hM⟩:∃ M,M=L ++ dn:=⟨_,rfl⟩
  rw [<- hM] at hw
  have hml:M.length<=1099511627776+9:=by have:=HL.out;rw [hM,List.length_append];omega
  obtain ⟨u,g1,g2,g3⟩:=hw
  obtain ⟨q,c,rfl,-⟩:=own_shape g2
  have c1:=g1.cell
  have f1:=g1.frozen
  have b0:(0:Int)<=(y:Int):=by omega
  have am1:M.length+1<=maxLen:=by unfold maxLen;omega
  have am3:(M.length+1) * 1<=140737488355328:=by omega
  by_cases hg:127<y
  ·have b1:(127:Int)<(y:Int):=by omega
   obtain ⟨m,rfl⟩:∃ m,n=m+1:=⟨n-1,by
    rcases Nat.eq_zero_or_pos n with h0 | h0
    ·subst h0;omega
    ·omega⟩
   have hor:bits .or .u8 ((y:Int) % 256) 128=((y % 128+128:Nat):Int):=by
    have h:∀ x:Fin 256,bits .or .u8 ((x.val:Nat):Int) 128=((x.val % 128+128:Nat):Int):=or_all
    have:=h ⟨y % 256,Nat.mod_lt _ (by decide)⟩
    rw [show (y % 128)=y % 256 % 128 from (Nat.mod_mod_of_dvd _ (by decide)).symm,<- this];rfl
   obtain ⟨z,hz⟩:∃ z,z=y % 128+128:=⟨_,rfl⟩
   rw [<- hz] at hor
   have hsv:sevF (m+1) y=z :: sevF m (y / 128):=by rw [hz];exact if_neg (by omega)
   have HP:Hid (∀ (v1:Value) (w1:World),w1.ownsRow (p+1) 5 1 v1 (M.length+1) (M.map bV ++ [Value.int .u8 (z:Int)])->(wr.alloc (.cells #[.int .u8 (z:Int)] 5)).grownBy w1 (Value.ownBlock (.slice q M.length c))->(v1.ownBlock=Value.ownBlock (.slice q M.length c)\/v1.ownBlock=some (wr.alloc (.cells #[.int .u8 (z:Int)] 5)).heap.size) ->
     Boxed w1 p 344 (.slice q M.length c)/\NumRel p v L F w (.int .u64 ((y / 128:Nat):Int)) (w1.setCell ⟨p,0,none⟩ v1)):=fun v1 w1 k1 k2 k3 => by
    obtain ⟨j1,F2,j2,j3,j4⟩:=wr_push (M:=[z]) g1 g2 g3 ((Below.refl _ _).alloc (Nat.le_refl _) _) k1 k2 k3
    obtain ⟨F3,t1,t2,t3⟩:=WrPost.trans ho hf ⟨F2,j2,j3,j4⟩
    refine ⟨j1,m,y / 128,dn ++ [z],F3,rfl,?_,by rw [List.length_append,List.length_singleton];omega,by rw [<- hd,hsv];simp,by rw [<- List.append_assoc,<- hM];exact t1,t2,t3⟩
    rw [Nat.pow_succ] at hy
    exact Nat.div_lt_of_lt_mul (by rw [Nat.mul_comm];exact hy)
   have HG2:Hid (wr.ownsRow (p+1) 5 1 (.slice q M.length c) M.length (M.map bV)):=g2
   have k3:p+1<=(wr.alloc (.cells #[.int .u8 (z:Int)] 5)).heap.size:=by have:=g1.lt;simp;omega
   have hyz:=shr7 y
   have HM2:Hid (y / 128<y):=by show _<_;omega
   clear hM hy hn hd ho hf g1 g2 g3 hg hz hsv hml
   go_wp2_with (at_builtin;(refine wpList_append_own_at _ rfl _ _ 181 rfl (p+1) 5 i0 (.int .u8 0) 1 1 Tryz.underlying181 hi hz0 hz1 hz2 rfl (by decide) _ _ _ rfl (HG2.out.alloc _) ⟨wr.heap.size,0,none⟩ 1 1 [.int .u8 (z:Int)] rfl rfl (World.news_of_block (Ut.alloc_at _ _)) (by intro u hu;rw [List.mem_singleton.1 hu];rfl) am1 am3 k3 ?_);(intro v1 w1 hown' hgrow hnil hat;obtain ⟨q',r',rfl,-⟩:=own_shape hown';obtain ⟨hb1,hn1⟩:=HP.out _ _ hown' hgrow hat;(have hc1':=hb1.cell);(have hf1:=hb1.frozen);(have HN:=zh hn1);clear hown' hgrow hat hn1 hb1 hnil))
   trace_state
   go_roundw
   case rel => exact HN.out
   case measure => have:=HM2.out;simp [intOf];omega
  ·have b1:(y:Int)<=127:=by omega
   have hsv:sevF n y=[y]:=by
    cases n with
    | zero => rfl
    | succ m => exact if_pos (by omega)
   have hmod:(y:Int) % 256=(y:Int):=by omega
   have HP:Hid (∀ (v1:Value) (w1:World),w1.ownsRow (p+1) 5 1 v1 (M.length+1) (M.map bV ++ [Value.int .u8 (y:Int)])->(wr.alloc (.cells #[.int .u8 (y:Int)] 5)).grownBy w1 (Value.ownBlock (.slice q M.length c))->(v1.ownBlock=Value.ownBlock (.slice q M.length c)\/v1.ownBlock=some (wr.alloc (.cells #[.int .u8 (y:Int)] 5)).heap.size) ->
     Boxed w1 p 344 (.slice q M.length c)/\WrPost p (L ++ sevens v) F w (w1.setCell ⟨p,0,none⟩ v1)):=fun v1 w1 k1 k2 k3 => by
    obtain ⟨j1,F2,j2,j3,j4⟩:=wr_push (M:=[y]) g1 g2 g3 ((Below.refl _ _).alloc (Nat.le_refl _) _) k1 k2 k3
    refine ⟨j1,?_⟩
    have:=WrPost.trans ho hf ⟨F2,j2,j3,j4⟩
    rwa [hM,List.append_assoc,<- hsv,hd] at this
   have HG2:Hid (wr.ownsRow (p+1) 5 1 (.slice q M.length c) M.length (M.map bV)):=g2
   have k3:p+1<=(wr.alloc (.cells #[.int .u8 (y:Int)] 5)).heap.size:=by have:=g1.lt;simp;omega
   clear hM hy hn hd ho hf g1 g2 g3 hg hsv hml
   go_wp2_with (at_builtin;(refine wpList_append_own_at _ rfl _ _ 181 rfl (p+1) 5 i0 (.int .u8 0) 1 1 Tryz.underlying181 hi hz0 hz1 hz2 rfl (by decide) _ _ _ rfl (HG2.out.alloc _) ⟨wr.heap.size,0,none⟩ 1 1 [.int .u8 (y:Int)] rfl rfl (World.news_of_block (Ut.alloc_at _ _)) (by intro u hu;rw [List.mem_singleton.1 hu];rfl) am1 am3 k3 ?_);(intro v1 w1 hown' hgrow hnil hat;obtain ⟨q',r',rfl,-⟩:=own_shape hown';obtain ⟨hb1,hn1⟩:=HP.out _ _ hown' hgrow hat;(have hc1':=hb1.cell);(have hf1:=hb1.frozen);(have HN:=zh hn1);clear hown' hgrow hat hn1 hb1 hnil))
   go_end0
   exact ⟨rfl,HN.out⟩
theorem strCells_bts (s:ByteArray):Lib.strCells s=(bts s).map bV:=by
 unfold Lib.strCells bts
 rw [List.map_map];rfl
theorem text_any {p:Nat} {L:List Nat} {F:Nat->Prop} {w:World} (h:WrAt p L F w) (s:ByteArray) (hs:s.size<=1099511627776) (hl:L.length<=1099511627776) :
  Calls Tryz.prog 178 #[.pointer (some ⟨p,0,none⟩),.string s] w fun e w' => e = .returned (.tuple #[])/\WrPost p (L ++ (sevens s.size ++ bts s)) F w w':=by
 obtain ⟨i0,hi,hz0,hz1,hz2⟩:=info_parts binfo
 have HN:=zh (number_any h s.size (by omega) hl)
 have HLS:Hid ((L ++ sevens s.size).length+s.size<=2199023255562):=by show _<=_;rw [List.length_append];have:=sevens_len s.size;omega
 have hwr:IntKind.u64.wrap (s.size:Int)=(s.size:Int):=by unfold IntKind.wrap;simp only [IntKind.bits,IntKind.signed];simp;omega
 clear h hl hs
 go_enter Tryz.func178,Tryz.ntmps178
 go_wp2_with fail
 refine HN.out.mono ?_
 rintro e w2 ⟨rfl,F2,hw2,ho2,hn2⟩
 obtain ⟨M,hM⟩:∃ M,M=L ++ sevens s.size:=⟨_,rfl⟩
 rw [<- hM] at hw2
 obtain ⟨u,g1,g2,g3⟩:=hw2
 obtain ⟨q,c,rfl,-⟩:=own_shape g2
 have c1:=g1.cell
 have f1:=g1.frozen
 have HLM:Hid (M.length+s.size<=2199023255562):=by show _<=_;rw [hM];exact HLS.out
 have HP:Hid (∀ (v1:Value) (w1:World),w1.ownsRow (p+1) 5 1 v1 (M.length+s.size) (M.map bV ++ Lib.strCells s)->w2.grownBy w1 (Value.ownBlock (.slice q M.length c))->(v1.ownBlock=Value.ownBlock (.slice q M.length c)\/v1.ownBlock=some w2.heap.size) ->
   Boxed w1 p 344 (.slice q M.length c)/\WrPost p (L ++ (sevens s.size ++ bts s)) F w (w1.setCell ⟨p,0,none⟩ v1)):=fun v1 w1 k1 k2 k3 => by
  rw [strCells_bts] at k1
  obtain ⟨j1,F3,j2,j3,j4⟩:=wr_push (M:=bts s) g1 g2 g3 (Below.refl _ _) (by rw [bts_len];exact k1) k2 k3
  refine ⟨j1,?_⟩
  have:=WrPost.trans ho2 hn2 ⟨F3,j2,j3,j4⟩
  rwa [hM,List.append_assoc] at this
 have HG2:Hid (w2.ownsRow (p+1) 5 1 (.slice q M.length c) M.length (M.map bV)):=g2
 have HPL:Hid (p+1<=w2.heap.size):=g1.lt
 clear hM g1 g2 g3 ho2 hn2
 go_wp2_with (at_builtin;(refine Ap.wpList_str_at _ rfl _ _ 181 9 rfl (p+1) 5 i0 Tryz.underlying181 Tryz.underlying9 hi hz0 hz1 hz2 _ _ _ rfl HG2.out s rfl (by have:=HLM.out;unfold maxLen;omega) (by have:=HLM.out;omega) HPL.out ?_);(intro v1 w1 hown' hgrow hat;obtain ⟨q',r',rfl,-⟩:=own_shape hown';obtain ⟨hb1,hn1⟩:=HP.out _ _ hown' hgrow hat;(have hc1':=hb1.cell);(have hf1:=hb1.frozen);(have HN:=zh hn1);clear hown' hgrow hat hn1 hb1))
 go_end0
 exact ⟨rfl,HN.out⟩
theorem bytes_any {p:Nat} {L:List Nat} {F:Nat->Prop} {w:World} (h:WrAt p L F w) (hl:L.length<=140737488355328) (h0:0<L.length) :
  Calls Tryz.prog 179 #[.pointer (some ⟨p,0,none⟩)] w fun e w' => ∃ v',e = .returned v'/\w'.ownsRow w.heap.size 5 1 v' L.length (L.map bV)/\v'≠.slice none 0 0/\Below w.heap.size w w':=by
 obtain ⟨u,g1,g2,g3⟩:=h
 obtain ⟨g,c,rfl,_,_,_,hg,hc⟩:=Ut.own_cells g2 h0
 have c1:=g1.cell
 have HC:=zh (Tryz.bytes_Clone_at ⟨g,0,none⟩ L.length c (L.map fun (n:Nat) => (n:Int)) w (by simp) hl (fun i hi => by
  have:=hc i hi
  rw [show (⟨g,0,none⟩:Addr).add i=⟨g,i,none⟩ by unfold Addr.add;split <;> simp_all]
  rw [this,List.getElem?_map,List.getElem?_eq_getElem hi]
  simp [List.getD_eq_getElem?_getD,hi,bV]))
 have HE:Hid ((L.map fun (n:Nat) => (n:Int)).map (Value.int .u8)=L.map bV):=by show _=_;rw [List.map_map];rfl
 obtain ⟨K,hK⟩:∃ K,K=L.length:=⟨_,rfl⟩
 rw [<- hK] at HC c1 ⊢
 have HK:=zh hK
 clear g1 g2 g3 hg hc hl h0 hK
 go_enter Tryz.func179,Tryz.ntmps179
 go_wp2_with fail
 refine HC.out.mono ?_
 rintro e w2 ⟨v',rfl,k1,k2,k3⟩
 have HQ:Hid (w2.ownsRow w.heap.size 5 1 v' K (L.map bV)/\v'≠.slice none 0 0/\Below w.heap.size w w2):=⟨by rw [<- HE.out];exact k1,k2,k3⟩
 clear k1 k2 k3
 go_wp2
 go_ret
 exact ⟨_,rfl,HQ.out⟩
end Pk
end
section
open Go.RowKit Go.Maps
namespace Ev
open Vw (Sess)
open Fr (mayS)
def fr (n lo hi:Int):Bool:=decide (lo<=n/\n<=hi)
theorem from_any (n lo hi:Int) (w:World):Calls Tryz.prog 320 #[.int .i64 n,.int .i64 lo,.int .i64 hi] w fun e w' => e = .returned (.bool (fr n lo hi))/\w'=w:=by
 unfold fr
 go_enter Tryz.func320,Tryz.ntmps320
 by_cases h1:lo<=n
 ·by_cases h2:n<=hi
  ·go_wp2
   go_ret
   exact ⟨by simp;omega,rfl⟩
  ·have h3:hi<n:=by omega
   go_wp2
   go_ret
   exact ⟨by simp;omega,rfl⟩
 ·have h3:n<lo:=by omega
  go_wp2
  go_ret
  exact ⟨by simp;omega,rfl⟩
theorem link_zero_no {x y:Int} (h:¬ (x=0/\y=0)) (w:World):(binOp .eql 26 (.agg #[.int .i64 x,.int .i64 y]) (.agg #[.int .i64 0,.int .i64 0])).run Tryz.prog w = .ok (.bool false) w:=by
 go_simp;by_cases a:x=0 <;> by_cases b:y=0 <;> simp_all
theorem link_zero_y (w:World):(binOp .eql 26 (.agg #[.int .i64 0,.int .i64 0]) (.agg #[.int .i64 0,.int .i64 0])).run Tryz.prog w = .ok (.bool true) w:=by go_simp
def XX (b:Nat) (sl_ bi us ub kd:Int) (u l:ByteArray) (lv bo dl dp:Int) (W:World):Prop:=∃ sc,W.heap[b]? = some (.cells #[.int .i64 sl_,.int .i64 bi,.int .i64 us,.int .i64 ub,.int .i64 kd,.string u,.string l,sc,.int .i64 lv,.int .i64 bo,.int .i64 dl,.int .i64 dp] 30 (0,0))
theorem XX.below {b:Nat} {sl_ bi us ub kd:Int} {u l:ByteArray} {lv bo dl dp:Int} {W W':World} (h:XX b sl_ bi us ub kd u l lv bo dl dp W) (hb:Below W.heap.size W W'):XX b sl_ bi us ub kd u l lv bo dl dp W':=by
 obtain ⟨sc,h⟩:=h
 exact ⟨sc,(hb.block _ (zx h)).trans h⟩
theorem XX.cells {b:Nat} {sl_ bi us ub kd:Int} {u l:ByteArray} {lv bo dl dp:Int} {W:World} (h:XX b sl_ bi us ub kd u l lv bo dl dp W) :
  W.cell? ⟨b,0,none⟩=some (.int .i64 sl_)/\W.cell? ⟨b,1,none⟩=some (.int .i64 bi)/\W.cell? ⟨b,2,none⟩=some (.int .i64 us)/\W.cell? ⟨b,2+1,none⟩=some (.int .i64 ub)/\W.cell? ⟨b,3+1,none⟩=some (.int .i64 kd)/\W.cell? ⟨b,4+1,none⟩=some (.string u)/\W.cell? ⟨b,5+1,none⟩=some (.string l)/\W.cell? ⟨b,7+1,none⟩=some (.int .i64 lv)/\W.cell? ⟨b,8+1,none⟩=some (.int .i64 bo)/\W.cell? ⟨b,9+1,none⟩=some (.int .i64 dl)/\W.cell? ⟨b,10+1,none⟩=some (.int .i64 dp):=by
 obtain ⟨sc,h⟩:=h
 refine ⟨?_,?_,?_,?_,?_,?_,?_,?_,?_,?_,?_⟩ <;> (rw [zc h];rfl)
theorem may_any (s:Sess) (hu:s.user.size<=9223372036854775807) (hl:s.label.size<=9223372036854775807) (w:World) :
  Calls Tryz.prog 319 #[.agg s.cells.toArray] w fun e w' => e = .returned (.bool (mayS s))/\Below w.heap.size w w':=by
 obtain ⟨sl_,bi,us,ub,kd,u,l,sc,lv,bo,dl,dp⟩:=s
 have HF:=zh from_any
 have HNM:=zh (fun (s:ByteArray) (hs:s.size<=9223372036854775807) (w:World) => name_any s hs w)
 have HU:Hid (u.size<=9223372036854775807):=hu
 have HLB:Hid (l.size<=9223372036854775807):=hl
 clear hu hl
 show Calls Tryz.prog 319 #[.agg #[.int .i64 sl_,.int .i64 bi,.int .i64 us,.int .i64 ub,.int .i64 kd,.string u,.string l,.int .u64 (sc:Int),.int .i64 lv,.int .i64 bo,.int .i64 dl,.int .i64 dp]] w _
 obtain ⟨W0,hW0⟩:∃ W0,W0=(w.alloc (.cells #[.int .i64 sl_,.int .i64 bi,.int .i64 us,.int .i64 ub,.int .i64 kd,.string u,.string l,.int .u64 (sc:Int),.int .i64 lv,.int .i64 bo,.int .i64 dl,.int .i64 dp] 273)).alloc (.cells #[.int .i64 sl_,.int .i64 bi,.int .i64 us,.int .i64 ub,.int .i64 kd,.string u,.string l,.int .u64 (sc:Int),.int .i64 lv,.int .i64 bo,.int .i64 dl,.int .i64 dp] 30):=⟨_,rfl⟩
 have HB:Hid (Below w.heap.size w W0):=by show Below _ _ _;rw [hW0];exact ((Below.refl _ _).alloc (Nat.le_refl _) _).alloc (by simp) _
 have hr:W0.heap[w.heap.size+1]? = some (.cells #[.int .i64 sl_,.int .i64 bi,.int .i64 us,.int .i64 ub,.int .i64 kd,.string u,.string l,.int .u64 (sc:Int),.int .i64 lv,.int .i64 bo,.int .i64 dl,.int .i64 dp] 30 (0,0)):=by
  have:=World.alloc_heap_new (w.alloc (.cells #[.int .i64 sl_,.int .i64 bi,.int .i64 us,.int .i64 ub,.int .i64 kd,.string u,.string l,.int .u64 (sc:Int),.int .i64 lv,.int .i64 bo,.int .i64 dl,.int .i64 dp] 273)) (.cells #[.int .i64 sl_,.int .i64 bi,.int .i64 us,.int .i64 ub,.int .i64 kd,.string u,.string l,.int .u64 (sc:Int),.int .i64 lv,.int .i64 bo,.int .i64 dl,.int .i64 dp] 30)
  rw [World.size_alloc] at this
  rw [hW0];exact this
 have HX:Hid (XX (w.heap.size+1) sl_ bi us ub kd u l lv bo dl dp W0):=⟨_,hr⟩
 obtain ⟨x0,x1,x2,x3,x4,x5,x6,x7,x8,x9,x10⟩:=HX.out.cells
 have HW0:=zh hW0
 clear hW0 hr
 go_enter Tryz.func319,Tryz.ntmps319
 go_upto_region 2 with fail
 rw [<- HW0.out]
 have k:=HF.out (sl_) (0) (31) W0
 by_cases h1:0<=sl_/\sl_<=31
 rotate_left
 ·rw [show fr _ _ _=false from decide_eq_false h1] at k
  go_wp2_with fail
  refine k.mono ?_
  rintro e w' ⟨rfl,hw⟩
  replace hw:=hw.symm
  subst hw
  go_wp2
  go_ret
  exact ⟨by unfold mayS;simp [h1],HB.out⟩
 rw [show fr _ _ _=true from decide_eq_true h1] at k
 go_wp2_with fail
 refine k.mono ?_
 clear k
 rintro e w' ⟨rfl,hw⟩
 replace hw:=hw.symm
 subst hw
 replace h1:=zh h1
 have k:=HF.out (bi) (1) (1048576) W0
 by_cases h2:1<=bi/\bi<=1048576
 rotate_left
 ·rw [show fr _ _ _=false from decide_eq_false h2] at k
  go_wp2_with fail
  refine k.mono ?_
  rintro e w' ⟨rfl,hw⟩
  replace hw:=hw.symm
  subst hw
  go_wp2
  go_ret
  exact ⟨by unfold mayS;simp [h1.out,h2],HB.out⟩
 rw [show fr _ _ _=true from decide_eq_true h2] at k
 go_wp2_with fail
 refine k.mono ?_
 clear k
 rintro e w' ⟨rfl,hw⟩
 replace hw:=hw.symm
 subst hw
 replace h2:=zh h2
 have k:=HNM.out u HU.out W0
 by_cases h3:nameB u.data.toList=true
 rotate_left
 ·rw [show nameB u.data.toList=false from Bool.eq_false_iff.2 h3] at k
  go_wp2_with fail
  refine k.mono ?_
  rintro e w' ⟨rfl,hw⟩
  have HB':=zh (HB.out.trans (hw.mono HB.out.size))
  clear hw
  go_wp2
  go_ret
  exact ⟨by unfold mayS;simp [h1.out,h2.out,h3],HB'.out⟩
 rw [h3] at k
 go_wp2_with fail
 refine k.mono ?_
 clear k
 rintro e W1 ⟨rfl,hw⟩
 clear x0 x1 x2 x3 x4 x5 x6 x7 x8 x9 x10
 replace HB:=zh (HB.out.trans (hw.mono HB.out.size))
 replace HX:Hid (XX (w.heap.size+1) sl_ bi us ub _ u l lv bo dl dp W1):=HX.out.below hw
 obtain ⟨x0,x1,x2,x3,x4,x5,x6,x7,x8,x9,x10⟩:=HX.out.cells
 clear hw
 replace h3:=zh h3
 have k:=HF.out (lv) (0) (2) W1
 by_cases h4:0<=lv/\lv<=2
 rotate_left
 ·rw [show fr _ _ _=false from decide_eq_false h4] at k
  go_wp2_with fail
  refine k.mono ?_
  rintro e w' ⟨rfl,hw⟩
  replace hw:=hw.symm
  subst hw
  go_wp2
  go_ret
  exact ⟨by unfold mayS;simp [h1.out,h2.out,h3.out,h4],HB.out⟩
 rw [show fr _ _ _=true from decide_eq_true h4] at k
 go_wp2_with fail
 refine k.mono ?_
 clear k
 rintro e w' ⟨rfl,hw⟩
 replace hw:=hw.symm
 subst hw
 replace h4:=zh h4
 have k:=HF.out (bo) (0) (1099511627776) W1
 by_cases h5:0<=bo/\bo<=1099511627776
 rotate_left
 ·rw [show fr _ _ _=false from decide_eq_false h5] at k
  go_wp2_with fail
  refine k.mono ?_
  rintro e w' ⟨rfl,hw⟩
  replace hw:=hw.symm
  subst hw
  go_wp2
  go_ret
  exact ⟨by unfold mayS;simp [h1.out,h2.out,h3.out,h4.out,h5],HB.out⟩
 rw [show fr _ _ _=true from decide_eq_true h5] at k
 go_wp2_with fail
 refine k.mono ?_
 clear k
 rintro e w' ⟨rfl,hw⟩
 replace hw:=hw.symm
 subst hw
 replace h5:=zh h5
 have wr1:IntKind.i64.wrap (bo+1)=bo+1:=IntWalk.i64_in _ (by have:=h5.out;omega)
 have k:=HF.out (dl) (bo+1) (1099511627776) W1
 by_cases h6:bo+1<=dl/\dl<=1099511627776
 rotate_left
 ·rw [show fr _ _ _=false from decide_eq_false h6] at k
  go_wp2_with fail
  refine k.mono ?_
  rintro e w' ⟨rfl,hw⟩
  replace hw:=hw.symm
  subst hw
  go_wp2
  go_ret
  exact ⟨by unfold mayS;simp [h1.out,h2.out,h3.out,h4.out,h5.out,h6],HB.out⟩
 rw [show fr _ _ _=true from decide_eq_true h6] at k
 go_wp2_with fail
 refine k.mono ?_
 clear k
 rintro e w' ⟨rfl,hw⟩
 replace hw:=hw.symm
 subst hw
 replace h6:=zh h6
 by_cases hk0:kd=0
 ·subst hk0
  by_cases hl0:us=0/\ub=0
  ·obtain ⟨rfl,rfl⟩:=hl0
   have hq:=link_zero_y
   by_cases hz:l.size=0
   ·have hle:l=⟨#[]⟩:=ByteArray.ext (Array.eq_empty_of_size_eq_zero hz)
    subst hle
    by_cases hd:dp=0
    ·subst hd
     clear hz
     go_wp2
     go_ret
     exact ⟨by unfold mayS;simp [h1.out,h2.out,h3.out,h4.out,h5.out,h6.out];rfl,HB.out⟩
    ·have hd2:=beq_eq_false_iff_ne.2 hd
     have HD:=zh hd
     clear hz hd
     go_wp2
     go_ret
     exact ⟨by unfold mayS;simp [h1.out,h2.out,h3.out,h4.out,h5.out,h6.out,HD.out],HB.out⟩
   ·have hs:(l.toList == [])=false:=by
     rw [Lib.toList_data,beq_eq_false_iff_ne];intro e;apply hz;rw [Lib.size_eq,e];rfl
    have HZ:=zh hz
    clear hz
    go_wp2
    go_ret
    exact ⟨by unfold mayS;simp [h1.out,h2.out,h3.out,h4.out,h5.out,h6.out,HZ.out],HB.out⟩
  ·have hq:=fun W => link_zero_no hl0 W
   have HL0:=zh hl0
   clear hl0
   go_wp2
   go_ret
   exact ⟨by unfold mayS;simp [h1.out,h2.out,h3.out,h4.out,h5.out,h6.out,HL0.out],HB.out⟩
 have z0:=beq_eq_false_iff_ne.2 hk0
 by_cases hk1:kd=1
 ·subst hk1
  clear hk0 z0
  have k:=HF.out (us) (0) (31) W1
  by_cases h7:0<=us/\us<=31
  rotate_left
  ·rw [show fr _ _ _=false from decide_eq_false h7] at k
   go_wp2_with fail
   refine k.mono ?_
   rintro e w' ⟨rfl,hw⟩
   replace hw:=hw.symm
   subst hw
   go_wp2
   go_ret
   exact ⟨by unfold mayS;simp [h1.out,h2.out,h3.out,h4.out,h5.out,h6.out,h7],HB.out⟩
  rw [show fr _ _ _=true from decide_eq_true h7] at k
  go_wp2_with fail
  refine k.mono ?_
  clear k
  rintro e w' ⟨rfl,hw⟩
  replace hw:=hw.symm
  subst hw
  replace h7:=zh h7
  have wr2:IntKind.i64.wrap (bi-1)=bi-1:=IntWalk.i64_in _ (by have:=h2.out;omega)
  have k:=HF.out (ub) (1) (bi-1) W1
  by_cases h8:1<=ub/\ub<=bi-1
  rotate_left
  ·rw [show fr _ _ _=false from decide_eq_false h8] at k
   go_wp2_with fail
   refine k.mono ?_
   rintro e w' ⟨rfl,hw⟩
   replace hw:=hw.symm
   subst hw
   go_wp2
   go_ret
   exact ⟨by unfold mayS;simp [h1.out,h2.out,h3.out,h4.out,h5.out,h6.out,h7.out,h8],HB.out⟩
  rw [show fr _ _ _=true from decide_eq_true h8] at k
  go_wp2_with fail
  refine k.mono ?_
  clear k
  rintro e w' ⟨rfl,hw⟩
  replace hw:=hw.symm
  subst hw
  replace h8:=zh h8
  have k:=HNM.out l HLB.out W1
  by_cases h9:nameB l.data.toList=true
  rotate_left
  ·rw [show nameB l.data.toList=false from Bool.eq_false_iff.2 h9] at k
   go_wp2_with fail
   refine k.mono ?_
   rintro e w' ⟨rfl,hw⟩
   have HB':=zh (HB.out.trans (hw.mono HB.out.size))
   clear hw
   go_wp2
   go_ret
   exact ⟨by unfold mayS;simp [h1.out,h2.out,h3.out,h4.out,h5.out,h6.out,h7.out,h8.out,h9],HB'.out⟩
  rw [h9] at k
  go_wp2_with fail
  refine k.mono ?_
  clear k
  rintro e W2 ⟨rfl,hw⟩
  clear x0 x1 x2 x3 x4 x5 x6 x7 x8 x9 x10
  replace HB:=zh (HB.out.trans (hw.mono HB.out.size))
  replace HX:Hid (XX (w.heap.size+1) sl_ bi us ub _ u l lv bo dl dp W2):=HX.out.below hw
  obtain ⟨x0,x1,x2,x3,x4,x5,x6,x7,x8,x9,x10⟩:=HX.out.cells
  clear hw
  replace h9:=zh h9
  have k:=HF.out (dp) (1) (6) W2
  by_cases h10:1<=dp/\dp<=6
  rotate_left
  ·rw [show fr _ _ _=false from decide_eq_false h10] at k
   go_wp2_with fail
   refine k.mono ?_
   rintro e w' ⟨rfl,hw⟩
   replace hw:=hw.symm
   subst hw
   go_wp2
   go_ret
   exact ⟨by unfold mayS;simp [h1.out,h2.out,h3.out,h4.out,h5.out,h6.out,h7.out,h8.out,h9.out,h10],HB.out⟩
  rw [show fr _ _ _=true from decide_eq_true h10] at k
  go_wp2_with fail
  refine k.mono ?_
  clear k
  rintro e w' ⟨rfl,hw⟩
  replace hw:=hw.symm
  subst hw
  replace h10:=zh h10
  go_wp2
  go_ret
  exact ⟨by unfold mayS;simp [h1.out,h2.out,h3.out,h4.out,h5.out,h6.out,h7.out,h8.out,h9.out,h10.out],HB.out⟩
 have z1:=beq_eq_false_iff_ne.2 hk1
 have y1:(kd != 1)=true:=by rw [bne,z1];rfl
 by_cases hk2:kd=2
 ·subst hk2
  clear hk0 z0 hk1 z1 y1
  have wr3:IntKind.i64.wrap (dl-bo)=dl-bo:=IntWalk.i64_in _ (by have:=h5.out;have:=h6.out;omega)
  by_cases hy:300<dl-bo
  ·have HY:=zh hy
   go_wp2
   go_ret
   exact ⟨by unfold mayS;simp [h1.out,h2.out,h3.out,h4.out,h5.out,h6.out,HY.out],HB.out⟩
  have hz:dl-bo<=300:=by omega
  have HY:=zh hy
  clear hy
  have k:=HF.out (us) (0) (31) W1
  by_cases h7:0<=us/\us<=31
  rotate_left
  ·rw [show fr _ _ _=false from decide_eq_false h7] at k
   go_wp2_with fail
   refine k.mono ?_
   rintro e w' ⟨rfl,hw⟩
   replace hw:=hw.symm
   subst hw
   go_wp2
   go_ret
   exact ⟨by unfold mayS;simp [h1.out,h2.out,h3.out,h4.out,h5.out,h6.out,HY.out,h7],HB.out⟩
  rw [show fr _ _ _=true from decide_eq_true h7] at k
  go_wp2_with fail
  refine k.mono ?_
  clear k
  rintro e w' ⟨rfl,hw⟩
  replace hw:=hw.symm
  subst hw
  replace h7:=zh h7
  have wr2:IntKind.i64.wrap (bi-1)=bi-1:=IntWalk.i64_in _ (by have:=h2.out;omega)
  have k:=HF.out (ub) (1) (bi-1) W1
  by_cases h8:1<=ub/\ub<=bi-1
  rotate_left
  ·rw [show fr _ _ _=false from decide_eq_false h8] at k
   go_wp2_with fail
   refine k.mono ?_
   rintro e w' ⟨rfl,hw⟩
   replace hw:=hw.symm
   subst hw
   go_wp2
   go_ret
   exact ⟨by unfold mayS;simp [h1.out,h2.out,h3.out,h4.out,h5.out,h6.out,HY.out,h7.out,h8],HB.out⟩
  rw [show fr _ _ _=true from decide_eq_true h8] at k
  go_wp2_with fail
  refine k.mono ?_
  clear k
  rintro e w' ⟨rfl,hw⟩
  replace hw:=hw.symm
  subst hw
  replace h8:=zh h8
  have k:=HNM.out l HLB.out W1
  by_cases h9:nameB l.data.toList=true
  rotate_left
  ·rw [show nameB l.data.toList=false from Bool.eq_false_iff.2 h9] at k
   go_wp2_with fail
   refine k.mono ?_
   rintro e w' ⟨rfl,hw⟩
   have HB':=zh (HB.out.trans (hw.mono HB.out.size))
   clear hw
   go_wp2
   go_ret
   exact ⟨by unfold mayS;simp [h1.out,h2.out,h3.out,h4.out,h5.out,h6.out,HY.out,h7.out,h8.out,h9],HB'.out⟩
  rw [h9] at k
  go_wp2_with fail
  refine k.mono ?_
  clear k
  rintro e W2 ⟨rfl,hw⟩
  clear x0 x1 x2 x3 x4 x5 x6 x7 x8 x9 x10
  replace HB:=zh (HB.out.trans (hw.mono HB.out.size))
  replace HX:Hid (XX (w.heap.size+1) sl_ bi us ub _ u l lv bo dl dp W2):=HX.out.below hw
  obtain ⟨x0,x1,x2,x3,x4,x5,x6,x7,x8,x9,x10⟩:=HX.out.cells
  clear hw
  replace h9:=zh h9
  have k:=HF.out (dp) (1) (6) W2
  by_cases h10:1<=dp/\dp<=6
  rotate_left
  ·rw [show fr _ _ _=false from decide_eq_false h10] at k
   go_wp2_with fail
   refine k.mono ?_
   rintro e w' ⟨rfl,hw⟩
   replace hw:=hw.symm
   subst hw
   go_wp2
   go_ret
   exact ⟨by unfold mayS;simp [h1.out,h2.out,h3.out,h4.out,h5.out,h6.out,HY.out,h7.out,h8.out,h9.out,h10],HB.out⟩
  rw [show fr _ _ _=true from decide_eq_true h10] at k
  go_wp2_with fail
  refine k.mono ?_
  clear k
  rintro e w' ⟨rfl,hw⟩
  replace hw:=hw.symm
  subst hw
  replace h10:=zh h10
  go_wp2
  go_ret
  exact ⟨by unfold mayS;simp [h1.out,h2.out,h3.out,h4.out,h5.out,h6.out,HY.out,h7.out,h8.out,h9.out,h10.out],HB.out⟩
 have z2:=beq_eq_false_iff_ne.2 hk2
 have y2:(kd != 2)=true:=by rw [bne,z2];rfl
 have HK0:=zh hk0;have HK1:=zh hk1;have HK2:=zh hk2
 clear hk0 hk1 hk2
 go_wp2
 go_ret
 exact ⟨by unfold mayS;simp [h1.out,h2.out,h3.out,h4.out,h5.out,h6.out,HK0.out,HK1.out,HK2.out],HB.out⟩
end Ev
end
section
open Go.RowKit Go.Maps
namespace Ev
open Vw (Sess)
inductive Evt where
 | birth (s:Sess)
 | revoke (b:Int)
 | tick (n:Int)
def Evt.cells:Evt->List Value
 | .birth s => .int .i64 0 :: (s.cells ++ [.int .i64 0,.int .i64 0])
 | .revoke b => .int .i64 1 :: (Fr.s0.cells ++ [.int .i64 b,.int .i64 0])
 | .tick n => .int .i64 2 :: (Fr.s0.cells ++ [.int .i64 0,.int .i64 n])
def Evt.may:Evt->Bool
 | .birth s => Fr.mayS s
 | .revoke b => fr b 1 1048576
 | .tick n => fr n 1 1073741824
def Evt.what:Evt->Value
 | .birth s => .iface 273 (.agg s.cells.toArray)
 | .revoke b => .iface 276 (.agg #[.int .i64 b])
 | .tick n => .iface 278 (.agg #[.int .i64 n])
theorem two_below' (w:World) (o1 o2:Obj):Below w.heap.size w (((w.alloc o1).alloc o2).drew):=(((Below.refl _ _).alloc (Nat.le_refl _) _).alloc (by simp) _).drew
theorem of_birth (s:Sess) (hu:s.user.size<=9223372036854775807) (hl:s.label.size<=9223372036854775807) (w:World) :
  Calls Tryz.prog 174 #[.agg (Evt.birth s).cells.toArray] w fun e w' => e = .returned (if Fr.mayS s then (Evt.birth s).what else .nilIface)/\Below w.heap.size w w':=by
 have HM:=zh (fun w => may_any s hu hl w)
 obtain ⟨mb,hmb⟩:∃ mb,mb=Fr.mayS s:=⟨_,rfl⟩
 rw [<- hmb] at HM ⊢
 clear hu hl hmb
 obtain ⟨a1,a2,a3,a4,a5,a6,a7,a8,a9,a10,a11,a12⟩:=s
 simp only [Vw.Sess.cells,Evt.cells,Evt.what,List.cons_append,List.nil_append] at HM ⊢
 have hme : ∀ (v : Value) (W : World), (method 518 273 v "lineage/event.may").run Tryz.prog W = .ok (319, v) W := fun v W => by kernel_rfl
 go_enter Tryz.func174,Tryz.ntmps174
 go_wp2_with fail
 go_region
 go_wp2_with fail
 refine (HM.out _).mono ?_
 rintro e w2 ⟨rfl,hb2⟩
 have HB:Hid (Below w.heap.size w w2):=(two_below' w _ _).trans (hb2.mono (two_below' w _ _).size)
 clear hb2
 cases mb with
 | true =>
  go_wp2
  go_ret
  exact ⟨rfl,HB.out⟩
 | false =>
  go_wp2
  go_ret
  exact ⟨rfl,HB.out⟩
theorem rmay_any (b:Int) (w:World):Calls Tryz.prog 321 #[.agg #[.int .i64 b]] w fun e w' => e = .returned (.bool (fr b 1 1048576))/\Below w.heap.size w w':=by
 have HF:=zh (fun w => from_any b 1 1048576 w)
 have HB:Hid (Below w.heap.size w (w.alloc (.cells #[.int .i64 b] 276))):=(Below.refl _ _).alloc (Nat.le_refl _) _
 go_enter Tryz.func321,Tryz.ntmps321
 go_wp2_with (go_at_call 320;(with_reducible refine (HF.out _).mono ?_);rintro e w' ⟨rfl,rfl⟩)
 go_ret
 exact ⟨rfl,HB.out⟩
theorem tmay_any (b:Int) (w:World):Calls Tryz.prog 322 #[.agg #[.int .i64 b]] w fun e w' => e = .returned (.bool (fr b 1 1073741824))/\Below w.heap.size w w':=by
 have HF:=zh (fun w => from_any b 1 1073741824 w)
 have HB:Hid (Below w.heap.size w (w.alloc (.cells #[.int .i64 b] 278))):=(Below.refl _ _).alloc (Nat.le_refl _) _
 go_enter Tryz.func322,Tryz.ntmps322
 go_wp2_with (go_at_call 320;(with_reducible refine (HF.out _).mono ?_);rintro e w' ⟨rfl,rfl⟩)
 go_ret
 exact ⟨rfl,HB.out⟩
theorem of_revoke (b:Int) (w:World) :
  Calls Tryz.prog 174 #[.agg (Evt.revoke b).cells.toArray] w fun e w' => e = .returned (if fr b 1 1048576 then (Evt.revoke b).what else .nilIface)/\Below w.heap.size w w':=by
 have HM:=zh (fun w => rmay_any b w)
 obtain ⟨mb,hmb⟩:∃ mb,mb=fr b 1 1048576:=⟨_,rfl⟩
 rw [<- hmb] at HM ⊢
 clear hmb
 simp only [Fr.s0,Vw.Sess.cells,Evt.cells,Evt.what,List.cons_append,List.nil_append] at HM ⊢
 have hme : ∀ (v : Value) (W : World), (method 518 276 v "lineage/event.may").run Tryz.prog W = .ok (321, v) W := fun v W => by kernel_rfl
 go_enter Tryz.func174,Tryz.ntmps174
 go_wp2_with fail
 go_region
 go_wp2_with fail
 refine (HM.out _).mono ?_
 rintro e w2 ⟨rfl,hb2⟩
 have HB:Hid (Below w.heap.size w w2):=(two_below' w _ _).trans (hb2.mono (two_below' w _ _).size)
 clear hb2
 cases mb with
 | true =>
  go_wp2
  go_ret
  exact ⟨rfl,HB.out⟩
 | false =>
  go_wp2
  go_ret
  exact ⟨rfl,HB.out⟩
theorem of_tick (b:Int) (w:World) :
  Calls Tryz.prog 174 #[.agg (Evt.tick b).cells.toArray] w fun e w' => e = .returned (if fr b 1 1073741824 then (Evt.tick b).what else .nilIface)/\Below w.heap.size w w':=by
 have HM:=zh (fun w => tmay_any b w)
 obtain ⟨mb,hmb⟩:∃ mb,mb=fr b 1 1073741824:=⟨_,rfl⟩
 rw [<- hmb] at HM ⊢
 clear hmb
 simp only [Fr.s0,Vw.Sess.cells,Evt.cells,Evt.what,List.cons_append,List.nil_append] at HM ⊢
 have hme : ∀ (v : Value) (W : World), (method 518 278 v "lineage/event.may").run Tryz.prog W = .ok (322, v) W := fun v W => by kernel_rfl
 go_enter Tryz.func174,Tryz.ntmps174
 go_wp2_with fail
 go_region
 go_wp2_with fail
 refine (HM.out _).mono ?_
 rintro e w2 ⟨rfl,hb2⟩
 have HB:Hid (Below w.heap.size w w2):=(two_below' w _ _).trans (hb2.mono (two_below' w _ _).size)
 clear hb2
 cases mb with
 | true =>
  go_wp2
  go_ret
  exact ⟨rfl,HB.out⟩
 | false =>
  go_wp2
  go_ret
  exact ⟨rfl,HB.out⟩
theorem of_any (x:Evt) (h:∀ s,x = .birth s->s.user.size<=9223372036854775807/\s.label.size<=9223372036854775807) (w:World) :
  Calls Tryz.prog 174 #[.agg x.cells.toArray] w fun e w' => e = .returned (if x.may then x.what else .nilIface)/\Below w.heap.size w w':=by
 cases x with
 | birth s => exact of_birth s (h s rfl).1 (h s rfl).2 w
 | revoke b => exact of_revoke b w
 | tick n => exact of_tick n w
end Ev
end
section
open Go.RowKit Go.Maps
namespace Ev
open Vw (Sess)
open Pk (WrAt WrPost sevens bts bV)
def numsB (ns:List Int):List Nat:=ns.flatMap fun n => sevens n.toNat
theorem numsB_take {ns:List Int} {k:Nat} {n:Int} (h:ns[k]? = some n):numsB (ns.take (k+1))=numsB (ns.take k) ++ sevens n.toNat:=by
 unfold numsB
 rw [List.take_add_one,h,List.flatMap_append]
 simp
theorem numsB_len (ns:List Int):(numsB ns).length<=ns.length * 10:=by
 unfold numsB
 induction ns with
 | nil => simp
 | cons n r ih =>
  rw [List.flatMap_cons,List.length_append,List.length_cons]
  have:=Pk.sevens_len n.toNat
  omega
theorem u64_of {n:Int} (h:0<=n) (h2:n<=9223372036854775807):IntKind.u64.wrap n=n:=by
 unfold IntKind.wrap;simp only [IntKind.bits,IntKind.signed];simp;omega
theorem nums_any {p bo g:Nat} {L:List Nat} {F:Nat->Prop} {w:World} (h:WrAt p L F w) (hbo:w.heap[bo]? = some (.cells #[.pointer (some ⟨p,0,none⟩)] 268 (0,0))) (hFb:¬ F bo) (ns:List Int) (hl:ns.length<=100) (hL:L.length<=1000000) (hn:∀ n ∈ ns,0<=n/\n<=9223372036854775807) (t:TypeId)
  (hg:w.heap[g]? = some (.cells (ns.map (Value.int .i64)).toArray t (0,0))) (hFg:¬ F g) :
  Calls Tryz.prog 176 #[.slice (some ⟨g,0,none⟩) ns.length ns.length,.pointer (some ⟨bo,0,none⟩)] w fun e w' => e = .returned (.tuple #[])/\WrPost p (L ++ numsB ns) F w w':=by
 have H:=zh h;have HBO:=zh hbo;have HFB:=zh hFb;have HN:=zh hn;have HG:=zh hg;have HFG:=zh hFg;have HLL:=zh hL;have HNL:=zh hl
 clear h hbo hFb hn hg hFg hl hL
 go_enter Tryz.func176,Tryz.ntmps176
 go_wp2
 go_loopw [7] (fun x wr => ∃ (k:Nat) (F':Nat->Prop),k<=ns.length/\x = .int .i64 (k:Int)/\WrAt p (L ++ numsB (ns.take k)) F' wr/\Only F w wr/\∀ b,F' b->F b\/w.heap.size<=b) (fun x _ => ns.length-(intOf x).toNat)
 case atStart => exact ⟨0,F,Nat.zero_le _,rfl,by show WrAt p (L ++ []) F w;rw [List.append_nil];exact H.out,Only.refl _ _,fun b hb => .inl hb⟩
 case round =>
  obtain ⟨k,F',hk,rfl,hw,ho,hf⟩:=hrel
  have b0:(0:Int)<=(k:Int):=by omega
  have hk100:k<=100:=Nat.le_trans hk HNL.out
  by_cases hlt:k<ns.length
  ·have b1:(k:Int)<(ns.length:Int):=by omega
   obtain ⟨n,hnk⟩:∃ n,ns[k]? = some n:=⟨_,List.getElem?_eq_getElem hlt⟩
   obtain ⟨n0,n1⟩:=HN.out n (List.mem_of_getElem? hnk)
   obtain ⟨m,rfl⟩:=Int.eq_ofNat_of_zero_le n0
   have c1:wr.cell? ⟨g,k,none⟩=some (.int .i64 (m:Int)):=by
    rw [zc ((ho.block g (zx HG.out) HFG.out).trans HG.out),List.getElem?_toArray,List.getElem?_map,hnk];rfl
   have c2:wr.cell? ⟨bo,0,none⟩=some (.pointer (some ⟨p,0,none⟩)):=by
    rw [zc ((ho.block bo (zx HBO.out) HFB.out).trans HBO.out)];rfl
   have hwp:IntKind.u64.wrap (m:Int)=(m:Int):=u64_of n0 n1
   have hcv:∀ W:World,(convert 3 27 (.int .i64 (m:Int))).run Tryz.prog W = .ok (.int .u64 (m:Int)) W:=fun W => by go_simp
   have HNUM:=zh (Pk.number_any hw m (by omega) (by
    rw [List.length_append]
    have h1:=numsB_len (ns.take k)
    rw [List.length_take] at h1
    have:=HLL.out;have:=HNL.out
    omega))
   have HP:Hid (∀ w3,WrPost p (L ++ numsB (ns.take k) ++ sevens m) F' wr w3->WrPost p (L ++ numsB (ns.take (k+1))) F w w3):=fun w3 h3 => by
    have:=WrPost.trans ho hf h3
    rw [numsB_take hnk,<- List.append_assoc];exact this
   have HLT:=zh hlt
   clear hnk n0 n1 hw ho hf hk hlt
   go_wp2_with fail
   refine HNUM.out.mono ?_
   rintro e w3 ⟨rfl,h3⟩
   have H3:=zh (HP.out w3 h3)
   clear h3
   go_wp2
   go_roundw
   case rel => obtain ⟨F3,t1,t2,t3⟩:=H3.out;have:=HLT.out;exact ⟨k+1,F3,by omega,by go_num,t1,t2,t3⟩
   case measure => have:=HLT.out;simp [intOf];omega
  ·have b1:(ns.length:Int)<=(k:Int):=by omega
   have HE:Hid (WrPost p (L ++ numsB ns) F w wr):=⟨F',by rw [List.take_of_length_le (by omega)] at hw;exact hw,ho,hf⟩
   clear hw ho hf hk hlt
   go_wp2
   go_end0
   exact ⟨rfl,HE.out⟩
end Ev
end
section
open Go.RowKit Go.Maps
namespace Ev
open Vw (Sess)
open Pk (WrAt WrPost sevens bts bV)
def St (p:Nat) (R:List (Nat × Obj)) (L:List Nat) (w W:World):Prop :=
 ∃ F,WrAt p L F W/\(∀ q ∈ R,W.heap[q.1]? = some q.2/\¬ F q.1)/\Below w.heap.size w W/\w.heap.size<=p
section
variable {p:Nat} {R:List (Nat × Obj)} {L:List Nat} {w W:World}
theorem St.row (h:St p R L w W) {b:Nat} {o:Obj} (hm:(b,o) ∈ R):W.heap[b]? = some o:=by obtain ⟨F,-,h2,-⟩:=h;exact (h2 _ hm).1
theorem St.add (h:St p R L w W) (o:Obj):St p ((W.heap.size,o) :: R) L w (W.alloc o):=by
 obtain ⟨F,h1,h2,h3,h4⟩:=h
 have hb:Below W.heap.size W (W.alloc o):=(Below.refl _ _).alloc (Nat.le_refl _) _
 refine ⟨F,h1.below hb,fun q hq => ?_,h3.alloc h3.size _,h4⟩
 rcases List.mem_cons.1 hq with rfl | hq
 ·exact ⟨World.alloc_heap_new _ _,fun hf => by have:=(h1.lt hf).2;exact absurd this (Nat.lt_irrefl _)⟩
 ·obtain ⟨k1,k2⟩:=h2 q hq
  exact ⟨(hb.block _ (zx k1)).trans k1,k2⟩
theorem St.next {F:Nat->Prop} {L':List Nat} {W':World} (h1:WrAt p L F W) (h2:∀ q ∈ R,W.heap[q.1]? = some q.2/\¬ F q.1) (h3:Below w.heap.size w W) (h4:w.heap.size<=p) (h:WrPost p L' F W W'):St p R L' w W':=by
 obtain ⟨F',k1,k2,k3⟩:=h
 refine ⟨F',k1,fun q hq => ?_,h3.trans (k2.below h3.size (fun i hi hf => by have:=(h1.lt hf).1;omega)),h4⟩
 obtain ⟨j1,j2⟩:=h2 q hq
 have hlt:=(zx j1)
 exact ⟨(k2.block _ hlt j2).trans j1,fun hf => by
  rcases k3 _ hf with h5 | h5
  ·exact j2 h5
  ·exact absurd hlt (Nat.not_lt.2 h5)⟩
theorem enc_nums (h:St p R L w W) {bo:Nat} (hbo:(bo,Obj.cells #[.pointer (some ⟨p,0,none⟩)] 268 (0,0)) ∈ R) (ns:List Int) (hl:ns.length<=100) (hL:L.length<=1000000) (hn:∀ n ∈ ns,0<=n/\n<=9223372036854775807) (t:TypeId) :
  Calls Tryz.prog 176 #[.slice (some ⟨W.heap.size,0,none⟩) ns.length ns.length,.pointer (some ⟨bo,0,none⟩)] (W.alloc (.cells (ns.map (Value.int .i64)).toArray t)) fun e w' => e = .returned (.tuple #[])/\St p R (L ++ numsB ns) w w':=by
 obtain ⟨F,h1,h2,h3,h4⟩:=h
 have hb:Below W.heap.size W (W.alloc (.cells (ns.map (Value.int .i64)).toArray t)):=(Below.refl _ _).alloc (Nat.le_refl _) _
 have h2':∀ q ∈ R,(W.alloc (.cells (ns.map (Value.int .i64)).toArray t)).heap[q.1]? = some q.2/\¬ F q.1:=fun q hq => by
  obtain ⟨k1,k2⟩:=h2 q hq
  exact ⟨(hb.block _ (zx k1)).trans k1,k2⟩
 have h1':=h1.below hb
 refine (nums_any h1' (h2' _ hbo).1 (h2' _ hbo).2 ns hl hL hn t (World.alloc_heap_new _ _) (fun hf => by have:=(h1.lt hf).2;exact absurd this (Nat.lt_irrefl _))).mono ?_
 rintro e w' ⟨rfl,k⟩
 exact ⟨rfl,St.next h1' h2' (h3.alloc h3.size _) h4 k⟩
theorem enc_text (h:St p R L w W) (s:ByteArray) (hs:s.size<=1099511627776) (hl:L.length<=1099511627776) :
  Calls Tryz.prog 178 #[.pointer (some ⟨p,0,none⟩),.string s] W fun e w' => e = .returned (.tuple #[])/\St p R (L ++ (sevens s.size ++ bts s)) w w':=by
 obtain ⟨F,h1,h2,h3,h4⟩:=h
 refine (Pk.text_any h1 s hs hl).mono ?_
 rintro e w' ⟨rfl,k⟩
 exact ⟨rfl,St.next h1 h2 h3 h4 k⟩
theorem enc_number (h:St p R L w W) (v:Nat) (hv:v<18446744073709551616) (hl:L.length<=1099511627776) :
  Calls Tryz.prog 177 #[.pointer (some ⟨p,0,none⟩),.int .u64 (v:Int)] W fun e w' => e = .returned (.tuple #[])/\St p R (L ++ sevens v) w w':=by
 obtain ⟨F,h1,h2,h3,h4⟩:=h
 refine (Pk.number_any h1 v hv hl).mono ?_
 rintro e w' ⟨rfl,k⟩
 exact ⟨rfl,St.next h1 h2 h3 h4 k⟩
end
def Evt.bytes:Evt->List Nat
 | .birth s => numsB [0] ++ numsB [s.slot,s.birth,s.us,s.ub,s.kind] ++ (sevens s.user.size ++ bts s.user) ++ (sevens s.label.size ++ bts s.label) ++ sevens s.scopes ++ numsB [s.level,s.born,s.dl,s.depth]
 | .revoke b => numsB [1] ++ numsB [b]
 | .tick n => numsB [2] ++ numsB [n]
def EncPost (x:Evt) (w:World) (e:Ending) (w':World):Prop :=
 ((x.may=true/\(∃ v,e = .returned (.tuple #[v,.nilIface])/\v≠.slice none 0 0/\w'.ownsRow w.heap.size 5 1 v x.bytes.length (x.bytes.map bV)))\/x.may=false/\e = .returned (.tuple #[.slice none 0 0,.iface 101 (.int .i64 1)]))/\Below w.heap.size w w'
theorem own_down {w:World} {base base' e size n:Nat} {v:Value} {xs:List Value} (h:w.ownsRow base e size v n xs) (hb:base'<=base):w.ownsRow base' e size v n xs:=by
 refine ⟨h.1,?_⟩
 rcases h.2 with h2 | ⟨g,cap,cur,rfl,h2,h3,h4⟩
 ·exact .inl h2
 ·exact .inr ⟨g,cap,cur,rfl,Nat.le_trans hb h2,h3,h4⟩
theorem bytes_st {p:Nat} {R:List (Nat × Obj)} {L:List Nat} {w W:World} (h:St p R L w W) (hl:L.length<=140737488355328) (h0:0<L.length) :
  Calls Tryz.prog 179 #[.pointer (some ⟨p,0,none⟩)] W fun e w' => ∃ v',e = .returned v'/\v'≠.slice none 0 0/\w'.ownsRow w.heap.size 5 1 v' L.length (L.map bV)/\Below w.heap.size w w':=by
 obtain ⟨F,h1,h2,h3,h4⟩:=h
 refine (Pk.bytes_any h1 hl h0).mono ?_
 rintro e w' ⟨v',rfl,k1,k2,k3⟩
 exact ⟨v',rfl,k2,own_down k1 h3.size,h3.trans (k3.mono h3.size)⟩
end Ev
end
end Go.Proofs.YtimhglmfckfclaaGreatDoor
