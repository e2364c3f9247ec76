/- Parts of the proof. -/
import Derived.Test.YtimhglmfckfclaaGreatM25
set_option linter.unusedVariables false
set_option linter.unusedSimpArgs false
set_option maxRecDepth 100000
set_option maxHeartbeats 16000000
namespace Go.Proofs.YtimhglmfckfclaaGreat
section
open Go.RowKit Go.Maps
namespace Pk
theorem binfo:(Tryz.prog.info? 5).map (fun i => (i.zero,i.size,i.bytes))=some (some (.int .u8 0),1,1):=by kernel_rfl
theorem own_shape {w:World} {base e size n:Nat} {v:Value} {xs:List Value} (h:w.ownsRow base e size v n xs):∃ q r,v = .slice q n r/\n<=r:=by
 rcases h.2 with ⟨rfl,rfl⟩ | ⟨g,cap,cur,rfl,h2,h3,h4,h5⟩
 ·exact ⟨_,_,rfl,Nat.le_refl _⟩
 ·exact ⟨_,_,rfl,h4⟩
theorem own_stay {w w':World} {base e size n:Nat} {v:Value} {xs:List Value} (h:w.ownsRow base e size v n xs) (hk:∀ b,v.ownBlock=some b->w'.heap[b]? = w.heap[b]?):w'.ownsRow base e size v n xs:=by
 refine ⟨h.1,?_⟩
 rcases h.2 with h2 | ⟨g,cap,cur,rfl,h2,h3,h4⟩
 ·exact .inl h2
 ·exact .inr ⟨g,cap,cur,rfl,h2,(hk g rfl).trans h3,h4⟩
def WrAt (p:Nat) (L:List Nat) (F:Nat->Prop) (w:World):Prop :=
 ∃ v,Boxed w p 229 v/\w.ownsRow (p+1) 5 1 v L.length (L.map bV)/\∀ b,F b↔b=p\/v.ownBlock=some b
theorem WrAt.only {p:Nat} {L:List Nat} {F G:Nat->Prop} {w w':World} (h:WrAt p L F w) (ho:Only G w w') (hG:∀ b,F b->¬ G b):WrAt p L F w':=by
 obtain ⟨v,h1,h2,h3⟩:=h
 exact ⟨v,(ho.block p h1.lt (hG p ((h3 p).2 (.inl rfl)))).trans h1,own_stay h2 (fun b e => ho.block b (h2.lt b e).2 (hG b ((h3 b).2 (.inr e)))),h3⟩
theorem WrAt.below {p:Nat} {L:List Nat} {F:Nat->Prop} {w w':World} (h:WrAt p L F w) (hb:Below w.heap.size w w'):WrAt p L F w':=h.only (Only.of_below (F:=fun _ => False) hb) (fun _ _ h => h)
theorem WrAt.lt {p:Nat} {L:List Nat} {F:Nat->Prop} {w:World} (h:WrAt p L F w) {b:Nat} (hb:F b):p<=b/\b<w.heap.size:=by
 obtain ⟨v,h1,h2,h3⟩:=h
 rcases (h3 b).1 hb with rfl | e
 ·exact ⟨Nat.le_refl _,h1.lt⟩
 ·have:=h2.lt b e;omega
def WrPost (p:Nat) (L:List Nat) (F:Nat->Prop) (w w':World):Prop:=∃ F',WrAt p L F' w'/\Only F w w'/\∀ b,F' b->F b\/w.heap.size<=b
theorem WrPost.trans {p:Nat} {L':List Nat} {F:Nat->Prop} {w w' w'':World} (h:Only F w w') {F':Nat->Prop} (hn:∀ b,F' b->F b\/w.heap.size<=b) (k:WrPost p L' F' w' w''):WrPost p L' F w w'':=by
 obtain ⟨F2,k1,k2,k3⟩:=k
 refine ⟨F2,k1,h.trans k2 (fun i hi hF => ?_),fun b hb => ?_⟩
 ·rcases hn i hF with h1 | h1
  ·exact h1
  ·omega
 ·rcases k3 b hb with h1 | h1
  ·exact hn b h1
  ·exact .inr (Nat.le_trans h.size h1)
theorem wr_push {p:Nat} {L M:List Nat} {F:Nat->Prop} {A A1 w1:World} {v v1:Value} (h1:Boxed A p 229 v) (h2:A.ownsRow (p+1) 5 1 v L.length (L.map bV)) (h3:∀ b,F b↔b=p\/v.ownBlock=some b)
  (hA:Below A.heap.size A A1) (hown:w1.ownsRow (p+1) 5 1 v1 (L.length+M.length) (L.map bV ++ M.map bV)) (hgrow:A1.grownBy w1 v.ownBlock) (hat:v1.ownBlock=v.ownBlock\/v1.ownBlock=some A1.heap.size) :
  Boxed w1 p 229 v/\WrPost p (L ++ M) F A (w1.setCell ⟨p,0,none⟩ v1):=by
 have ho:Only F A w1:=(Only.of_below hA).grown hgrow (fun k hk e => (h3 k).2 (.inr e))
 have hne:∀ b,v.ownBlock=some b->p<b:=fun b e => (h2.lt b e).1
 have hb1:Boxed w1 p 229 v:=(hgrow.block p (Nat.lt_of_lt_of_le h1.lt hA.size) (fun e => by have:=hne p e.symm;omega)).trans ((hA.block p h1.lt).trans h1)
 refine ⟨hb1,fun b => b=p\/v1.ownBlock=some b,⟨v1,hb1.set v1,?_,fun b => Iff.rfl⟩,ho.setCell (fun _ => (h3 p).2 (.inl rfl)) _,?_⟩
 ·rw [List.length_append,List.map_append]
  exact own_stay hown (fun b e => Below.heap_setCell _ _ _ _ (Nat.ne_of_gt (hown.lt b e).1))
 ·rintro b (h4 | h4)
  ·exact .inl ((h3 b).2 (.inl h4))
  ·rcases hat with h5 | h5
   ·exact .inl ((h3 b).2 (.inr (h5 ▸ h4)))
   ·have e:b=A1.heap.size:=Option.some.inj (h4.symm.trans h5)
    exact .inr (by rw [e];exact hA.size)
theorem wnew_any (w:World):Calls Tryz.prog 106 #[] w fun e w' => e = .returned (.pointer (some ⟨w.heap.size,0,none⟩))/\WrAt w.heap.size [] (fun b => b=w.heap.size) w'/\Below w.heap.size w w':=by
 have HE:Hid (WrAt w.heap.size [] (fun b => b=w.heap.size) (w.alloc (.cells #[.slice none 0 0] 229))/\Below w.heap.size w (w.alloc (.cells #[.slice none 0 0] 229))):=⟨⟨_,Boxed.new _ _ _,World.ownsRow_nil _ _ _ _,fun b => ⟨.inl,fun h => h.elim id (fun h => by cases h)⟩⟩,(Below.refl _ _).alloc (Nat.le_refl _) _⟩
 go_enter Tryz.func106,Tryz.ntmps106
 go_wp2
 go_ret
 exact ⟨rfl,HE.out⟩
theorem or_all:∀ x:Fin 256,bits .or .u8 ((x.val:Nat):Int) 128=((x.val % 128+128:Nat):Int):=by decide +kernel
theorem shr7 (y:Nat) (W:World):(binOp .shr 32 (.int .u64 (y:Int)) (.int .u64 7)).run Tryz.prog W = .ok (.int .u64 ((y / 128:Nat):Int)) W:=by
 rw [binOp_shr,shift_shr .u64 .u64 _ 7 (by omega) (by decide)]
 rfl
def NumRel (p v:Nat) (L:List Nat) (F:Nat->Prop) (w:World) (x:Value) (wr:World):Prop :=
 ∃ (n y:Nat) (dn:List Nat) (F':Nat->Prop),x = .int .u64 (y:Int)/\y<128 ^ (n+1)/\n+dn.length=9/\dn ++ sevF n y=sevens v/\WrAt p (L ++ dn) F' wr/\Only F w wr/\∀ b,F' b->F b\/w.heap.size<=b
theorem number_any {p:Nat} {L:List Nat} {F:Nat->Prop} {w:World} (h:WrAt p L F w) (v:Nat) (hv:v<18446744073709551616) (hl:L.length<=1099511627776) :
  Calls Tryz.prog 108 #[.pointer (some ⟨p,0,none⟩),.int .u64 (v:Int)] w fun e w' => e = .returned (.tuple #[])/\WrPost p (L ++ sevens v) F w w':=by
 obtain ⟨i0,hi,hz0,hz1,hz2⟩:=info_parts binfo
 have H:=zh h;have HL:=zh hl
 have HV:Hid (v<128 ^ (9+1)):=Nat.lt_of_lt_of_le hv (by decide)
 clear h hl hv
 go_enter Tryz.func108,Tryz.ntmps108
 go_wp2
 go_loopw [1] (fun x wr => NumRel p v L F w x wr) (fun x _ => (intOf x).toNat)
 case atStart => exact ⟨9,v,[],F,rfl,HV.out,rfl,rfl,by rw [List.append_nil];exact H.out,Only.refl _ _,fun b hb => .inl hb⟩
 case round =>
  obtain ⟨n,y,dn,F',rfl,hy,hn,hd,hw,ho,hf⟩:=hrel
  obtain ⟨M,hM⟩:∃ M,M=L ++ dn:=⟨_,rfl⟩
  rw [<- hM] at hw
  have hml:M.length<=1099511627776+9:=by have:=HL.out;rw [hM,List.length_append];omega
  obtain ⟨u,g1,g2,g3⟩:=hw
  obtain ⟨q,c,rfl,-⟩:=own_shape g2
  have c1:=g1.cell
  have f1:=g1.frozen
  have b0:(0:Int)<=(y:Int):=by omega
  have am1:M.length+1<=maxLen:=by unfold maxLen;omega
  have am3:(M.length+1) * 1<=140737488355328:=by omega
  by_cases hg:127<y
  ·have b1:(127:Int)<(y:Int):=by omega
   obtain ⟨m,rfl⟩:∃ m,n=m+1:=⟨n-1,by
    rcases Nat.eq_zero_or_pos n with h0 | h0
    ·subst h0;omega
    ·omega⟩
   have hor:bits .or .u8 ((y:Int) % 256) 128=((y % 128+128:Nat):Int):=by
    have h:∀ x:Fin 256,bits .or .u8 ((x.val:Nat):Int) 128=((x.val % 128+128:Nat):Int):=or_all
    have:=h ⟨y % 256,Nat.mod_lt _ (by decide)⟩
    rw [show (y % 128)=y % 256 % 128 from (Nat.mod_mod_of_dvd _ (by decide)).symm,<- this];rfl
   obtain ⟨z,hz⟩:∃ z,z=y % 128+128:=⟨_,rfl⟩
   rw [<- hz] at hor
   have hsv:sevF (m+1) y=z :: sevF m (y / 128):=by rw [hz];exact if_neg (by omega)
   have HP:Hid (∀ (v1:Value) (w1:World),w1.ownsRow (p+1) 5 1 v1 (M.length+1) (M.map bV ++ [Value.int .u8 (z:Int)])->(wr.alloc (.cells #[.int .u8 (z:Int)] 5)).grownBy w1 (Value.ownBlock (.slice q M.length c))->(v1.ownBlock=Value.ownBlock (.slice q M.length c)\/v1.ownBlock=some (wr.alloc (.cells #[.int .u8 (z:Int)] 5)).heap.size) ->
     Boxed w1 p 229 (.slice q M.length c)/\NumRel p v L F w (.int .u64 ((y / 128:Nat):Int)) (w1.setCell ⟨p,0,none⟩ v1)):=fun v1 w1 k1 k2 k3 => by
    obtain ⟨j1,F2,j2,j3,j4⟩:=wr_push (M:=[z]) g1 g2 g3 ((Below.refl _ _).alloc (Nat.le_refl _) _) k1 k2 k3
    obtain ⟨F3,t1,t2,t3⟩:=WrPost.trans ho hf ⟨F2,j2,j3,j4⟩
    refine ⟨j1,m,y / 128,dn ++ [z],F3,rfl,?_,by rw [List.length_append,List.length_singleton];omega,by rw [<- hd,hsv];simp,by rw [<- List.append_assoc,<- hM];exact t1,t2,t3⟩
    rw [Nat.pow_succ] at hy
    exact Nat.div_lt_of_lt_mul (by rw [Nat.mul_comm];exact hy)
   have HG2:Hid (wr.ownsRow (p+1) 5 1 (.slice q M.length c) M.length (M.map bV)):=g2
   have k3:p+1<=(wr.alloc (.cells #[.int .u8 (z:Int)] 5)).heap.size:=by have:=g1.lt;simp;omega
   have hyz:=shr7 y
   have HM2:Hid (y / 128<y):=by show _<_;omega
   clear hM hy hn hd ho hf g1 g2 g3 hg hz hsv hml
   go_wp2_with (at_builtin;(refine wpList_append_own_at _ rfl _ _ 130 rfl (p+1) 5 i0 (.int .u8 0) 1 1 Tryz.underlying130 hi hz0 hz1 hz2 rfl (by decide) _ _ _ rfl (HG2.out.alloc _) ⟨wr.heap.size,0,none⟩ 1 1 [.int .u8 (z:Int)] rfl rfl (World.news_of_block (Ut.alloc_at _ _)) (by intro u hu;rw [List.mem_singleton.1 hu];rfl) am1 am3 k3 ?_);(intro v1 w1 hown' hgrow hnil hat;obtain ⟨q',r',rfl,-⟩:=own_shape hown';obtain ⟨hb1,hn1⟩:=HP.out _ _ hown' hgrow hat;(have hc1':=hb1.cell);(have hf1:=hb1.frozen);(have HN:=zh hn1);clear hown' hgrow hat hn1 hb1 hnil))
   trace_state
   go_roundw
   case rel => exact HN.out
   case measure => have:=HM2.out;simp [intOf];omega
  ·have b1:(y:Int)<=127:=by omega
   have hsv:sevF n y=[y]:=by
    cases n with
    | zero => rfl
    | succ m => exact if_pos (by omega)
   have hmod:(y:Int) % 256=(y:Int):=by omega
   have HP:Hid (∀ (v1:Value) (w1:World),w1.ownsRow (p+1) 5 1 v1 (M.length+1) (M.map bV ++ [Value.int .u8 (y:Int)])->(wr.alloc (.cells #[.int .u8 (y:Int)] 5)).grownBy w1 (Value.ownBlock (.slice q M.length c))->(v1.ownBlock=Value.ownBlock (.slice q M.length c)\/v1.ownBlock=some (wr.alloc (.cells #[.int .u8 (y:Int)] 5)).heap.size) ->
     Boxed w1 p 229 (.slice q M.length c)/\WrPost p (L ++ sevens v) F w (w1.setCell ⟨p,0,none⟩ v1)):=fun v1 w1 k1 k2 k3 => by
    obtain ⟨j1,F2,j2,j3,j4⟩:=wr_push (M:=[y]) g1 g2 g3 ((Below.refl _ _).alloc (Nat.le_refl _) _) k1 k2 k3
    refine ⟨j1,?_⟩
    have:=WrPost.trans ho hf ⟨F2,j2,j3,j4⟩
    rwa [hM,List.append_assoc,<- hsv,hd] at this
   have HG2:Hid (wr.ownsRow (p+1) 5 1 (.slice q M.length c) M.length (M.map bV)):=g2
   have k3:p+1<=(wr.alloc (.cells #[.int .u8 (y:Int)] 5)).heap.size:=by have:=g1.lt;simp;omega
   clear hM hy hn hd ho hf g1 g2 g3 hg hsv hml
   go_wp2_with (at_builtin;(refine wpList_append_own_at _ rfl _ _ 130 rfl (p+1) 5 i0 (.int .u8 0) 1 1 Tryz.underlying130 hi hz0 hz1 hz2 rfl (by decide) _ _ _ rfl (HG2.out.alloc _) ⟨wr.heap.size,0,none⟩ 1 1 [.int .u8 (y:Int)] rfl rfl (World.news_of_block (Ut.alloc_at _ _)) (by intro u hu;rw [List.mem_singleton.1 hu];rfl) am1 am3 k3 ?_);(intro v1 w1 hown' hgrow hnil hat;obtain ⟨q',r',rfl,-⟩:=own_shape hown';obtain ⟨hb1,hn1⟩:=HP.out _ _ hown' hgrow hat;(have hc1':=hb1.cell);(have hf1:=hb1.frozen);(have HN:=zh hn1);clear hown' hgrow hat hn1 hb1 hnil))
   go_end0
   exact ⟨rfl,HN.out⟩
theorem strCells_bts (s:ByteArray):Lib.strCells s=(bts s).map bV:=by
 unfold Lib.strCells bts
 rw [List.map_map];rfl
theorem text_any {p:Nat} {L:List Nat} {F:Nat->Prop} {w:World} (h:WrAt p L F w) (s:ByteArray) (hs:s.size<=1099511627776) (hl:L.length<=1099511627776) :
  Calls Tryz.prog 109 #[.pointer (some ⟨p,0,none⟩),.string s] w fun e w' => e = .returned (.tuple #[])/\WrPost p (L ++ (sevens s.size ++ bts s)) F w w':=by
 obtain ⟨i0,hi,hz0,hz1,hz2⟩:=info_parts binfo
 have HN:=zh (number_any h s.size (by omega) hl)
 have HLS:Hid ((L ++ sevens s.size).length+s.size<=2199023255562):=by show _<=_;rw [List.length_append];have:=sevens_len s.size;omega
 have hwr:IntKind.u64.wrap (s.size:Int)=(s.size:Int):=by unfold IntKind.wrap;simp only [IntKind.bits,IntKind.signed];simp;omega
 clear h hl hs
 go_enter Tryz.func109,Tryz.ntmps109
 go_wp2_with fail
 refine HN.out.mono ?_
 rintro e w2 ⟨rfl,F2,hw2,ho2,hn2⟩
 obtain ⟨M,hM⟩:∃ M,M=L ++ sevens s.size:=⟨_,rfl⟩
 rw [<- hM] at hw2
 obtain ⟨u,g1,g2,g3⟩:=hw2
 obtain ⟨q,c,rfl,-⟩:=own_shape g2
 have c1:=g1.cell
 have f1:=g1.frozen
 have HLM:Hid (M.length+s.size<=2199023255562):=by show _<=_;rw [hM];exact HLS.out
 have HP:Hid (∀ (v1:Value) (w1:World),w1.ownsRow (p+1) 5 1 v1 (M.length+s.size) (M.map bV ++ Lib.strCells s)->w2.grownBy w1 (Value.ownBlock (.slice q M.length c))->(v1.ownBlock=Value.ownBlock (.slice q M.length c)\/v1.ownBlock=some w2.heap.size) ->
   Boxed w1 p 229 (.slice q M.length c)/\WrPost p (L ++ (sevens s.size ++ bts s)) F w (w1.setCell ⟨p,0,none⟩ v1)):=fun v1 w1 k1 k2 k3 => by
  rw [strCells_bts] at k1
  obtain ⟨j1,F3,j2,j3,j4⟩:=wr_push (M:=bts s) g1 g2 g3 (Below.refl _ _) (by rw [bts_len];exact k1) k2 k3
  refine ⟨j1,?_⟩
  have:=WrPost.trans ho2 hn2 ⟨F3,j2,j3,j4⟩
  rwa [hM,List.append_assoc] at this
 have HG2:Hid (w2.ownsRow (p+1) 5 1 (.slice q M.length c) M.length (M.map bV)):=g2
 have HPL:Hid (p+1<=w2.heap.size):=g1.lt
 clear hM g1 g2 g3 ho2 hn2
 go_wp2_with (at_builtin;(refine Ap.wpList_str_at _ rfl _ _ 130 9 rfl (p+1) 5 i0 Tryz.underlying130 Tryz.underlying9 hi hz0 hz1 hz2 _ _ _ rfl HG2.out s rfl (by have:=HLM.out;unfold maxLen;omega) (by have:=HLM.out;omega) HPL.out ?_);(intro v1 w1 hown' hgrow hat;obtain ⟨q',r',rfl,-⟩:=own_shape hown';obtain ⟨hb1,hn1⟩:=HP.out _ _ hown' hgrow hat;(have hc1':=hb1.cell);(have hf1:=hb1.frozen);(have HN:=zh hn1);clear hown' hgrow hat hn1 hb1))
 go_end0
 exact ⟨rfl,HN.out⟩
theorem bytes_any {p:Nat} {L:List Nat} {F:Nat->Prop} {w:World} (h:WrAt p L F w) (hl:L.length<=140737488355328) (h0:0<L.length) :
  Calls Tryz.prog 110 #[.pointer (some ⟨p,0,none⟩)] w fun e w' => ∃ v',e = .returned v'/\w'.ownsRow w.heap.size 5 1 v' L.length (L.map bV)/\v'≠.slice none 0 0/\Below w.heap.size w w':=by
 obtain ⟨u,g1,g2,g3⟩:=h
 obtain ⟨g,c,rfl,_,_,_,hg,hc⟩:=Ut.own_cells g2 h0
 have c1:=g1.cell
 have HC:=zh (Tryz.bytes_Clone_at ⟨g,0,none⟩ L.length c (L.map fun (n:Nat) => (n:Int)) w (by simp) hl (fun i hi => by
  have:=hc i hi
  rw [show (⟨g,0,none⟩:Addr).add i=⟨g,i,none⟩ by unfold Addr.add;split <;> simp_all]
  rw [this,List.getElem?_map,List.getElem?_eq_getElem hi]
  simp [List.getD_eq_getElem?_getD,hi,bV]))
 have HE:Hid ((L.map fun (n:Nat) => (n:Int)).map (Value.int .u8)=L.map bV):=by show _=_;rw [List.map_map];rfl
 obtain ⟨K,hK⟩:∃ K,K=L.length:=⟨_,rfl⟩
 rw [<- hK] at HC c1 ⊢
 have HK:=zh hK
 clear g1 g2 g3 hg hc hl h0 hK
 go_enter Tryz.func110,Tryz.ntmps110
 go_wp2_with fail
 refine HC.out.mono ?_
 rintro e w2 ⟨v',rfl,k1,k2,k3⟩
 have HQ:Hid (w2.ownsRow w.heap.size 5 1 v' K (L.map bV)/\v'≠.slice none 0 0/\Below w.heap.size w w2):=⟨by rw [<- HE.out];exact k1,k2,k3⟩
 clear k1 k2 k3
 go_wp2
 go_ret
 exact ⟨_,rfl,HQ.out⟩
end Pk
end
end Go.Proofs.YtimhglmfckfclaaGreat
