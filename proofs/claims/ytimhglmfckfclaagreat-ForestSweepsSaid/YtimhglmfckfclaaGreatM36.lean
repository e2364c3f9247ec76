/- Several texts in one: what each proves its own first comment says. -/
import Derived.Test.YtimhglmfckfclaaGreatM35
import Derived.Test.YtimhglmfckfclaaGreatM28
import Derived.Test.YtimhglmfckfclaaGreatM9
import Derived.Test.YtimhglmfckfclaaGreatM34
import Derived.BigQuiet
import Derived.Deep.QuietTactic
import Derived.Outline
import Derived.WalkLawsBesides
import Derived.WalkSpells
import Derived.Deep.MidRow
import Derived.Laws.Rows
import Derived.WalkKit
import Derived.Test.YtimhglmfckfclaaGreatProg
set_option linter.unusedVariables false
set_option linter.unusedSimpArgs false
namespace Go.Proofs.YtimhglmfckfclaaGreat
open Go.RowKit Go.Maps
namespace Fr
open Vw (Sess)
theorem IsN.deep {st:FS} {A:List Sess} (h:IsN st A):DeepOk st:=fun i b hl => by
 obtain ⟨R,G,K,pl,hw,_,_⟩:=h
 obtain ⟨h1,h2,_⟩:=(hw.co.lives_iff i b).1 hl
 exact hw.co.depth h1 h2.nf.1
theorem Wf.belOk {st:FS} {R G:List Int} {K:Int→List Int} {pl:Int→Pl} (hw:Wf st R G K pl):BelOk st.S K (fun i => thr i=true∧pl i≠.fr) (far st) where
 ring:=fun p hp => hw.sh.rK p hp.1 hp.2
 nd:=fun p _ => hw.sh.knd p
 th:=fun p hp => hp.1
 kid:=fun p x _ hx => by
  obtain ⟨h1,h2,h3⟩:=hw.far_kid hx
  exact ⟨⟨h1,h2⟩,by omega⟩
 pos:=fun p hp => hw.far_pos hp.1 hp.2
section
variable {lo:Nat} {P:Pa} {st st1 st2:FS} {nw c d:Nat} {Fe:Nat→Prop} {w w' w'':World}
theorem funder_any {A:List Sess} (h:ForAt lo P st nw Fe w) (hI:IsN st A) (us ub:Int) :
  Calls Tryz.prog 24 #[.pointer (some ⟨P.f,0,none⟩),.agg #[.int .i64 us,.int .i64 ub]] w (FUndPost (underF st us ub) w):=by
 cases hl:lives st.S us ub with
 | false => exact funder_no h us ub hl
 | true =>
  obtain ⟨R,G,K,pl,hw,hp,hm⟩:=hI
  obtain ⟨h1,h2,_⟩:=(hw.co.lives_iff us ub).1 hl
  exact funder_yes h us ub hl hw.belOk ⟨h1,h2.nf.1⟩ (by unfold far;have:=(hw.co.depth h1 h2.nf.1).1;have:0≤(sl st.S us).s.depth:=this;omega)
end
end Fr
end Go.Proofs.YtimhglmfckfclaaGreat
namespace Go.Proofs.YtimhglmfckfclaaGreat
open Go.RowKit Go.Maps
namespace Fr
open Vw (Sess)
def Kn.cells (k:Kn):List Value:=[.int .i64 k.slot,.int .i64 k.birth,.int .i64 k.up,.int .i64 k.til,.bool k.ended]
def allK (l:List Kn):List Value:=l.flatMap Kn.cells
theorem allK_snoc (l:List Kn) (k:Kn):allK (l ++ [k])=allK l ++ k.cells:=by simp [allK,List.flatMap_append]
theorem allK_cell {l:List Kn} {k i:Nat} (h:k<l.length) (hi:i<5):(allK l)[k * 5+i]? = l[k].cells[i]?:=by
 induction l generalizing k with
 | nil => simp at h
 | cons s r ih =>
  unfold allK
  rw [List.flatMap_cons]
  have hc:s.cells.length=5:=rfl
  cases k with
  | zero => rw [List.getElem?_append_left (by omega)];simp
  | succ k =>
   rw [List.getElem?_append_right (by rw [hc];omega),hc,show (k+1) * 5+i-5=k * 5+i by omega]
   exact ih (by simpa using h)
theorem kn_one (k:Kn):∀ u ∈ k.cells,u.oneCell'=true:=by
 intro u hu
 simp only [Kn.cells,List.mem_cons,List.not_mem_nil,or_false] at hu
 rcases hu with rfl | rfl | rfl | rfl | rfl <;> rfl
def KIn (W:World) (v:Value) (l:List Kn):Prop :=
 ∃ p cap,v = .slice p l.length cap∧∀ j:Nat,j<l.length→∃ g o,p=some ⟨g,o,none⟩∧g<W.heap.size∧W.rangeAt g (o+j * 5) (kat l j).cells
theorem KIn.below {w w':World} {v:Value} {l:List Kn} (h:KIn w v l) (hb:Below w.heap.size w w'):KIn w' v l:=by
 obtain ⟨p,cap,rfl,h⟩:=h
 refine ⟨p,cap,rfl,fun j hj => ?_⟩
 obtain ⟨g,o,h1,h2,h3⟩:=h j hj
 exact ⟨g,o,h1,Nat.lt_of_lt_of_le h2 hb.size,fun i u hi => (hb.cell (p:=⟨g,o+j * 5+i,none⟩) h2).trans (h3 i u hi)⟩
theorem KIn.at {w:World} {p:Option Addr} {c n:Nat} {l:List Kn} (h:KIn w (.slice p n c) l) {j:Nat} (hj:j<l.length):∃ g o,p=some ⟨g,o,none⟩∧g<w.heap.size ∧
  w.cell? ⟨g,o+j * 5,none⟩=some (.int .i64 (kat l j).slot)∧w.cell? ⟨g,o+j * 5+1,none⟩=some (.int .i64 (kat l j).birth)∧w.cell? ⟨g,o+j * 5+2,none⟩=some (.int .i64 (kat l j).up)∧w.cell? ⟨g,o+j * 5+3,none⟩=some (.int .i64 (kat l j).til)∧w.cell? ⟨g,o+j * 5+4,none⟩=some (.bool (kat l j).ended):=by
 obtain ⟨p',c',e,h⟩:=h
 cases e
 obtain ⟨g,o,h1,h2,h3⟩:=h j hj
 exact ⟨g,o,h1,h2,h3 0 _ rfl,h3 1 _ rfl,h3 2 _ rfl,h3 3 _ rfl,h3 4 _ rfl⟩
theorem kIn_own {w:World} {base:Nat} {v:Value} {l:List Kn} (h:w.ownsRow base 31 5 v l.length (allK l)):KIn w v l:=by
 obtain ⟨q,cap,rfl,-⟩:=own_shape h
 refine ⟨q,cap,rfl,fun j hj => ?_⟩
 rcases h.2 with ⟨h1,h2⟩ | ⟨g,c,cur,h1,h2,h3,h4,h5,h6,h7⟩
 ·omega
 ·injection h1 with e1 e2 e3
  subst e1 e3
  refine ⟨g,0,rfl,(Array.getElem?_eq_some_iff.1 h3).1,fun i u hi => ?_⟩
  have hi2:i<5:=(List.getElem?_eq_some_iff.1 hi).1
  rw [Nat.zero_add,World.ownsRow.cellAt (w:=w) h (j * 5+i) (by omega),allK_cell hj hi2,← kat_lt hj]
  exact hi
set_option maxRecDepth 100000 in
set_option maxHeartbeats 2000000 in
theorem llives_any (l:List Kn) (hU:UpK l) (hlen:l.length≤1000) (v:Value) (i:Nat) (hi:i<l.length) (now:Int) (w:World) (h:KIn w v l) :
  Calls Tryz.prog 19 #[v,.int .i64 i,.int .i64 now] w fun e w' => e = .returned (.bool (liveK l i now))∧Below w.heap.size w w':=by
 obtain ⟨p,c,rfl,-⟩:=id h
 obtain ⟨R,hR⟩:∃ R,R=liveK l i now:=⟨_,rfl⟩
 rw [← hR]
 have HR:Hid (R=liveN l now (l.length+1) i):=hR
 have H:=Lib.hid h;have HU:=Lib.hid hU;have HI:=Lib.hid hi
 clear h hU hR hi
 go_enter Tryz.func19,Tryz.ntmps19
 go_wp2
 go_loopw [1,7] (fun a b wr => ∃ n j:Nat,n≤l.length+1∧j<l.length∧a = .int .i64 j∧b = .int .i64 n∧R=liveN l now (l.length+1-n) j∧Below w.heap.size w wr) (fun _ b _ => l.length+1-(intOf b).toNat)
 case atStart => exact ⟨0,i,Nat.zero_le _,HI.out,rfl,rfl,HR.out,Below.refl _ _⟩
 case round =>
  obtain ⟨n,j,hn,hj,rfl,rfl,he,hb⟩:=hrel
  have b0:(0:Int)≤(n:Int):=by omega
  have b2:(0:Int)≤(j:Int):=by omega
  have b3:(j:Int)<(l.length:Int):=by omega
  by_cases hc:n≤l.length
  ·have b1:(n:Int)≤(l.length:Int):=by omega
   obtain ⟨g,o,rfl,hg,x0,x1,x2,x3,x4⟩:=(H.out.below hb).at hj
   have he2:R=if (kat l j).ended=true∨(kat l j).til≤now then false else if (kat l j).up<0 then true else liveN l now (l.length+1-(n+1)) (kat l j).up:=by
    rw [he,show l.length+1-n=(l.length+1-(n+1))+1 by omega];rfl
   have hup:=(HU.out j hj).1
   obtain ⟨en,hen⟩:∃ en,en=(kat l j).ended:=⟨_,rfl⟩
   obtain ⟨tl,htl⟩:∃ tl,tl=(kat l j).til:=⟨_,rfl⟩
   obtain ⟨up,hupp⟩:∃ up,up=(kat l j).up:=⟨_,rfl⟩
   rw [← hen,← htl,← hupp] at he2
   rw [← hen] at x4;rw [← htl] at x3;rw [← hupp] at x2 hup
   have HE2:=Lib.hid he2;have HB:=Lib.hid hb;have HJ:=Lib.hid hj;have HN:=Lib.hid hc
   clear he he2 hb hj hg x0 x1 hen htl hupp hc hn
   cases en with
   | true =>
    have HQ:Hid (R=false):=HE2.out.trans (if_pos (.inl rfl))
    clear HE2
    go_wp2
    go_ret
    exact ⟨by rw [HQ.out];rfl,HB.out⟩
   | false =>
    by_cases ht:tl≤now
    ·have HQ:Hid (R=false):=HE2.out.trans (if_pos (.inr ht))
     clear HE2
     go_wp2
     go_ret
     exact ⟨by rw [HQ.out];rfl,HB.out⟩
    ·have ht2:now<tl:=by omega
     have ht3:decide (tl≤now)=false:=decide_eq_false ht
     have HE3:Hid (R=if up<0 then true else liveN l now (l.length+1-(n+1)) up):=HE2.out.trans (if_neg (by rintro (h | h);cases h;exact ht h))
     clear HE2 ht
     by_cases hz:up<0
     ·have HQ:Hid (R=true):=HE3.out.trans (if_pos hz)
      clear HE3
      go_wp2
      go_ret
      exact ⟨by rw [HQ.out];rfl,HB.out⟩
     ·have HQ:Hid (R=liveN l now (l.length+1-(n+1)) up):=HE3.out.trans (if_neg hz)
      have hz2:decide (up<0)=false:=decide_eq_false hz
      have hz3:0≤up:=by omega
      obtain ⟨u,hu⟩:∃ u:Nat,up=u:=⟨up.toNat,by omega⟩
      subst hu
      have hul:u<l.length:=by have:=HJ.out;omega
      have HUL:=Lib.hid hul
      clear HE3 hz hul
      go_wp2
      go_roundw
      case rel => exact ⟨n+1,u,by have:=HN.out;omega,HUL.out,rfl,by go_num,HQ.out,HB.out⟩
      case measure => have:=HN.out;simp [intOf];omega
  ·have b1:(l.length:Int)<(n:Int):=by omega
   have hd:decide ((n:Int)≤(l.length:Int))=false:=decide_eq_false (by omega)
   have HQ:Hid (R=false):=by
    show R=false
    rw [he,show l.length+1-n=0 by omega];rfl
   have HB:=Lib.hid hb
   clear he hb hc hn
   go_wp2
   go_ret
   exact ⟨by rw [HQ.out];rfl,HB.out⟩
set_option maxRecDepth 100000 in
set_option maxHeartbeats 2000000 in
theorem lcount_any (l:List Kn) (hU:UpK l) (hlen:l.length≤1000) (v:Value) (now:Int) (w:World) (h:KIn w v l) :
  Calls Tryz.prog 15 #[v,.int .i64 now] w fun e w' => e = .returned (.int .i64 (countK l now))∧Below w.heap.size w w':=by
 obtain ⟨p,c,rfl,-⟩:=id h
 have HL:=Lib.hid (fun (i:Nat) (hi:i<l.length) (w':World) (hb:Below w.heap.size w w') => llives_any l hU hlen (.slice p l.length c) i hi now w' (h.below hb))
 clear h hU
 go_enter Tryz.func15,Tryz.ntmps15
 go_wp2
 go_loopw [5,6] (fun a b wr => ∃ m n:Nat,n≤l.length∧m≤n∧a = .int .i64 m∧b = .int .i64 n∧m=((List.range n).filter fun i:Nat => liveK l i now).length∧Below w.heap.size w wr) (fun _ b _ => l.length-(intOf b).toNat)
 case atStart => exact ⟨0,0,Nat.zero_le _,Nat.le_refl _,rfl,rfl,rfl,Below.refl _ _⟩
 case round =>
  obtain ⟨m,n,hn,hm,rfl,rfl,he,hb⟩:=hrel
  have b0:(0:Int)≤(n:Int):=by omega
  have b2:(0:Int)≤(m:Int):=by omega
  have b3:(m:Int)≤1000:=by omega
  have b4:(n:Int)≤1000:=by omega
  by_cases hc:n<l.length
  ·have b1:(n:Int)<(l.length:Int):=by omega
   have HC:=Lib.hid (HL.out n hc wr hb)
   obtain ⟨q,hq⟩:∃ q,q=liveK l n now:=⟨_,rfl⟩
   rw [← hq] at HC
   have HE:Hid (((List.range (n+1)).filter fun i:Nat => liveK l i now).length=m+if q then 1 else 0):=by
    show List.length _=_
    rw [List.range_succ,List.filter_append,List.length_append,← he,hq]
    cases hx:liveK l n now <;> simp [hx]
   have HB:=Lib.hid hb;have HN:=Lib.hid hc;have HM:=Lib.hid hm
   clear he hb hc hn hq hm
   go_wp2_with fail
   refine HC.out.mono ?_
   rintro e w2 ⟨rfl,hb2⟩
   have HB2:Hid (Below w.heap.size w w2):=HB.out.trans (hb2.mono HB.out.size)
   clear hb2
   cases q with
   | true =>
    go_wp2
    go_roundw
    case rel => have:=HM.out;exact ⟨m+1,n+1,by have:=HN.out;omega,by omega,by go_num,by go_num,by rw [HE.out];rfl,HB2.out⟩
    case measure => have:=HN.out;simp [intOf];omega
   | false =>
    go_wp2
    go_roundw
    case rel => have:=HM.out;exact ⟨m,n+1,by have:=HN.out;omega,by omega,rfl,by go_num,by rw [HE.out];rfl,HB2.out⟩
    case measure => have:=HN.out;simp [intOf];omega
  ·have b1:(l.length:Int)≤(n:Int):=by omega
   have e:n=l.length:=by omega
   have HQ:Hid (m=countK l now):=by show m=_;rw [he,e];rfl
   have HB:=Lib.hid hb
   clear he hb hc hn hm e
   go_wp2
   go_ret
   exact ⟨by rw [HQ.out];rfl,HB.out⟩
end Fr
end Go.Proofs.YtimhglmfckfclaaGreat
namespace Go.Proofs.YtimhglmfckfclaaGreat
open Go.RowKit
namespace Gd
theorem wpList_wanted {P:Program} {ops:Array Oper} {rest:List Oper} {o:Oper} {a:Act} {w:World} {Q:Exit→Act→World→Prop} (hw:Region.wanted o (yielded ops a.tmps)=true)
  (h:∀ K:Act→World→Prop,(∀ a w,wpList P ops Q rest a w→K a w)→o.wp P a w K Q):wpList P ops Q (o :: rest) a w :=
 wpList_step fun K hK => by rw [if_pos hw];exact h K hK
theorem load_row {P:Program} {ops:Array Oper} {rest:List Oper} {o:Oper} {a:Act} {w:World} {Q:Exit→Act→World→Prop} (hw:Region.wanted o (yielded ops a.tmps)=true) (ty:TypeId) (x:Operand) (ho:o.op = .load ty x)
  (b:Nat) (hx:a.eval x = .pointer (some ⟨b,0,none⟩)) (ty':TypeId) (cells:Array Value) (fr:Nat × Nat) (d:TypeDesc) (hb:w.heap[b]? = some (.cells cells ty' fr)) (hu:P.underlying ty=some d) (hd:d.isRow=true) (hi:(P.info? ty).map (·.size)=some cells.size)
  (h:wpList P ops Q rest (a.put o.dst (.agg cells)) w):wpList P ops Q (o :: rest) a w:=by
 have hr:w.rangeAt b 0 cells.toList:=fun j v hj => by
  rw [cell_of_row _ _ _ _ _ _ hb,Nat.zero_add];simpa using hj
 exact wpList_wanted hw fun _ hK => wp_load_mid ty x ho b 0 hx cells.toList d hr hu hd (by simpa using hi) (by simpa using hK _ _ h)
end Gd
end Go.Proofs.YtimhglmfckfclaaGreat
