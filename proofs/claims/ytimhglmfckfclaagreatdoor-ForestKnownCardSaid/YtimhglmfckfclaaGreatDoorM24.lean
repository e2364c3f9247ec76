/- Parts of the proof. -/
import Derived.Test.YtimhglmfckfclaaGreatDoorM23
import Derived.BigRegion
set_option linter.unusedVariables false
set_option linter.unusedSimpArgs false
set_option maxRecDepth 100000
set_option maxHeartbeats 16000000
namespace Go.Proofs.YtimhglmfckfclaaGreatDoor
section
open Go.RowKit Go.Maps
namespace Fr
open Vw (Sess)
theorem steps_any (w:World):Calls Tryz.prog 280 #[] w fun e w' => e = .returned (.agg #[.int .i64 0,.int .i64 1,.int .i64 0,.int .i64 2,.int .i64 1,.int .i64 2])/\Below w.heap.size w w':=by
 have HE:Hid ((w.alloc (.cells #[.int .i64 0,.int .i64 1,.int .i64 0,.int .i64 2,.int .i64 1,.int .i64 2] 381)).heap[w.heap.size]? = some (.cells #[.int .i64 0,.int .i64 1,.int .i64 0,.int .i64 2,.int .i64 1,.int .i64 2] 381 (0,0))/\Below w.heap.size w (w.alloc (.cells #[.int .i64 0,.int .i64 1,.int .i64 0,.int .i64 2,.int .i64 1,.int .i64 2] 381))):=⟨World.alloc_heap_new _ _,(Below.refl _ _).alloc (Nat.le_refl _) _⟩
 go_enter Tryz.func280,Tryz.ntmps280
 go_wp2
 refine bodyPost_ret (results_cell_row rfl _ _ w.heap.size _ #[.int .i64 0,.int .i64 1,.int .i64 0,.int .i64 2,.int .i64 1,.int .i64 2] (0,0) _ rfl HE.out.1 Tryz.underlying381 rfl (by kernel_rfl)) rfl ?_
 exact ⟨rfl,HE.out.2⟩
theorem step_ne {x y a c:Int} (h:¬ (a=x/\c=y)) (w:World):(binOp .eql 380 (.agg #[.int .i64 x,.int .i64 y]) (.agg #[.int .i64 a,.int .i64 c])).run Tryz.prog w = .ok (.bool false) w:=by
 by_cases h1:x=a
 ·have h2:¬ y=c:=fun e => h ⟨h1.symm,e.symm⟩
  clear h
  go_simp
 ·clear h
  go_simp
def RaiseRel (a c:Int) (w:World) (z:Int) (wr:World):Prop:=(z=0\/(z=1/\¬ (a=0/\c=1))\/(z=2/\¬ (a=0/\c=1)/\¬ (a=0/\c=2))\/(z=3/\¬ (a=0/\c=1)/\¬ (a=0/\c=2)/\¬ (a=1/\c=2)))/\Below w.heap.size w wr
theorem raise_one (a c:Int) (w:World):Calls Tryz.prog 264 #[.int .i64 a,.int .i64 c,.int .i64 1] w fun e w' => e = .returned (erV (if canRaise a c then 0 else 13))/\Below w.heap.size w w':=by
 obtain ⟨ev,hev⟩:∃ ev,ev=erV (if canRaise a c then 0 else 13):=⟨_,rfl⟩
 rw [<- hev]
 have HEV:=zh hev
 clear hev
 have HS:=zh (fun w => steps_any w)
 have x0:∀ w:World,(Instr.index 381 (.agg #[.int .i64 0,.int .i64 1,.int .i64 0,.int .i64 2,.int .i64 1,.int .i64 2]) (.int .i64 0)).run Tryz.prog w = .ok (.agg #[.int .i64 0,.int .i64 1]) w:=fun _ => by kernel_rfl
 have x1:∀ w:World,(Instr.index 381 (.agg #[.int .i64 0,.int .i64 1,.int .i64 0,.int .i64 2,.int .i64 1,.int .i64 2]) (.int .i64 1)).run Tryz.prog w = .ok (.agg #[.int .i64 0,.int .i64 2]) w:=fun _ => by kernel_rfl
 have x2:∀ w:World,(Instr.index 381 (.agg #[.int .i64 0,.int .i64 1,.int .i64 0,.int .i64 2,.int .i64 1,.int .i64 2]) (.int .i64 2)).run Tryz.prog w = .ok (.agg #[.int .i64 1,.int .i64 2]) w:=fun _ => by kernel_rfl
 go_enter Tryz.func264,Tryz.ntmps264
 go_wp2_with fail
 refine (HS.out _).mono ?_
 rintro e w1 ⟨rfl,hb1⟩
 have HB1:=zh hb1
 clear hb1
 go_wp2
 go_loopw [10] (fun i wr => ∃ z:Int,i = .int .i64 z/\RaiseRel a c w z wr) (fun i _ => 3-(intOf i).toNat)
 case atStart => exact ⟨0,rfl,.inl rfl,HB1.out⟩
 case round =>
  obtain ⟨z,rfl,hz,hb⟩:=hrel
  have HB:=zh hb
  clear hb
  rcases hz with rfl | ⟨rfl,n1⟩ | ⟨rfl,n1,n2⟩ | ⟨rfl,n1,n2,n3⟩
  ·by_cases he:a=0/\c=1
   ·obtain ⟨rfl,rfl⟩:=he
    have HE:Hid (Below w.heap.size w (wr.alloc (.cells #[.int .i64 0,.int .i64 1] 380))):=HB.out.alloc HB.out.size _
    go_wp2
    go_ret
    exact ⟨by rw [HEV.out];rfl,HE.out⟩
   ·have hne:=step_ne he
    have HE:Hid (Below w.heap.size w (wr.alloc (.cells #[.int .i64 0,.int .i64 1] 380))):=HB.out.alloc HB.out.size _
    have HN:=zh he
    clear he
    go_wp2
    go_roundw
    case rel => exact ⟨1,by simp,.inr (.inl ⟨rfl,HN.out⟩),HE.out⟩
    case measure => simp [intOf]
  ·have N1:=zh n1
   clear n1
   by_cases he:a=0/\c=2
   ·obtain ⟨rfl,rfl⟩:=he
    have HE:Hid (Below w.heap.size w (wr.alloc (.cells #[.int .i64 0,.int .i64 2] 380))):=HB.out.alloc HB.out.size _
    go_wp2
    go_ret
    exact ⟨by rw [HEV.out];rfl,HE.out⟩
   ·have hne:=step_ne he
    have HE:Hid (Below w.heap.size w (wr.alloc (.cells #[.int .i64 0,.int .i64 2] 380))):=HB.out.alloc HB.out.size _
    have HN:=zh he
    clear he
    go_wp2
    go_roundw
    case rel => exact ⟨2,by simp,.inr (.inr (.inl ⟨rfl,N1.out,HN.out⟩)),HE.out⟩
    case measure => simp [intOf]
  ·have N1:=zh n1
   have N2:=zh n2
   clear n1 n2
   by_cases he:a=1/\c=2
   ·obtain ⟨rfl,rfl⟩:=he
    have HE:Hid (Below w.heap.size w (wr.alloc (.cells #[.int .i64 1,.int .i64 2] 380))):=HB.out.alloc HB.out.size _
    go_wp2
    go_ret
    exact ⟨by rw [HEV.out];rfl,HE.out⟩
   ·have hne:=step_ne he
    have HE:Hid (Below w.heap.size w (wr.alloc (.cells #[.int .i64 1,.int .i64 2] 380))):=HB.out.alloc HB.out.size _
    have HN:=zh he
    clear he
    go_wp2
    go_roundw
    case rel => exact ⟨3,by simp,.inr (.inr (.inr ⟨rfl,N1.out,N2.out,HN.out⟩)),HE.out⟩
    case measure => simp [intOf]
  ·have hc:canRaise a c=false:=by unfold canRaise;simp [n1,n2,n3]
   have HE:=zh hc
   clear n1 n2 n3 hc
   go_wp2
   go_ret
   exact ⟨by rw [HEV.out,HE.out];rfl,HB.out⟩
theorem noRaise_any {x:Nat} {b:Bth} {w:World} (h:BthAt x b w):Calls Tryz.prog 223 #[.pointer (some ⟨x,0,none⟩)] w fun e w' => e = .returned (.bool (Rul.broken b .noRaise))/\Below w.heap.size w w':=by
 have HS:Hid (∀ W',Below w.heap.size w W'->W'.cell? ⟨x,8,none⟩=some (.int .i64 b.p.level)/\W'.cell? ⟨x,15,none⟩=some (.int .i64 b.r.level)):=fun W' hb => ⟨(h.below hb).cell 8,(h.below hb).cell 15⟩
 have HW:Hid (∀ W,Calls Tryz.prog 264 #[.int .i64 b.p.level,.int .i64 b.r.level,.int .i64 1] W fun e w' => e = .returned (erV (if canRaise b.p.level b.r.level then 0 else 13))/\Below W.heap.size W w'):=fun W => raise_one b.p.level b.r.level W
 clear h
 have HE:Hid (Rul.broken b .noRaise = !canRaise b.p.level b.r.level):=rfl
 rw [HE.out]
 cases hc:canRaise b.p.level b.r.level with
 | true =>
  rw [hc] at HW
  replace HW:Hid (∀ W,Calls Tryz.prog 264 #[.int .i64 b.p.level,.int .i64 b.r.level,.int .i64 1] W fun e w' => e = .returned (.nilIface)/\Below W.heap.size W w'):=HW.out
  clear hc
  go_enter Tryz.func223,Tryz.ntmps223
  go_wp2_with fail
  have hb0:Below w.heap.size w w.drew:=(Below.refl _ _).drew
  refine wp_region_held_drew (S:=fun W' => W'.cell? ⟨x,8,none⟩=some (.int .i64 b.p.level)/\W'.cell? ⟨x,15,none⟩=some (.int .i64 b.r.level)) (by kernel_rfl) (HS.out _ hb0) (fun _ => ?_)
  refine tq 0 rfl (.pointer (some ⟨x,0,none⟩)) (HS.out _ hb0) ?_
  try simp only [zq]
  refine tq 1 rfl (.pointer (some ⟨x,0,none⟩)) (HS.out _ hb0) ?_
  try simp only [zq]
  refine tq 2 rfl (.pointer (some ⟨x,0,none⟩)) (HS.out _ hb0) ?_
  try simp only [zq]
  refine tq 3 rfl (.pointer (some ⟨x,8,none⟩)) (HS.out _ hb0) ?_
  try simp only [zq]
  refine tq 4 rfl (.int .i64 b.p.level) (HS.out _ hb0) ?_
  try simp only [zq]
  refine tq 5 rfl (.pointer (some ⟨x,0,none⟩)) (HS.out _ hb0) ?_
  try simp only [zq]
  refine tq 6 rfl (.pointer (some ⟨x,0,none⟩)) (HS.out _ hb0) ?_
  try simp only [zq]
  refine tq 7 rfl (.pointer (some ⟨x,12,none⟩)) (HS.out _ hb0) ?_
  try simp only [zq]
  refine tq 8 rfl (.pointer (some ⟨x,15,none⟩)) (HS.out _ hb0) ?_
  try simp only [zq]
  refine tq 9 rfl (.int .i64 b.r.level) (HS.out _ hb0) ?_
  try simp only [zq]
  refine zr 10 rfl (fun K hK => ?_)
  go_simp
  refine (HW.out _).mono ?_
  rintro e w3 ⟨rfl,hb3⟩
  replace hb0:=hb0.trans (hb3.mono hb0.size)
  clear hb3
  refine hK.out _ _ (HS.out _ hb0) (fun _ => ?_)
  clear hK K
  try simp only [zq]
  refine tq 11 rfl (.bool false) (HS.out _ hb0) ?_
  try simp only [zq]
  refine tq 12 rfl (.bool false) (HS.out _ hb0) ?_
  try simp only [zq]
  refine wpAnyH_done (by kernel_rfl) ?_ _
  try simp only [zq]
  go_wp2
  go_ret
  exact ⟨rfl,hb0⟩
 | false =>
  rw [hc] at HW
  replace HW:Hid (∀ W,Calls Tryz.prog 264 #[.int .i64 b.p.level,.int .i64 b.r.level,.int .i64 1] W fun e w' => e = .returned (.iface 101 (.int .i64 13))/\Below W.heap.size W w'):=HW.out
  clear hc
  go_enter Tryz.func223,Tryz.ntmps223
  go_wp2_with fail
  have hb0:Below w.heap.size w w.drew:=(Below.refl _ _).drew
  refine wp_region_held_drew (S:=fun W' => W'.cell? ⟨x,8,none⟩=some (.int .i64 b.p.level)/\W'.cell? ⟨x,15,none⟩=some (.int .i64 b.r.level)) (by kernel_rfl) (HS.out _ hb0) (fun _ => ?_)
  refine tq 0 rfl (.pointer (some ⟨x,0,none⟩)) (HS.out _ hb0) ?_
  try simp only [zq]
  refine tq 1 rfl (.pointer (some ⟨x,0,none⟩)) (HS.out _ hb0) ?_
  try simp only [zq]
  refine tq 2 rfl (.pointer (some ⟨x,0,none⟩)) (HS.out _ hb0) ?_
  try simp only [zq]
  refine tq 3 rfl (.pointer (some ⟨x,8,none⟩)) (HS.out _ hb0) ?_
  try simp only [zq]
  refine tq 4 rfl (.int .i64 b.p.level) (HS.out _ hb0) ?_
  try simp only [zq]
  refine tq 5 rfl (.pointer (some ⟨x,0,none⟩)) (HS.out _ hb0) ?_
  try simp only [zq]
  refine tq 6 rfl (.pointer (some ⟨x,0,none⟩)) (HS.out _ hb0) ?_
  try simp only [zq]
  refine tq 7 rfl (.pointer (some ⟨x,12,none⟩)) (HS.out _ hb0) ?_
  try simp only [zq]
  refine tq 8 rfl (.pointer (some ⟨x,15,none⟩)) (HS.out _ hb0) ?_
  try simp only [zq]
  refine tq 9 rfl (.int .i64 b.r.level) (HS.out _ hb0) ?_
  try simp only [zq]
  refine zr 10 rfl (fun K hK => ?_)
  go_simp
  refine (HW.out _).mono ?_
  rintro e w3 ⟨rfl,hb3⟩
  replace hb0:=hb0.trans (hb3.mono hb0.size)
  clear hb3
  refine hK.out _ _ (HS.out _ hb0) (fun _ => ?_)
  clear hK K
  try simp only [zq]
  refine tq 11 rfl (.bool true) (HS.out _ hb0) ?_
  try simp only [zq]
  refine tq 12 rfl (.bool true) (HS.out _ hb0) ?_
  try simp only [zq]
  refine wpAnyH_done (by kernel_rfl) ?_ _
  try simp only [zq]
  go_wp2
  go_ret
  exact ⟨rfl,hb0⟩
end Fr
end
section
open Go.RowKit Go.Maps
namespace Fr
open Vw (Sess)
theorem rule_any {x:Nat} {b:Bth} {w:World} (h:BthAt x b w) (h1:b.r.user.size<=9223372036854775807) (h2:b.r.label.size<=9223372036854775807) (r:Rul) :
  Calls Tryz.prog r.fn #[.pointer (some ⟨x,0,none⟩)] w fun e w' => e = .returned (.bool (r.broken b))/\Below w.heap.size w w':=by
 cases r with
 | noUser => exact noUser_any h h1
 | noLabel => exact noLabel_any h h2
 | noLevel => exact noLevel_any h
 | noTime => exact noTime_any h
 | tooLong => exact tooLong_any h
 | tooDeep => exact tooDeep_any h
 | tooWide => exact tooWide_any h
 | noRaise => exact noRaise_any h
 | noBirths => exact noBirths_any h
 | noRoom => exact noRoom_any h
def rulCells (rs:List (Int × Rul)):List Value:=rs.flatMap fun p => [.int .i64 p.1,.func (.func p.2.fn) #[] #[]]
theorem rulCells_at:∀ (rs:List (Int × Rul)) {k:Nat} (hk:k<rs.length),(rulCells rs)[k * 2]? = some (.int .i64 rs[k].1)/\(rulCells rs)[k * 2+1]? = some (.func (.func rs[k].2.fn) #[] #[])
 | [],k,hk => absurd hk (Nat.not_lt_zero _)
 | p :: r,0,_ => ⟨rfl,rfl⟩
 | p :: r,k+1,hk => by
  have:=rulCells_at r (k:=k) (by simpa using hk)
  rw [show (k+1) * 2=k * 2+2 by omega]
  exact this
def firstNo (b:Bth):List (Int × Rul)->Int
 | [] => 0
 | p :: r => if p.2.broken b then p.1 else firstNo b r
theorem firstNo_drop (b:Bth):∀ (rs:List (Int × Rul)) (k:Nat),(∀ p ∈ rs.take k,p.2.broken b=false)->firstNo b rs=firstNo b (rs.drop k)
 | [],k,_ => by simp
 | p :: r,0,_ => rfl
 | p :: r,k+1,h => by
  have h1:p.2.broken b=false:=h p (by simp)
  rw [List.drop_succ_cons,<- firstNo_drop b r k (fun q hq => h q (by simp [hq]))]
  show (if _ then _ else _)=_
  rw [h1];rfl
theorem first_any {x:Nat} {b:Bth} {w:World} (h:BthAt x b w) (h1:b.r.user.size<=9223372036854775807) (h2:b.r.label.size<=9223372036854775807) (rs:List (Int × Rul)) (hl:rs.length<=10) (hn:∀ p ∈ rs,p.1≠0) (g:Nat) (ty:TypeId)
  (hg:w.heap[g]? = some (.cells (rulCells rs).toArray ty (0,0))) :
  Calls Tryz.prog 212 #[.pointer (some ⟨x,0,none⟩),.slice (some ⟨g,0,none⟩) rs.length rs.length] w fun e w' => e = .returned (erV (firstNo b rs))/\Below w.heap.size w w':=by
 have HR:Hid (∀ (r:Rul) W,Below w.heap.size w W->Calls Tryz.prog r.fn #[.pointer (some ⟨x,0,none⟩)] W fun e w' => e = .returned (.bool (r.broken b))/\Below W.heap.size W w'):=fun r W hb => rule_any (h.below hb) h1 h2 r
 obtain ⟨ev,hev⟩:∃ ev,ev=erV (firstNo b rs):=⟨_,rfl⟩
 rw [<- hev]
 have HEV:=zh hev;have HG:=zh hg;have HL:=zh hl;have HN:=zh hn
 have hgl:g<w.heap.size:=(zx hg)
 have HGL:=zh hgl
 clear h h1 h2 hev hg hl hn hgl
 go_enter Tryz.func212,Tryz.ntmps212
 go_wp2
 go_loopw [9] (fun i wr => ∃ k:Nat,k<=rs.length/\i = .int .i64 (k:Int)/\(∀ p ∈ rs.take k,p.2.broken b=false)/\Below w.heap.size w wr) (fun i _ => rs.length-(intOf i).toNat)
 case atStart => exact ⟨0,Nat.zero_le _,rfl,by simp,Below.refl _ _⟩
 case round =>
  obtain ⟨k,hk,rfl,hq,hb⟩:=hrel
  have HB:=zh hb;have HQ:=zh hq
  have hk10:k<=10:=Nat.le_trans hk HL.out
  have b0:(0:Int)<=(k:Int):=by omega
  by_cases hlt:k<rs.length
  ·have b1:(k:Int)<(rs.length:Int):=by omega
   have hrow:=(hb.block g HGL.out).trans HG.out
   obtain ⟨e1,e2⟩:=rulCells_at rs hlt
   have c1:wr.cell? ⟨g,k * 2,none⟩=some (.int .i64 rs[k].1):=by rw [zc hrow,List.getElem?_toArray];exact e1
   have c2:wr.cell? ⟨g,k * 2+1,none⟩=some (.func (.func rs[k].2.fn) #[] #[]):=by rw [zc hrow,List.getElem?_toArray];exact e2
   obtain ⟨no,r,hp⟩:∃ no r,rs[k]=(no,r):=⟨_,_,rfl⟩
   rw [hp] at c1 c2
   obtain ⟨bk,hbk⟩:∃ bk,bk=r.broken b:=⟨_,rfl⟩
   have HF:Hid (∀ W,Below w.heap.size w W->Calls Tryz.prog r.fn #[.pointer (some ⟨x,0,none⟩)] W fun e w' => e = .returned (.bool bk)/\Below W.heap.size W w'):=by rw [hbk];exact fun W hb => HR.out r W hb
   have HP:Hid (rs[k]? = some (no,r)):=by show _=_;rw [List.getElem?_eq_getElem hlt,hp]
   have HLT:=zh hlt
   have HB2:Hid (Below w.heap.size w (wr.alloc (.cells #[.int .i64 no,.func (.func r.fn) #[] #[]] 328))):=hb.alloc hb.size _
   have HNO:Hid (no≠0):=HN.out (no,r) (List.mem_of_getElem? HP.out)
   have HBK:=zh hbk
   have HD:Hid (firstNo b rs=if bk then no else firstNo b (rs.drop (k+1))):=by
    show _=_
    rw [firstNo_drop b rs k HQ.out,List.drop_eq_getElem_cons hlt,hp,hbk];rfl
   have HQ2:Hid (bk=false->∀ p ∈ rs.take (k+1),p.2.broken b=false):=fun e p hm => by
    rw [List.take_add_one,HP.out] at hm
    rcases List.mem_append.1 hm with hm | hm
    ·exact HQ.out p hm
    ·rw [Option.toList_some,List.mem_singleton] at hm
     rw [hm];exact hbk.symm.trans e
   clear hrow e1 e2 hp hq hb hk hlt hbk
   cases r <;> (
    simp only [Rul.fn] at c2
    go_wp2_with fail
    refine (HF.out _ HB2.out).mono ?_
    rintro e w2 ⟨rfl,hb2⟩
    have c3:w2.cell? ⟨wr.heap.size,0,none⟩=some (.int .i64 no):=(hb2.cell (p:=⟨wr.heap.size,0,none⟩) (by simp)).trans (by simp)
    have HB3:=zh (HB2.out.trans (hb2.mono HB2.out.size))
    clear hb2
    cases bk with
    | true =>
     go_wp2
     go_ret
     have e1:ev = .iface 101 (.int .i64 no):=by rw [HEV.out,HD.out];simp [erV,HNO.out]
     exact ⟨by rw [e1];rfl,HB3.out⟩
    | false =>
     go_wp2
     go_roundw
     case rel => exact ⟨k+1,HLT.out,by go_num,HQ2.out (by simp),HB3.out⟩
     case measure => have:=HLT.out;simp [intOf];omega)
  ·have b1:(rs.length:Int)<=(k:Int):=by omega
   have hk2:k=rs.length:=by omega
   have HE:Hid (firstNo b rs=0):=by
    show _=_
    rw [firstNo_drop b rs k HQ.out,hk2,List.drop_length];rfl
   clear hlt hq hb hk hk2
   go_wp2
   go_ret
   exact ⟨by rw [HEV.out,HE.out];rfl,HB.out⟩
end Fr
end
section
open Go.RowKit Go.Maps
namespace Fr
open Vw (Sess)
theorem at3 (w:World) (o1 o2 o3:Obj):(((w.alloc o1).alloc o2).alloc o3).heap[w.heap.size+1+1]? = some o3:=by
 have:=Ut.alloc_at ((w.alloc o1).alloc o2) o3
 rwa [World.size_alloc,World.size_alloc] at this
theorem below3 (w:World) (o1 o2 o3:Obj):Below w.heap.size w (((w.alloc o1).alloc o2).alloc o3):=(((Below.refl _ _).alloc (Nat.le_refl _) _).alloc (by simp) _).alloc (by simp;omega) _
def tilOf (now life most:Int):Int:=if unt now life most then untV now life most else 0
theorem asked_any (p:Sess) (r:Req) (now births:Int) (full:Bool) (most:Int) (w:World) :
  Calls Tryz.prog 211 #[.agg p.cells.toArray,.agg r.cells.toArray,.int .i64 now,.int .i64 births,.bool full,.int .i64 most] w fun e w' => ∃ x,e = .returned (.pointer (some ⟨x,0,none⟩))/\BthAt x ⟨p,r,now,births,full,tilOf now r.life most⟩ w'/\Below w.heap.size w w':=by
 obtain ⟨tl,htl⟩:∃ tl,tl=tilOf now r.life most:=⟨_,rfl⟩
 have HTL:Hid (tl=if unt now r.life most then untV now r.life most else 0):=htl
 have HY:Hid (unt now r.life most=true->∀ w,Calls Tryz.prog 260 #[.int .i64 now,.int .i64 r.life,.int .i64 most] w fun e w' => e = .returned (.tuple #[.int .i64 (untV now r.life most),.nilIface])/\w=w'):=fun h w => until_yes now r.life most h w
 have HN:Hid (unt now r.life most=false->∀ w,Calls Tryz.prog 260 #[.int .i64 now,.int .i64 r.life,.int .i64 most] w fun e w' => e = .returned (.tuple #[.int .i64 0,.iface 101 (.int .i64 12)])/\w=w'):=fun h w => until_no now r.life most h w
 rw [<- htl]
 clear htl
 obtain ⟨a1,a2,a3,a4,a5,a6,a7,a8,a9,a10,a11,a12⟩:=p
 obtain ⟨b1,b2,b3,b4,b5⟩:=r
 simp only [Vw.Sess.cells,Req.cells] at HTL HY HN ⊢
 have HE:Hid (Below w.heap.size w (((w.alloc (.cells #[.int .i64 a1,.int .i64 a2,.int .i64 a3,.int .i64 a4,.int .i64 a5,.string a6,.string a7,.int .u64 (a8:Int),.int .i64 a9,.int .i64 a10,.int .i64 a11,.int .i64 a12] 30)).alloc (.cells #[.string b1,.string b2,.int .u64 (b3:Int),.int .i64 b4,.int .i64 b5] 55)).alloc (.cells (#[.int .i64 a1,.int .i64 a2,.int .i64 a3,.int .i64 a4,.int .i64 a5,.string a6,.string a7,.int .u64 (a8:Int),.int .i64 a9,.int .i64 a10,.int .i64 a11,.int .i64 a12,.string b1,.string b2,.int .u64 (b3:Int),.int .i64 b4,.int .i64 b5,.int .i64 now,.int .i64 births,.bool full,.int .i64 tl]) 360))):=below3 _ _ _ _
 cases hu:unt now b5 most with
 | true =>
  have HC:Hid (∀ w,Calls Tryz.prog 260 #[.int .i64 now,.int .i64 b5,.int .i64 most] w fun e w' => e = .returned (.tuple #[.int .i64 (untV now b5 most),.nilIface])/\w=w'):=HY.out hu
  obtain ⟨t,ht⟩:∃ t,t=untV now b5 most:=⟨_,rfl⟩
  rw [<- ht] at HC
  have HT:tl=t:=by rw [HTL.out,hu,ht];rfl
  subst HT
  clear hu HY HN HTL ht
  go_enter Tryz.func211,Tryz.ntmps211
  go_wp2_with (go_at_call 260;(with_reducible refine (HC.out _).mono ?_);rintro e w' ⟨rfl,rfl⟩)
  refine bodyPost_ret (results_tmp rfl _ _ _) rfl ?_
  exact ⟨_,rfl,at3 _ _ _ _,HE.out⟩
 | false =>
  have HC:Hid (∀ w,Calls Tryz.prog 260 #[.int .i64 now,.int .i64 b5,.int .i64 most] w fun e w' => e = .returned (.tuple #[.int .i64 0,.iface 101 (.int .i64 12)])/\w=w'):=HN.out hu
  have HT:tl=0:=by rw [HTL.out,hu];rfl
  subst HT
  clear hu HY HN HTL
  go_enter Tryz.func211,Tryz.ntmps211
  go_wp2_with (go_at_call 260;(with_reducible refine (HC.out _).mono ?_);rintro e w' ⟨rfl,rfl⟩)
  refine bodyPost_ret (results_tmp rfl _ _ _) rfl ?_
  exact ⟨_,rfl,at3 _ _ _ _,HE.out⟩
end Fr
end
section
open Go.RowKit Go.Maps
namespace Fr
open Vw (Sess)
def sesOf (b:Bth) (kind:Int):Sess:=if kind=0 then ⟨0,b.births+1,0,0,0,b.r.user,ByteArray.empty,0,0,b.now,b.til,0⟩ else ⟨0,b.births+1,b.p.slot,b.p.birth,kind,b.p.user,b.r.label,0,0,b.now,b.til,b.p.depth+1⟩
theorem two_row (w:World) (cs ds:Array Value) (T U:TypeId):(((w.alloc (.cells cs T)).alloc (.cells ds U)).drew).heap[w.heap.size]? = some (.cells cs T (0,0)):=(Below.heap_alloc _ _ _ (by simp)).trans (World.alloc_heap_new _ _)
theorem two_below (w:World) (o1 o2:Obj):Below w.heap.size w (((w.alloc o1).alloc o2).drew):=(((Below.refl _ _).alloc (Nat.le_refl _) _).alloc (by simp) _).drew
theorem session_zero {x:Nat} {b:Bth} {w:World} (h:BthAt x b w) (h1:0<=b.births/\b.births<1048576) :
  Calls Tryz.prog 218 #[.pointer (some ⟨x,0,none⟩),.int .i64 0] w fun e w' => e = .returned (.agg (sesOf b 0).cells.toArray)/\Below w.heap.size w w':=by
 have hw1:IntKind.i64.wrap (b.births+1)=b.births+1:=IntWalk.i64_in _ (by omega)
 have hlt:=h.lt
 have c1:w.cell? ⟨x,17,none⟩=some (.int .i64 b.now):=h.cell 17
 have c2:w.cell? ⟨x,18,none⟩=some (.int .i64 b.births):=h.cell 18
 have c3:w.cell? ⟨x,20,none⟩=some (.int .i64 b.til):=h.cell 20
 have c4:w.cell? ⟨x,12,none⟩=some (.string b.r.user):=h.cell 12
 clear h h1
 go_enter Tryz.func218,Tryz.ntmps218
 go_wp2
 go_region
 go_wp2
 refine bodyPost_ret (results_cell_row rfl _ _ w.heap.size _ (sesOf b 0).cells.toArray (0,0) _ rfl (two_row _ _ _ _ _) Tryz.underlying30 rfl (by kernel_rfl)) rfl ?_
 exact ⟨rfl,two_below _ _ _⟩
theorem session_kid {x:Nat} {b:Bth} {w:World} (h:BthAt x b w) (h1:0<=b.births/\b.births<1048576) (h2:0<=b.p.depth/\b.p.depth<6) (kind:Int) (hk:kind≠0) :
  Calls Tryz.prog 218 #[.pointer (some ⟨x,0,none⟩),.int .i64 kind] w fun e w' => e = .returned (.agg (sesOf b kind).cells.toArray)/\Below w.heap.size w w':=by
 have hw1:IntKind.i64.wrap (b.births+1)=b.births+1:=IntWalk.i64_in _ (by omega)
 have hw2:IntKind.i64.wrap (b.p.depth+1)=b.p.depth+1:=IntWalk.i64_in _ (by omega)
 have hlt:=h.lt
 have hkb:(kind == 0)=false:=by simpa using hk
 have c1:w.cell? ⟨x,17,none⟩=some (.int .i64 b.now):=h.cell 17
 have c2:w.cell? ⟨x,18,none⟩=some (.int .i64 b.births):=h.cell 18
 have c3:w.cell? ⟨x,20,none⟩=some (.int .i64 b.til):=h.cell 20
 have c4:w.cell? ⟨x,0,none⟩=some (.int .i64 b.p.slot):=h.cell 0
 have c5:w.cell? ⟨x,1,none⟩=some (.int .i64 b.p.birth):=h.cell 1
 have c6:w.cell? ⟨x,11,none⟩=some (.int .i64 b.p.depth):=h.cell 11
 have c7:w.cell? ⟨x,5,none⟩=some (.string b.p.user):=h.cell 5
 have c8:w.cell? ⟨x,13,none⟩=some (.string b.r.label):=h.cell 13
 have HSE:Hid (sesOf b kind=⟨0,b.births+1,b.p.slot,b.p.birth,kind,b.p.user,b.r.label,0,0,b.now,b.til,b.p.depth+1⟩):=if_neg hk
 obtain ⟨ss,hss⟩:∃ ss,ss=sesOf b kind:=⟨_,rfl⟩
 rw [<- hss] at HSE ⊢
 clear h h1 h2 hss hk
 go_enter Tryz.func218,Tryz.ntmps218
 go_wp2
 go_region
 go_wp2
 go_region
 go_wp2
 go_region
 go_wp2
 refine bodyPost_ret (results_cell_row rfl _ _ w.heap.size _ (Vw.Sess.mk 0 (b.births+1) b.p.slot b.p.birth kind b.p.user b.r.label 0 0 b.now b.til (b.p.depth+1)).cells.toArray (0,0) _ rfl (two_row _ _ _ _ _) Tryz.underlying30 rfl (by kernel_rfl)) rfl ?_
 exact ⟨by rw [HSE.out],((two_below _ _ _).drew).drew⟩
end Fr
end
section
open Go.RowKit Go.Maps
namespace Fr
open Vw (Sess)
def loginR:List (Int × Rul):=[(8,.noUser),(13,.noLevel),(12,.noTime),(18,.noBirths),(19,.noRoom)]
def childR:List (Int × Rul):=[(8,.noLabel),(12,.noTime),(17,.tooDeep),(11,.tooWide),(18,.noBirths),(19,.noRoom)]
def raisedR:List (Int × Rul):=[(8,.noLabel),(12,.noTime),(12,.tooLong),(17,.tooDeep),(13,.noRaise),(18,.noBirths),(19,.noRoom)]
theorem til_zero (now life most:Int):(tilOf now life most == 0) = !unt now life most:=by
 unfold tilOf
 cases h:unt now life most with
 | false => rfl
 | true =>
  have h1:=untV_gt h
  have h2:=(unt_iff.1 h).1
  rw [tm_iff] at h2
  rw [if_pos rfl]
  simp;omega
theorem til_yes {now life most:Int} (h:unt now life most=true):tilOf now life most=untV now life most:=if_pos h
theorem login_no (r:Req) (now births:Int) (full:Bool):firstNo ⟨s0,r,now,births,full,tilOf now r.life 1099511627776⟩ loginR=(loginS r now births full).2:=by
 unfold loginS
 simp only [firstNo,loginR,Rul.broken,til_zero,isL]
 cases nameB r.user.data.toList with
 | false => rfl
 | true =>
  simp only [Bool.not_true,Bool.false_eq_true,if_false,Bool.true_eq_false]
  by_cases h2:0<=r.level/\r.level<=2
  ·simp only [h2,and_self,decide_true,Bool.not_true,Bool.false_eq_true,if_false,not_true_eq_false]
   cases unt now r.life 1099511627776 with
   | false => rfl
   | true =>
    simp only [Bool.not_true,Bool.false_eq_true,if_false,Bool.true_eq_false]
    by_cases h3:births<0\/1048576<=births
    ·simp only [h3,decide_true,if_true]
    ·simp only [h3,decide_false,Bool.false_eq_true,if_false]
     cases full <;> rfl
  ·simp only [h2,decide_false,Bool.not_false,if_true,not_false_eq_true]
theorem login_s {r:Req} {now births:Int} {full:Bool} (h:(loginS r now births full).2=0):(0<=births/\births<1048576)/\(loginS r now births full).1={ sesOf ⟨s0,r,now,births,full,tilOf now r.life 1099511627776⟩ 0 with scopes:=r.scopes,level:=r.level }:=by
 unfold loginS at h ⊢
 repeat' split at h
 all_goals first | (exfalso;simp at h;done) | skip
 rename_i h1 h2 h3 h4 h5
 rw [if_neg h1,if_neg h2,if_neg h3,if_neg h4,if_neg h5]
 exact ⟨by omega,by unfold sesOf;rw [if_pos rfl];simp only;rw [til_yes (by simpa using h3)]⟩
theorem login_err {r:Req} {now births:Int} {full:Bool} (h:(loginS r now births full).2≠0):(loginS r now births full).1=s0:=by
 unfold loginS at h ⊢
 repeat' split
 all_goals first | rfl | (exfalso;simp_all;done)
theorem child_no (p:Sess) (r:Req) (now births:Int) (full:Bool):firstNo ⟨p,r,now,births,full,tilOf now r.life p.dl⟩ childR=(childS p r now births full).2:=by
 unfold childS
 simp only [firstNo,childR,Rul.broken,til_zero]
 cases nameB r.label.data.toList with
 | false => rfl
 | true =>
  simp only [Bool.not_true,Bool.false_eq_true,if_false,Bool.true_eq_false]
  cases unt now r.life p.dl with
  | false => rfl
  | true =>
   simp only [Bool.not_true,Bool.false_eq_true,if_false,Bool.true_eq_false]
   by_cases h2:p.depth<0\/6<=p.depth
   ·simp only [h2,decide_true,if_true]
   ·simp only [h2,decide_false,Bool.false_eq_true,if_false]
    by_cases hw:within r.scopes p.scopes=true
    ·simp only [hw,Bool.not_true,Bool.false_eq_true,if_false,Bool.true_eq_false]
     by_cases h3:births<0\/1048576<=births
     ·simp only [h3,decide_true,if_true]
     ·simp only [h3,decide_false,Bool.false_eq_true,if_false]
      cases full <;> rfl
    ·rw [Bool.not_eq_true] at hw
     simp only [hw,Bool.not_false,if_true]
theorem child_s {p:Sess} {r:Req} {now births:Int} {full:Bool} (h:(childS p r now births full).2=0):(0<=births/\births<1048576)/\(0<=p.depth/\p.depth<6)/\(childS p r now births full).1={ sesOf ⟨p,r,now,births,full,tilOf now r.life p.dl⟩ 1 with scopes:=r.scopes,level:=p.level }:=by
 unfold childS at h ⊢
 repeat' split at h
 all_goals first | (exfalso;simp at h;done) | skip
 rename_i h1 h2 h3 h4 h5 h6
 rw [if_neg h1,if_neg h2,if_neg h3,if_neg h4,if_neg h5,if_neg h6]
 exact ⟨by omega,by omega,by unfold sesOf;rw [if_neg (by decide)];simp only;rw [til_yes (by simpa using h2)]⟩
theorem child_err {p:Sess} {r:Req} {now births:Int} {full:Bool} (h:(childS p r now births full).2≠0):(childS p r now births full).1=s0:=by
 unfold childS at h ⊢
 repeat' split
 all_goals first | rfl | (exfalso;simp_all;done)
theorem raised_no (p:Sess) (r:Req) (now births:Int) (full:Bool):firstNo ⟨p,r,now,births,full,tilOf now r.life p.dl⟩ raisedR=(raisedS p r now births full).2:=by
 unfold raisedS
 simp only [firstNo,raisedR,Rul.broken,til_zero]
 cases nameB r.label.data.toList with
 | false => rfl
 | true =>
  simp only [Bool.not_true,Bool.false_eq_true,if_false,Bool.true_eq_false]
  cases unt now r.life p.dl with
  | false => rfl
  | true =>
   simp only [Bool.not_true,Bool.false_eq_true,if_false,Bool.true_eq_false]
   by_cases h0:300<r.life
   ·simp only [h0,decide_true,if_true]
   ·simp only [h0,decide_false,Bool.false_eq_true,if_false]
    by_cases h2:p.depth<0\/6<=p.depth
    ·simp only [h2,decide_true,if_true]
    ·simp only [h2,decide_false,Bool.false_eq_true,if_false]
     by_cases hw:canRaise p.level r.level=true
     ·simp only [hw,Bool.not_true,Bool.false_eq_true,if_false,Bool.true_eq_false]
      by_cases h3:births<0\/1048576<=births
      ·simp only [h3,decide_true,if_true]
      ·simp only [h3,decide_false,Bool.false_eq_true,if_false]
       cases full <;> rfl
     ·rw [Bool.not_eq_true] at hw
      simp only [hw,Bool.not_false,if_true]
theorem raised_s {p:Sess} {r:Req} {now births:Int} {full:Bool} (h:(raisedS p r now births full).2=0):(0<=births/\births<1048576)/\(0<=p.depth/\p.depth<6)/\(raisedS p r now births full).1={ sesOf ⟨p,r,now,births,full,tilOf now r.life p.dl⟩ 2 with scopes:=p.scopes,level:=r.level }:=by
 unfold raisedS at h ⊢
 repeat' split at h
 all_goals first | (exfalso;simp at h;done) | skip
 rename_i h1 h2 h3 h4 h5 h6 h7
 rw [if_neg h1,if_neg h2,if_neg h3,if_neg h4,if_neg h5,if_neg h6,if_neg h7]
 exact ⟨by omega,by omega,by unfold sesOf;rw [if_neg (by decide)];simp only;rw [til_yes (by simpa using h2)]⟩
theorem raised_err {p:Sess} {r:Req} {now births:Int} {full:Bool} (h:(raisedS p r now births full).2≠0):(raisedS p r now births full).1=s0:=by
 unfold raisedS at h ⊢
 repeat' split
 all_goals first | rfl | (exfalso;simp_all;done)
end Fr
end
end Go.Proofs.YtimhglmfckfclaaGreatDoor
