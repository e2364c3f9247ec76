/- Parts of the proof. -/
import Derived.Test.YtimhglmfckfclaaGreatDoorM16
set_option linter.unusedVariables false
set_option linter.unusedSimpArgs false
set_option maxRecDepth 100000
set_option maxHeartbeats 16000000
namespace Go.Proofs.YtimhglmfckfclaaGreatDoor
section
open Go.RowKit Go.Maps
namespace Fr
open Vw (Sess)
section
variable {t a:Nat} {r:Int} {S:List Slt} {fr:List Int} {nw:Nat} {w:World}
theorem box_rng {W:World} {b:Nat} {cs:List Value} {ty:TypeId} (h:W.heap[b]? = some (.cells cs.toArray ty (0,0))):W.rangeAt b 0 cs:=fun j u hu => by rw [Nat.zero_add,zc h];simpa using hu
theorem used_ok (h:TrAt t a r w) (hA:ArAt a S fr nw w) (i:Int) (hi:thr i=true) (hu:(sl S i).used=true) :
  Calls Tryz.prog 180 #[.pointer (some ⟨t,0,none⟩),.int .i64 i] w fun e w' => e = .returned (.tuple #[.agg (sl S i).cells.toArray,.nilIface])/\Below w.heap.size w w':=by
 obtain ⟨cs,hcs⟩:∃ cs,cs=(sl S i).cells:=⟨_,rfl⟩
 obtain ⟨W0,hW0⟩:∃ W0,W0=w.alloc (.cells #[.bool false,.bool false,.int .i64 0,.int .i64 0,.int .i64 0,.int .i64 0,.int .i64 0,.int .i64 0,.int .i64 0,.int .i64 0,.string ⟨#[]⟩,.string ⟨#[]⟩,.int .u64 0,.int .i64 0,.int .i64 0,.int .i64 0,.int .i64 0] 115):=⟨_,rfl⟩
 have hb0:Below w.heap.size w W0:=by rw [hW0];exact (Below.refl _ _).alloc (Nat.le_refl _) _
 have hs0:W0.heap.size=w.heap.size+1:=by rw [hW0,World.size_alloc]
 have hz:W0.heap[w.heap.size]? = some (.cells #[.bool false,.bool false,.int .i64 0,.int .i64 0,.int .i64 0,.int .i64 0,.int .i64 0,.int .i64 0,.int .i64 0,.int .i64 0,.string ⟨#[]⟩,.string ⟨#[]⟩,.int .u64 0,.int .i64 0,.int .i64 0,.int .i64 0,.int .i64 0] 115 (0,0)):=by rw [hW0];exact World.alloc_heap_new _ _
 have c1:=h.arena
 have hlt:=h.lt
 have hget:=aget_ok (hA.below hb0) i hi
 rw [<- hcs] at hget
 have HG:=zh hget
 have HCL:Hid (cs.length=17):=by show _=_;rw [hcs];rfl
 have HC1:Hid (∀ u ∈ cs,u.oneCell'=true):=by show ∀ _,_;rw [hcs];exact (sl S i).one
 have HF:Hid (∀ w3,Below W0.heap.size W0 w3->(w3.alloc (.cells cs.toArray 115)).heap[w.heap.size]? = some (.cells #[.bool false,.bool false,.int .i64 0,.int .i64 0,.int .i64 0,.int .i64 0,.int .i64 0,.int .i64 0,.int .i64 0,.int .i64 0,.string ⟨#[]⟩,.string ⟨#[]⟩,.int .u64 0,.int .i64 0,.int .i64 0,.int .i64 0,.int .i64 0] 115 (0,0))/\((w3.alloc (.cells cs.toArray 115)).setCells w.heap.size 0 cs).heap[w.heap.size]? = some (.cells cs.toArray 115 (0,0))/\Below w.heap.size w ((w3.alloc (.cells cs.toArray 115)).setCells w.heap.size 0 cs)):=fun w3 hb3 => by
  have k1:(w3.alloc (.cells cs.toArray 115)).heap[w.heap.size]? = _:=(Below.heap_alloc _ _ _ (by have:=hb3.size;omega)).trans ((hb3.block w.heap.size (by omega)).trans hz)
  have k2:=Ag.setCells_row w.heap.size 115 cs 0 _ _ k1
  rw [Ag.put_all (by rw [HCL.out];rfl)] at k2
  exact ⟨k1,k2,Ag.below_setCells (Nat.le_refl _) cs 0 _ ((hb0.trans (hb3.mono hb0.size)).alloc (by have:=hb3.size;omega) _)⟩
 have HCS:=zh hcs;have HW0:=zh hW0;have HU:=zh hu
 rw [<- hcs]
 clear h hA hi hu hcs hW0 hb0 hs0 hz hget
 go_enter Tryz.func180,Tryz.ntmps180
 go_wp2_with fail
 rw [<- HW0.out]
 refine HG.out.mono ?_
 rintro e w3 ⟨rfl,hb3⟩
 obtain ⟨k1,k2,k3⟩:=HF.out w3 hb3
 obtain ⟨W4,hW4⟩:∃ W4,W4=w3.alloc (.cells cs.toArray 115):=⟨_,rfl⟩
 obtain ⟨b,hb⟩:∃ b,b=w3.heap.size:=⟨_,rfl⟩
 have hr4:W4.heap[b]? = some (.cells cs.toArray 115 (0,0)):=by rw [hW4,hb];exact World.alloc_heap_new _ _
 rw [<- hW4] at k1 k2 k3
 have HW4:=zh hW4;have HB:=zh hb
 have d0:W4.cell? ⟨b,0,none⟩=some (.bool true):=by rw [zc hr4,HCS.out,<- HU.out];rfl
 have HRG:=zh (box_rng hr4)
 have HTH:Hid (W4.there w.heap.size 0 cs.toArray.size):=Ag.there_row k1 _ (by rw [List.size_toArray,HCL.out];decide)
 have HE:=zh k2;have HBE:=zh k3
 clear k1 k2 k3 hr4 hW4 hb hb3
 go_upto_region 2 with (first
  | (refine Ag.wpList_store_new (by rfl) 115 (.tmp 6) (.tmp 15) (by rfl) cs (by rfl) (by rfl) (by rw [HCL.out];kernel_rfl) (by rw [HCL.out];rfl) HC1.out ?_))
 rw [<- HW4.out,<- HB.out]
 go_wp2_with (first
  | (refine wpList_load_mid (by rfl) 115 _ (by rfl) _ _ (by rfl) cs _ HRG.out Tryz.underlying115 rfl (by rw [HCL.out];kernel_rfl) ?_)
  | (refine wpList_store_mid (by rfl) 115 (.tmp 4) (.tmp 26) (by rfl) w.heap.size 0 cs.toArray (by rfl) (by rfl) HTH.out (by rw [List.size_toArray,HCL.out];kernel_rfl) (all_oneCell_toArray HC1.out) ?_))
 try rw [List.toList_toArray]
 refine bodyPost_ret (results_cell_tmp rfl _ _ w.heap.size _ cs.toArray (0,0) _ rfl HE.out Tryz.underlying115 rfl (by rw [List.size_toArray,HCL.out];kernel_rfl)) rfl ?_
 exact ⟨rfl,HBE.out⟩
theorem tring_ok (h:TrAt t a r w) (hA:ArAt a S fr nw w) (us ub:Int) (hup:upOk S us ub=true) :
  Calls Tryz.prog 182 #[.pointer (some ⟨t,0,none⟩),.agg #[.int .i64 us,.int .i64 ub]] w fun e w' => e = .returned (.tuple #[.int .i64 (if ub=0 then r else (sl S us).kids),.nilIface])/\Below w.heap.size w w':=by
 by_cases hub:ub=0
 ·subst hub;rw [if_pos rfl];exact tring_root h us
 ·unfold upOk at hup
  simp only [Bool.or_eq_true,Bool.and_eq_true,beq_iff_eq,hub,false_or] at hup
  rw [if_neg hub];exact tring_kid h hA us ub hub hup.1 hup.2.1 hup.2.2
def turnR (r us ub last:Int):Int:=if ub=0 then last else r
def turnS (S:List Slt) (us ub last:Int):List Slt:=if ub=0 then S else put S us { sl S us with kids:=last }
theorem tturn_ok (h:TrAt t a r w) (hA:ArAt a S fr nw w) (hw:nw+1<=4611686018427387904) (hta:t≠a) (us ub last:Int) (hup:ub=0\/thr us=true) :
  Calls Tryz.prog 184 #[.pointer (some ⟨t,0,none⟩),.agg #[.int .i64 us,.int .i64 ub],.int .i64 last] w fun e w' => e = .returned .nilIface/\TrAt t a (turnR r us ub last) w'/\(∃ nw',nw<=nw'/\nw'<=nw+1/\ArAt a (turnS S us ub last) fr nw' w')/\Only (fun b => b=t\/b=a) w w':=by
 unfold turnR turnS
 by_cases hub:ub=0
 ·subst hub
  rw [if_pos rfl,if_pos rfl]
  refine (tturn_root h us last).mono ?_
  rintro e w' ⟨rfl,k1,k2⟩
  exact ⟨rfl,k1,⟨nw,Nat.le_refl _,Nat.le_succ _,hA.keep (k2.block a hA.lt (fun e => hta e.symm))⟩,k2.mono (fun _ _ => .inl)⟩
 ·rw [if_neg hub,if_neg hub]
  refine (tturn_kid h hA hw hta us ub last hub (hup.resolve_left hub)).mono ?_
  rintro e w' ⟨rfl,k1,k2⟩
  exact ⟨rfl,h.keep (k2.block t h.lt hta),⟨nw+1,Nat.le_succ _,Nat.le_refl _,k1⟩,k2.mono (fun _ _ => .inr)⟩
theorem cut_ok (h:TrAt t a r w) (hA:ArAt a S fr nw w) (hw:nw+4<=4611686018427387904) (hta:t≠a) (i us ub last:Int) (hus:us=(sl S i).s.us) (hub:ub=(sl S i).s.ub) (hla:last=if ub=0 then r else (sl S us).kids)
  (hi:thr i=true) (hu:(sl S i).used=true) (hup:upOk S us ub=true) (hc:canDrop S last i=true) :
  Calls Tryz.prog 138 #[.pointer (some ⟨t,0,none⟩),.int .i64 i] w fun e w' => e = .returned .nilIface/\TrAt t a (turnR r us ub (dropL S last i)) w'/\(∃ nw',nw<=nw'/\nw'<=nw+4/\ArAt a (turnS (dropS S i) us ub (dropL S last i)) fr nw' w')/\Only (fun b => b=t\/b=a) w w':=by
 obtain ⟨cs,hcs⟩:∃ cs,cs=(sl S i).cells:=⟨_,rfl⟩
 obtain ⟨la2,hla2⟩:∃ x,x=dropL S last i:=⟨_,rfl⟩
 have hus2:ub=0\/thr us=true:=by
  unfold upOk at hup
  simp only [Bool.or_eq_true,Bool.and_eq_true,beq_iff_eq] at hup
  exact hup.imp id (fun h => h.1)
 have hused:=used_ok h hA i hi hu
 rw [<- hcs] at hused
 have HUSED:=zh hused
 have HRING:Hid (∀ W,Below w.heap.size w W->Calls Tryz.prog 182 #[.pointer (some ⟨t,0,none⟩),.agg #[.int .i64 us,.int .i64 ub]] W fun e w' => e = .returned (.tuple #[.int .i64 last,.nilIface])/\Below W.heap.size W w'):=fun W hb => by
  rw [hla];exact tring_ok (h.below hb) (hA.below hb) us ub hup
 have HDROP:Hid (∀ W,Below w.heap.size w W->Calls Tryz.prog 226 #[.pointer (some ⟨a,0,none⟩),.int .i64 last,.int .i64 i] W fun e w' => e = .returned (.tuple #[.int .i64 la2,.nilIface])/\(∃ nw',nw<=nw'/\nw'<=nw+3/\ArAt a (dropS S i) fr nw' w')/\Only (fun b => b=a) W w'):=fun W hb => by
  rw [hla2];exact adrop_ok (hA.below hb) (by omega) last i hc
 have HTURN:Hid (∀ W nw',nw'<=nw+3->TrAt t a r W->ArAt a (dropS S i) fr nw' W->Calls Tryz.prog 184 #[.pointer (some ⟨t,0,none⟩),.agg #[.int .i64 us,.int .i64 ub],.int .i64 la2] W fun e w' => e = .returned .nilIface/\TrAt t a (turnR r us ub la2) w'/\(∃ nw2,nw'<=nw2/\nw2<=nw'+1/\ArAt a (turnS (dropS S i) us ub la2) fr nw2 w')/\Only (fun b => b=t\/b=a) W w'):=fun W nw' hn k1 k2 => tturn_ok k1 k2 (by omega) hta us ub la2 hus2
 have HCL:Hid (cs.length=17):=by show _=_;rw [hcs];rfl
 have HC1:Hid (∀ u ∈ cs,u.oneCell'=true):=by show ∀ _,_;rw [hcs];exact (sl S i).one
 have HCS:Hid (cs[7]? = some (.int .i64 us)/\cs[8]? = some (.int .i64 ub)):=by show _/\_;rw [hcs,hus,hub];exact ⟨rfl,rfl⟩
 have HT:=zh h;have HTA:=zh hta;have HALT:=zh hA.lt
 rw [<- hla2]
 clear h hA hi hu hcs hused hus hub hla hc hup hla2 hw hta hus2
 go_enter Tryz.func138,Tryz.ntmps138
 go_wp2_with fail
 refine HUSED.out.mono ?_
 rintro e w3 ⟨rfl,hb3⟩
 obtain ⟨W4,hW4⟩:∃ W4,W4=w3.alloc (.cells cs.toArray 115):=⟨_,rfl⟩
 obtain ⟨b,hb⟩:∃ b,b=w3.heap.size:=⟨_,rfl⟩
 have hr4:W4.heap[b]? = some (.cells cs.toArray 115 (0,0)):=by rw [hW4,hb];exact World.alloc_heap_new _ _
 have hb4:Below w.heap.size w W4:=by rw [hW4];exact hb3.alloc hb3.size _
 have hge:w.heap.size<=b:=by rw [hb];exact hb3.size
 have HRNG:Hid (∀ W:World,W.heap[b]? = W4.heap[b]?->W.rangeAt b 7 [.int .i64 us,.int .i64 ub]):=fun W hW j u hu => by
  rw [zc (hW.trans hr4),List.getElem?_toArray]
  rcases j with _ | _ | j
  ·simp only [List.getElem?_cons_zero,Option.some.injEq] at hu;subst hu;exact HCS.out.1
  ·simp only [List.getElem?_cons_succ,List.getElem?_cons_zero,Option.some.injEq] at hu;subst hu;exact HCS.out.2
  ·simp at hu
 have HW4:=zh hW4;have HBQ:=zh hb;have HB4:=zh hb4;have HGE:=zh hge
 have HBL:Hid (b<W4.heap.size):=(zx hr4)
 clear hr4 hb4 hge hb hW4 hb3
 go_upto_region 2 with (first
  | (refine Ag.wpList_store_new (by rfl) 115 (.tmp 5) (.tmp 12) (by rfl) cs (by rfl) (by rfl) (by rw [HCL.out];kernel_rfl) (by rw [HCL.out];rfl) HC1.out ?_))
 rw [<- HW4.out,<- HBQ.out]
 have HR4:=zh (HRNG.out W4 rfl)
 go_wp2_with (refine wpList_load_mid (by rfl) 26 _ (by rfl) _ _ (by rfl) [.int .i64 us,.int .i64 ub] _ HR4.out Tryz.underlying26 rfl (by kernel_rfl) ?_)
 refine (HRING.out _ HB4.out).mono ?_
 rintro e w5 ⟨rfl,hb5⟩
 have HB5:Hid (Below w.heap.size w w5):=HB4.out.trans (hb5.mono HB4.out.size)
 have HR5:=zh (hb5.block b HBL.out)
 have c5:=(HT.out.below HB5.out).arena
 clear hb5
 go_wp2_with fail
 refine (HDROP.out _ HB5.out).mono ?_
 rintro e w6 ⟨rfl,⟨n6,hn6,hn6',hA6⟩,hO6⟩
 have HR6:=zh (HRNG.out w6 ((hO6.block b (by have:=HGE.out;have:=HBL.out;exact (zx (HR5.out.trans (Array.getElem?_eq_getElem HBL.out)))) (by have:=HGE.out;have:=HALT.out;omega)).trans HR5.out))
 have HT6:Hid (TrAt t a r w6):=(HT.out.below HB5.out).keep (hO6.block t (HT.out.below HB5.out).lt HTA.out)
 have HTU:=zh (HTURN.out w6 n6 hn6' HT6.out hA6)
 have HO6:Hid (Only (fun b => b=a) w w6):=(Only.of_below (F:=fun b => b=a) HB5.out).trans hO6 (fun _ _ h => h)
 have HN6:Hid (nw<=n6/\n6<=nw+3):=⟨hn6,hn6'⟩
 clear hA6 hO6 hn6 hn6' c5
 go_wp2_with (refine wpList_load_mid (by rfl) 26 _ (by rfl) _ _ (by rfl) [.int .i64 us,.int .i64 ub] _ HR6.out Tryz.underlying26 rfl (by kernel_rfl) ?_)
 refine HTU.out.mono ?_
 rintro e w7 ⟨rfl,hT7,⟨n7,hn7,hn7',hA7⟩,hO7⟩
 have HE:Hid (TrAt t a (turnR r us ub la2) w7/\(∃ nw',nw<=nw'/\nw'<=nw+4/\ArAt a (turnS (dropS S i) us ub la2) fr nw' w7)/\Only (fun b => b=t\/b=a) w w7):=⟨hT7,⟨n7,by have:=HN6.out;omega,by have:=HN6.out;omega,hA7⟩,(HO6.out.mono (fun _ _ => .inr)).trans hO7 (fun _ _ h => h)⟩
 clear hT7 hn7 hn7' hA7 hO7
 go_wp2
 go_ret
 exact ⟨rfl,HE.out⟩
end
end Fr
end
section
open Go.RowKit Go.Maps
namespace Fr
open Vw (Sess)
section
variable {t a:Nat} {r:Int} {S:List Slt} {fr:List Int} {nw:Nat} {w:World}
theorem add_root (h:TrAt t a r w) (hA:ArAt a S fr nw w) (hw:nw+5<=4611686018427387904) (hta:t≠a) (i us last:Int) (hla:last=r)
  (hi:thr i=true) (hu:(sl S i).used=true) (hc:canPush S last i=true) (x:Slt) (hx:x={ sl (pushS S last i) i with kids:=-1,s:={ (sl (pushS S last i) i).s with us:=0,ub:=0 } }) :
  Calls Tryz.prog 108 #[.pointer (some ⟨t,0,none⟩),.int .i64 i,.agg #[.int .i64 us,.int .i64 0]] w fun e w' => e = .returned .nilIface/\TrAt t a (turnR r us 0 i) w'/\(∃ nw',nw<=nw'/\nw'<=nw+5/\ArAt a (turnS (put (pushS S last i) i x) us 0 i) fr nw' w')/\Only (fun b => b=t\/b=a) w w':=by
 obtain ⟨cs,hcs⟩:∃ cs,cs=(sl S i).cells:=⟨_,rfl⟩
 obtain ⟨W0,hW0⟩:∃ W0,W0=w.alloc (.cells #[.int .i64 us,.int .i64 0] 26):=⟨_,rfl⟩
 have hb0:Below w.heap.size w W0:=by rw [hW0];exact (Below.refl _ _).alloc (Nat.le_refl _) _
 have hs0:W0.heap.size=w.heap.size+1:=by rw [hW0,World.size_alloc]
 have hk0:W0.heap[w.heap.size]? = some (.cells #[.int .i64 us,.int .i64 0] 26 (0,0)):=by rw [hW0];exact World.alloc_heap_new _ _
 have hused:=used_ok (h.below hb0) (hA.below hb0) i hi hu
 rw [<- hcs] at hused
 have HUSED:=zh hused
 have HPAR:Hid (∀ W,Below w.heap.size w W->Calls Tryz.prog 181 #[.pointer (some ⟨t,0,none⟩),.int .i64 i,.agg #[.int .i64 us,.int .i64 0]] W fun e w' => e = .returned .nilIface/\Below W.heap.size W w'):=fun W hb => tparent_root i us W
 have HRING:Hid (∀ W,Below w.heap.size w W->Calls Tryz.prog 182 #[.pointer (some ⟨t,0,none⟩),.agg #[.int .i64 0,.int .i64 0]] W fun e w' => e = .returned (.tuple #[.int .i64 last,.nilIface])/\Below W.heap.size W w'):=fun W hb => by
  rw [hla];exact tring_root (h.below hb) 0
 have hus2:(0:Int)=0\/thr 0=true:=.inl rfl
 obtain ⟨S1,hS1⟩:∃ S1,S1=pushS S last i:=⟨_,rfl⟩
 rw [<- hS1] at hx ⊢
 obtain ⟨cs1,hcs1⟩:∃ cs1,cs1=(sl S1 i).cells:=⟨_,rfl⟩
 obtain ⟨ds,hds⟩:∃ ds,ds=x.cells:=⟨_,rfl⟩
 obtain ⟨S2,hS2⟩:∃ S2,S2=put S1 i x:=⟨_,rfl⟩
 rw [<- hS2]
 have HPUSH:Hid (∀ W,Below w.heap.size w W->Calls Tryz.prog 183 #[.pointer (some ⟨a,0,none⟩),.int .i64 last,.int .i64 i] W fun e w' => e = .returned (.tuple #[.int .i64 i,.nilIface])/\(∃ nw',nw<=nw'/\nw'<=nw+3/\ArAt a S1 fr nw' w')/\Only (fun b => b=a) W w'):=fun W hb => by
  rw [hS1];exact apush_ok (hA.below hb) (by omega) last i hc
 have HGET:Hid (∀ W n1,ArAt a S1 fr n1 W->Calls Tryz.prog 46 #[.pointer (some ⟨a,0,none⟩),.int .i64 i] W fun e w' => e = .returned (.tuple #[.agg cs1.toArray,.nilIface])/\Below W.heap.size W w'):=fun W n1 k => by
  rw [hcs1];exact aget_ok k i hi
 have HPUT:Hid (∀ W n1,n1<=nw+3->ArAt a S1 fr n1 W->Calls Tryz.prog 107 #[.pointer (some ⟨a,0,none⟩),.int .i64 i,.agg ds.toArray] W fun e w' => e = .returned .nilIface/\ArAt a S2 fr (n1+1) w'/\Only (fun b => b=a) W w'):=fun W n1 hn k => by
  rw [hds,hS2];exact aput_ok k (by omega) i hi x
 have HTURN:Hid (∀ W n1,n1<=nw+4->TrAt t a r W->ArAt a S2 fr n1 W->Calls Tryz.prog 184 #[.pointer (some ⟨t,0,none⟩),.agg #[.int .i64 0,.int .i64 0],.int .i64 i] W fun e w' => e = .returned .nilIface/\TrAt t a (turnR r us 0 i) w'/\(∃ nw2,n1<=nw2/\nw2<=n1+1/\ArAt a (turnS S2 us 0 i) fr nw2 w')/\Only (fun b => b=t\/b=a) W w'):=fun W n1 hn k1 k2 => tturn_ok k1 k2 (by omega) hta 0 0 i hus2
 have HCL:Hid (cs.length=17):=by show _=_;rw [hcs];rfl
 have HC1:Hid (∀ u ∈ cs,u.oneCell'=true):=by show ∀ _,_;rw [hcs];exact (sl S i).one
 have HCL1:Hid (cs1.length=17):=by show _=_;rw [hcs1];rfl
 have HC11:Hid (∀ u ∈ cs1,u.oneCell'=true):=by show ∀ _,_;rw [hcs1];exact (sl S1 i).one
 have HDL:Hid (ds.length=17):=by show _=_;rw [hds];rfl
 have HDS:Hid (((cs1.toArray.setIfInBounds 2 (.int .i64 (-1))).setIfInBounds 7 (.int .i64 0)).setIfInBounds 8 (.int .i64 0)=ds.toArray):=by show _=_;rw [hcs1,hds,hx];rfl
 have HCC:Hid (cs1[2]? = some (.int .i64 (sl S1 i).kids)/\cs1[7]? = some (.int .i64 (sl S1 i).s.us)/\cs1[8]? = some (.int .i64 (sl S1 i).s.ub)):=by show _/\_/\_;rw [hcs1];exact ⟨rfl,rfl,rfl⟩
 have HT:=zh h;have HTA:=zh hta;have HALT:=zh hA.lt
 have HW0:=zh hW0;have HB0:=zh hb0;have HS0:=zh hs0;have HK0:=zh hk0
 clear hA hi hu hcs hused hla hc hta hus2 hcs1 hds hx hS1 hS2 hw hs0 hk0 hW0 hb0 h
 go_enter Tryz.func108,Tryz.ntmps108
 go_wp2_with fail
 rw [<- HW0.out]
 refine HUSED.out.mono ?_
 rintro e w3 ⟨rfl,hb3⟩
 obtain ⟨W4,hW4⟩:∃ W4,W4=w3.alloc (.cells cs.toArray 115):=⟨_,rfl⟩
 have hb34:Below W0.heap.size W0 W4:=by rw [hW4];exact hb3.alloc hb3.size _
 have hb4:Below w.heap.size w W4:=HB0.out.trans (hb34.mono HB0.out.size)
 have hk4:=(hb34.block w.heap.size (by have:=HS0.out;omega)).trans HK0.out
 have HW4:=zh hW4;have HB4:=zh hb4;have HK4:=zh hk4
 have HR4:=zh (box_rng (cs:=[.int .i64 us,.int .i64 0]) hk4)
 clear hb34 hb4 hk4 hW4 hb3
 go_upto_region 2 with (first
  | (refine Ag.wpList_store_new (by rfl) 115 (.tmp 7) (.tmp 18) (by rfl) cs (by rfl) (by rfl) (by rw [HCL.out];kernel_rfl) (by rw [HCL.out];rfl) HC1.out ?_))
 rw [<- HW4.out]
 go_wp2_with (refine wpList_load_mid (by rfl) 26 _ (by rfl) _ _ (by rfl) [.int .i64 us,.int .i64 0] _ HR4.out Tryz.underlying26 rfl (by kernel_rfl) ?_)
 refine (HPAR.out _ HB4.out).mono ?_
 rintro e w5 ⟨rfl,hb5⟩
 have hk5:=(hb5.block w.heap.size (zx HK4.out)).trans HK4.out
 have c51:w5.cell? ⟨w.heap.size,1,none⟩=some (.int .i64 0):=zl hk5 rfl
 have hb5w:Below w.heap.size w w5:=HB4.out.trans (hb5.mono HB4.out.size)
 have c50:w5.cell? ⟨w.heap.size,0,none⟩=some (.int .i64 us):=zl hk5 rfl
 have f50:w5.frozen? ⟨w.heap.size,0,none⟩=false:=by unfold World.frozen?;rw [hk5];rfl
 have f51:w5.frozen? ⟨w.heap.size,1,none⟩=false:=by unfold World.frozen?;rw [hk5];rfl
 obtain ⟨W6,hW6⟩:∃ W6,W6=(w5.setCell ⟨w.heap.size,0,none⟩ (.int .i64 0)).setCell ⟨w.heap.size,1,none⟩ (.int .i64 0):=⟨_,rfl⟩
 have hk6:W6.heap[w.heap.size]? = some (.cells #[.int .i64 0,.int .i64 0] 26 (0,0)):=by rw [hW6,heap_setCell_same _ _ _ _ _ _ (heap_setCell_same _ _ _ _ _ _ hk5)];rfl
 have hb6:Below w.heap.size w W6:=by rw [hW6];exact (hb5w.setCell (p:=⟨w.heap.size,0,none⟩) (Nat.le_refl _) _).setCell (p:=⟨w.heap.size,1,none⟩) (Nat.le_refl _) _
 have HW6:=zh hW6;have HK6:=zh hk6;have HB6:=zh hb6
 have HR6:=zh (box_rng (cs:=[.int .i64 0,.int .i64 0]) hk6)
 clear hb5 hb5w hk5 hk6 hb6 hW6
 go_upto_region 9 with (fail)
 rw [<- HW6.out]
 go_wp2_with (refine wpList_load_mid (by rfl) 26 _ (by rfl) _ _ (by rfl) [.int .i64 0,.int .i64 0] _ HR6.out Tryz.underlying26 rfl (by kernel_rfl) ?_)
 refine (HRING.out _ HB6.out).mono ?_
 rintro e w7 ⟨rfl,hb7⟩
 have HK7:=zh ((hb7.block w.heap.size (zx HK6.out)).trans HK6.out)
 have HB7:Hid (Below w.heap.size w w7):=HB6.out.trans (hb7.mono HB6.out.size)
 have c7:=(HT.out.below HB7.out).arena
 clear hb7
 go_wp2_with fail
 refine (HPUSH.out _ HB7.out).mono ?_
 rintro e w8 ⟨rfl,⟨n8,hn8,hn8',hA8⟩,hO8⟩
 have HT8:Hid (TrAt t a r w8):=(HT.out.below HB7.out).keep (hO8.block t (HT.out.below HB7.out).lt HTA.out)
 have HK8:=zh ((hO8.block w.heap.size (zx HK7.out) (by have:=HALT.out;omega)).trans HK7.out)
 have HO8:Hid (Only (fun b => b=a) w w8):=(Only.of_below (F:=fun b => b=a) HB7.out).trans hO8 (fun _ _ h => h)
 have HN8:Hid (nw<=n8/\n8<=nw+3):=⟨hn8,hn8'⟩
 have HA8:=zh hA8
 have c8:=HT8.out.arena
 clear hn8 hn8' hA8 hO8 c7
 go_wp2_with fail
 refine (HGET.out w8 n8 HA8.out).mono ?_
 rintro e w9 ⟨rfl,hb9⟩
 obtain ⟨W10,hW10⟩:∃ W10,W10=w9.alloc (.cells cs1.toArray 115):=⟨_,rfl⟩
 obtain ⟨b,hb⟩:∃ b,b=w9.heap.size:=⟨_,rfl⟩
 have hr10:W10.heap[b]? = some (.cells cs1.toArray 115 (0,0)):=by rw [hW10,hb];exact World.alloc_heap_new _ _
 have hb10:Below w8.heap.size w8 W10:=by rw [hW10];exact hb9.alloc hb9.size _
 have hge:w8.heap.size<=b:=by rw [hb];exact hb9.size
 have hk10:=(hb10.block w.heap.size (zx HK8.out)).trans HK8.out
 have d0:W10.cell? ⟨w.heap.size,0,none⟩=some (.int .i64 0):=zl hk10 rfl
 have d1:W10.cell? ⟨w.heap.size,1,none⟩=some (.int .i64 0):=zl hk10 rfl
 have d2:W10.cell? ⟨b,2,none⟩=some (.int .i64 (sl S1 i).kids):=by rw [zc hr10,List.getElem?_toArray];exact HCC.out.1
 have d7:W10.cell? ⟨b,7,none⟩=some (.int .i64 (sl S1 i).s.us):=by rw [zc hr10,List.getElem?_toArray];exact HCC.out.2.1
 have d8:W10.cell? ⟨b,8,none⟩=some (.int .i64 (sl S1 i).s.ub):=by rw [zc hr10,List.getElem?_toArray];exact HCC.out.2.2
 have f2:W10.frozen? ⟨b,2,none⟩=false:=by unfold World.frozen?;rw [hr10];rfl
 have f7:W10.frozen? ⟨b,7,none⟩=false:=by unfold World.frozen?;rw [hr10];rfl
 have f8:W10.frozen? ⟨b,8,none⟩=false:=by unfold World.frozen?;rw [hr10];rfl
 obtain ⟨W11,hW11⟩:∃ W11,W11=(((W10.setCell ⟨b,2,none⟩ (.int .i64 (-1))).setCell ⟨b,7,none⟩ (.int .i64 0)).setCell ⟨b,8,none⟩ (.int .i64 0)).drew:=⟨_,rfl⟩
 have hr11:W11.heap[b]? = some (.cells ds.toArray 115 (0,0)):=by
  rw [hW11]
  show (((W10.setCell ⟨b,2,none⟩ (.int .i64 (-1))).setCell ⟨b,7,none⟩ (.int .i64 0)).setCell ⟨b,8,none⟩ (.int .i64 0)).heap[b]? = _
  rw [heap_setCell_same _ _ _ _ _ _ (heap_setCell_same _ _ _ _ _ _ (heap_setCell_same _ _ _ _ _ _ hr10)),<- HDS.out]
 have hb11:Below w8.heap.size w8 W11:=by rw [hW11];exact (((hb10.setCell (p:=⟨b,2,none⟩) hge _).setCell (p:=⟨b,7,none⟩) hge _).setCell (p:=⟨b,8,none⟩) hge _).drew
 have HW10:=zh hW10;have HBQ:=zh hb;have HW11:=zh hW11;have HR11:=zh hr11;have HB11:=zh hb11;have HGE:=zh hge
 have hne0:b≠w.heap.size:=by have:=HO8.out.size;have:=(zx HK8.out);omega
 have HNE:=zh hne0
 clear hr10 hb10 hk10 hr11 hb11 hW10 hW11 hb hb9 c8 hge
 go_upto_region 16 with (first
  | (refine Ag.wpList_store_new (by rfl) 115 (.tmp 12) (.tmp 63) (by rfl) cs1 (by rfl) (by rfl) (by rw [HCL1.out];kernel_rfl) (by rw [HCL1.out];rfl) HC11.out ?_))
 rw [<- HW10.out,<- HBQ.out]
 go_wp2_with fail
 go_region
 rw [<- HW11.out]
 clear d0 d1 d2 d7 d8 f2 f7 f8
 go_wp2_with fail
 have HT11:Hid (TrAt t a r W11):=HT8.out.below HB11.out
 have HA11:Hid (ArAt a S1 fr n8 W11):=HA8.out.below HB11.out
 have HBA:Hid (b≠a):=by have:=HGE.out;have:=HALT.out;have:=HO8.out.size;show _≠_;omega
 have HS7:Hid (∀ W':World,Only (fun b => b=a) W11 W'->W'.cell? ⟨t,0,none⟩=some (.pointer (some ⟨a,0,none⟩))/\W'.rangeAt b 0 ds):=fun W' ho => ⟨(ho.cell (p:=⟨t,0,none⟩) HT11.out.lt HTA.out).trans HT11.out.arena,fun j u hu => by rw [ho.cell (p:=⟨b,0+j,none⟩) (zx HR11.out) HBA.out,zc HR11.out,Nat.zero_add];simpa using hu⟩
 have hO7:Only (fun b => b=a) W11 W11.drew:=(Only.refl _ _).drew
 refine wp_region_held_drew (S:=fun W' => W'.cell? ⟨t,0,none⟩=some (.pointer (some ⟨a,0,none⟩))/\W'.rangeAt b 0 ds) (by kernel_rfl) (HS7.out _ hO7) (fun _ => ?_)
 refine tq 0 rfl (.pointer (some ⟨t,0,none⟩)) (HS7.out _ hO7) ?_
 try simp only [zq]
 refine tq 1 rfl (.pointer (some ⟨t,0,none⟩)) (HS7.out _ hO7) ?_
 try simp only [zq]
 refine tq 2 rfl (.pointer (some ⟨t,0,none⟩)) (HS7.out _ hO7) ?_
 try simp only [zq]
 refine tq 3 rfl (.pointer (some ⟨a,0,none⟩)) (HS7.out _ hO7) ?_
 try simp only [zq]
 refine tq 4 rfl (.int .i64 i) (HS7.out _ hO7) ?_
 try simp only [zq]
 refine tk 5 rfl (.agg ds.toArray) (fun wq hq => by obtain ⟨hq1,hq3⟩:=hq;exact St.exec_load 115 (.tmp 12) (by rfl) b 0 (by rfl) ds _ hq3 Tryz.underlying115 rfl (by rw [HDL.out];kernel_rfl)) (HS7.out _ hO7) ?_
 try simp only [zq]
 refine zr 6 rfl (fun K hK => ?_)
 go_simp
 refine (HPUT.out _ n8 HN8.out.2 (HA11.out.below ((Below.refl _ _).drew))).mono ?_
 rintro e w12 ⟨rfl,hA12,hO12⟩
 have hO7:=hO7.trans hO12 (fun _ _ h => h)
 refine hK.out _ _ (HS7.out _ hO7) (fun _ => ?_)
 clear hK K
 try simp only [zq]
 refine tq 7 rfl .nilIface (HS7.out _ hO7) ?_
 try simp only [zq]
 refine wpAnyH_done (by kernel_rfl) ?_ _
 try simp only [zq]
 have hk11:=(HB11.out.block w.heap.size (zx HK8.out)).trans HK8.out
 have hk12:=(hO7.block w.heap.size (zx hk11) (by have:=HALT.out;omega)).trans hk11
 have HR12:=zh (box_rng (cs:=[.int .i64 0,.int .i64 0]) hk12)
 have HTU:=zh (HTURN.out w12 (n8+1) (by have:=HN8.out;omega) (HT11.out.keep (hO7.block t HT11.out.lt HTA.out)) hA12)
 have HO12:Hid (Only (fun b => b=a) w w12):=(HO8.out.trans (Only.of_below (F:=fun b => b=a) HB11.out) (fun _ _ h => h)).trans hO7 (fun _ _ h => h)
 clear hk11 hk12 hA12 hO12 hO7
 go_wp2_with (refine wpList_load_mid (by rfl) 26 _ (by rfl) _ _ (by rfl) [.int .i64 0,.int .i64 0] _ HR12.out Tryz.underlying26 rfl (by kernel_rfl) ?_)
 refine HTU.out.mono ?_
 rintro e w13 ⟨rfl,hT13,⟨n13,h1,h2,hA13⟩,hO13⟩
 have HE:Hid (TrAt t a (turnR r us 0 i) w13/\(∃ nw',nw<=nw'/\nw'<=nw+5/\ArAt a (turnS S2 us 0 i) fr nw' w13)/\Only (fun b => b=t\/b=a) w w13):=⟨hT13,⟨n13,by have:=HN8.out;omega,by have:=HN8.out;omega,hA13⟩,(HO12.out.mono (fun _ _ => .inr)).trans hO13 (fun _ _ h => h)⟩
 clear hT13 h1 h2 hA13 hO13
 go_wp2
 go_ret
 exact ⟨rfl,HE.out⟩
theorem add_kid (h:TrAt t a r w) (hA:ArAt a S fr nw w) (hw:nw+5<=4611686018427387904) (hta:t≠a) (i us ub last:Int) (hub:ub≠0) (hne:us≠i) (hup:upOk S us ub=true) (hla:last=(sl S us).kids)
  (hi:thr i=true) (hu:(sl S i).used=true) (hc:canPush S last i=true) (x:Slt) (hx:x={ sl (pushS S last i) i with kids:=-1,s:={ (sl (pushS S last i) i).s with us:=us,ub:=ub } }) :
  Calls Tryz.prog 108 #[.pointer (some ⟨t,0,none⟩),.int .i64 i,.agg #[.int .i64 us,.int .i64 ub]] w fun e w' => e = .returned .nilIface/\TrAt t a (turnR r us ub i) w'/\(∃ nw',nw<=nw'/\nw'<=nw+5/\ArAt a (turnS (put (pushS S last i) i x) us ub i) fr nw' w')/\Only (fun b => b=t\/b=a) w w':=by
 obtain ⟨cs,hcs⟩:∃ cs,cs=(sl S i).cells:=⟨_,rfl⟩
 obtain ⟨W0,hW0⟩:∃ W0,W0=w.alloc (.cells #[.int .i64 us,.int .i64 ub] 26):=⟨_,rfl⟩
 have hb0:Below w.heap.size w W0:=by rw [hW0];exact (Below.refl _ _).alloc (Nat.le_refl _) _
 have hs0:W0.heap.size=w.heap.size+1:=by rw [hW0,World.size_alloc]
 have hk0:W0.heap[w.heap.size]? = some (.cells #[.int .i64 us,.int .i64 ub] 26 (0,0)):=by rw [hW0];exact World.alloc_heap_new _ _
 have hused:=used_ok (h.below hb0) (hA.below hb0) i hi hu
 rw [<- hcs] at hused
 have HUSED:=zh hused
 have hus2:ub=0\/thr us=true:=by
  unfold upOk at hup
  simp only [Bool.or_eq_true,Bool.and_eq_true,beq_iff_eq] at hup
  exact hup.imp id (fun h => h.1)
 have HPAR:Hid (∀ W,Below w.heap.size w W->Calls Tryz.prog 181 #[.pointer (some ⟨t,0,none⟩),.int .i64 i,.agg #[.int .i64 us,.int .i64 ub]] W fun e w' => e = .returned .nilIface/\Below W.heap.size W w'):=fun W hb => tparent_kid (h.below hb) (hA.below hb) i us ub hub (hus2.resolve_left hub) hne
 have HRING:Hid (∀ W,Below w.heap.size w W->Calls Tryz.prog 182 #[.pointer (some ⟨t,0,none⟩),.agg #[.int .i64 us,.int .i64 ub]] W fun e w' => e = .returned (.tuple #[.int .i64 last,.nilIface])/\Below W.heap.size W w'):=fun W hb => by
  rw [hla];have:=tring_ok (h.below hb) (hA.below hb) us ub hup;rwa [if_neg hub] at this
 have hub1:(ub == 0)=false:=by simpa using hub
 obtain ⟨S1,hS1⟩:∃ S1,S1=pushS S last i:=⟨_,rfl⟩
 rw [<- hS1] at hx ⊢
 obtain ⟨cs1,hcs1⟩:∃ cs1,cs1=(sl S1 i).cells:=⟨_,rfl⟩
 obtain ⟨ds,hds⟩:∃ ds,ds=x.cells:=⟨_,rfl⟩
 obtain ⟨S2,hS2⟩:∃ S2,S2=put S1 i x:=⟨_,rfl⟩
 rw [<- hS2]
 have HPUSH:Hid (∀ W,Below w.heap.size w W->Calls Tryz.prog 183 #[.pointer (some ⟨a,0,none⟩),.int .i64 last,.int .i64 i] W fun e w' => e = .returned (.tuple #[.int .i64 i,.nilIface])/\(∃ nw',nw<=nw'/\nw'<=nw+3/\ArAt a S1 fr nw' w')/\Only (fun b => b=a) W w'):=fun W hb => by
  rw [hS1];exact apush_ok (hA.below hb) (by omega) last i hc
 have HGET:Hid (∀ W n1,ArAt a S1 fr n1 W->Calls Tryz.prog 46 #[.pointer (some ⟨a,0,none⟩),.int .i64 i] W fun e w' => e = .returned (.tuple #[.agg cs1.toArray,.nilIface])/\Below W.heap.size W w'):=fun W n1 k => by
  rw [hcs1];exact aget_ok k i hi
 have HPUT:Hid (∀ W n1,n1<=nw+3->ArAt a S1 fr n1 W->Calls Tryz.prog 107 #[.pointer (some ⟨a,0,none⟩),.int .i64 i,.agg ds.toArray] W fun e w' => e = .returned .nilIface/\ArAt a S2 fr (n1+1) w'/\Only (fun b => b=a) W w'):=fun W n1 hn k => by
  rw [hds,hS2];exact aput_ok k (by omega) i hi x
 have HTURN:Hid (∀ W n1,n1<=nw+4->TrAt t a r W->ArAt a S2 fr n1 W->Calls Tryz.prog 184 #[.pointer (some ⟨t,0,none⟩),.agg #[.int .i64 us,.int .i64 ub],.int .i64 i] W fun e w' => e = .returned .nilIface/\TrAt t a (turnR r us ub i) w'/\(∃ nw2,n1<=nw2/\nw2<=n1+1/\ArAt a (turnS S2 us ub i) fr nw2 w')/\Only (fun b => b=t\/b=a) W w'):=fun W n1 hn k1 k2 => tturn_ok k1 k2 (by omega) hta us ub i hus2
 have HCL:Hid (cs.length=17):=by show _=_;rw [hcs];rfl
 have HC1:Hid (∀ u ∈ cs,u.oneCell'=true):=by show ∀ _,_;rw [hcs];exact (sl S i).one
 have HCL1:Hid (cs1.length=17):=by show _=_;rw [hcs1];rfl
 have HC11:Hid (∀ u ∈ cs1,u.oneCell'=true):=by show ∀ _,_;rw [hcs1];exact (sl S1 i).one
 have HDL:Hid (ds.length=17):=by show _=_;rw [hds];rfl
 have HDS:Hid (((cs1.toArray.setIfInBounds 2 (.int .i64 (-1))).setIfInBounds 7 (.int .i64 us)).setIfInBounds 8 (.int .i64 ub)=ds.toArray):=by show _=_;rw [hcs1,hds,hx];rfl
 have HCC:Hid (cs1[2]? = some (.int .i64 (sl S1 i).kids)/\cs1[7]? = some (.int .i64 (sl S1 i).s.us)/\cs1[8]? = some (.int .i64 (sl S1 i).s.ub)):=by show _/\_/\_;rw [hcs1];exact ⟨rfl,rfl,rfl⟩
 have HT:=zh h;have HTA:=zh hta;have HALT:=zh hA.lt
 have HW0:=zh hW0;have HB0:=zh hb0;have HS0:=zh hs0;have HK0:=zh hk0
 clear hA hi hu hcs hused hla hc hta hus2 hcs1 hds hx hS1 hS2 hw hs0 hk0 hW0 hb0 h hub hne hup
 go_enter Tryz.func108,Tryz.ntmps108
 go_wp2_with fail
 rw [<- HW0.out]
 refine HUSED.out.mono ?_
 rintro e w3 ⟨rfl,hb3⟩
 obtain ⟨W4,hW4⟩:∃ W4,W4=w3.alloc (.cells cs.toArray 115):=⟨_,rfl⟩
 have hb34:Below W0.heap.size W0 W4:=by rw [hW4];exact hb3.alloc hb3.size _
 have hb4:Below w.heap.size w W4:=HB0.out.trans (hb34.mono HB0.out.size)
 have hk4:=(hb34.block w.heap.size (by have:=HS0.out;omega)).trans HK0.out
 have HW4:=zh hW4;have HB4:=zh hb4;have HK4:=zh hk4
 have HR4:=zh (box_rng (cs:=[.int .i64 us,.int .i64 ub]) hk4)
 clear hb34 hb4 hk4 hW4 hb3
 go_upto_region 2 with (first
  | (refine Ag.wpList_store_new (by rfl) 115 (.tmp 7) (.tmp 18) (by rfl) cs (by rfl) (by rfl) (by rw [HCL.out];kernel_rfl) (by rw [HCL.out];rfl) HC1.out ?_))
 rw [<- HW4.out]
 go_wp2_with (refine wpList_load_mid (by rfl) 26 _ (by rfl) _ _ (by rfl) [.int .i64 us,.int .i64 ub] _ HR4.out Tryz.underlying26 rfl (by kernel_rfl) ?_)
 refine (HPAR.out _ HB4.out).mono ?_
 rintro e w5 ⟨rfl,hb5⟩
 have hk5:=(hb5.block w.heap.size (zx HK4.out)).trans HK4.out
 have c51:w5.cell? ⟨w.heap.size,1,none⟩=some (.int .i64 ub):=zl hk5 rfl
 have hb5w:Below w.heap.size w w5:=HB4.out.trans (hb5.mono HB4.out.size)
 obtain ⟨W6,hW6⟩:∃ W6,W6=w5:=⟨_,rfl⟩
 have hk6:W6.heap[w.heap.size]? = some (.cells #[.int .i64 us,.int .i64 ub] 26 (0,0)):=by rw [hW6];exact hk5
 have hb6:Below w.heap.size w W6:=by rw [hW6];exact hb5w
 have HW6:=zh hW6;have HK6:=zh hk6;have HB6:=zh hb6
 have HR6:=zh (box_rng (cs:=[.int .i64 us,.int .i64 ub]) hk6)
 clear hb5 hb5w hk5 hk6 hb6 hW6
 rw [<- HW6.out] at c51 ⊢
 go_wp2_with (refine wpList_load_mid (by rfl) 26 _ (by rfl) _ _ (by rfl) [.int .i64 us,.int .i64 ub] _ HR6.out Tryz.underlying26 rfl (by kernel_rfl) ?_)
 refine (HRING.out _ HB6.out).mono ?_
 rintro e w7 ⟨rfl,hb7⟩
 have HK7:=zh ((hb7.block w.heap.size (zx HK6.out)).trans HK6.out)
 have HB7:Hid (Below w.heap.size w w7):=HB6.out.trans (hb7.mono HB6.out.size)
 have c7:=(HT.out.below HB7.out).arena
 clear hb7
 go_wp2_with fail
 refine (HPUSH.out _ HB7.out).mono ?_
 rintro e w8 ⟨rfl,⟨n8,hn8,hn8',hA8⟩,hO8⟩
 have HT8:Hid (TrAt t a r w8):=(HT.out.below HB7.out).keep (hO8.block t (HT.out.below HB7.out).lt HTA.out)
 have HK8:=zh ((hO8.block w.heap.size (zx HK7.out) (by have:=HALT.out;omega)).trans HK7.out)
 have HO8:Hid (Only (fun b => b=a) w w8):=(Only.of_below (F:=fun b => b=a) HB7.out).trans hO8 (fun _ _ h => h)
 have HN8:Hid (nw<=n8/\n8<=nw+3):=⟨hn8,hn8'⟩
 have HA8:=zh hA8
 have c8:=HT8.out.arena
 clear hn8 hn8' hA8 hO8 c7
 go_wp2_with fail
 refine (HGET.out w8 n8 HA8.out).mono ?_
 rintro e w9 ⟨rfl,hb9⟩
 obtain ⟨W10,hW10⟩:∃ W10,W10=w9.alloc (.cells cs1.toArray 115):=⟨_,rfl⟩
 obtain ⟨b,hb⟩:∃ b,b=w9.heap.size:=⟨_,rfl⟩
 have hr10:W10.heap[b]? = some (.cells cs1.toArray 115 (0,0)):=by rw [hW10,hb];exact World.alloc_heap_new _ _
 have hb10:Below w8.heap.size w8 W10:=by rw [hW10];exact hb9.alloc hb9.size _
 have hge:w8.heap.size<=b:=by rw [hb];exact hb9.size
 have hk10:=(hb10.block w.heap.size (zx HK8.out)).trans HK8.out
 have d0:W10.cell? ⟨w.heap.size,0,none⟩=some (.int .i64 us):=zl hk10 rfl
 have d1:W10.cell? ⟨w.heap.size,1,none⟩=some (.int .i64 ub):=zl hk10 rfl
 have d2:W10.cell? ⟨b,2,none⟩=some (.int .i64 (sl S1 i).kids):=by rw [zc hr10,List.getElem?_toArray];exact HCC.out.1
 have d7:W10.cell? ⟨b,7,none⟩=some (.int .i64 (sl S1 i).s.us):=by rw [zc hr10,List.getElem?_toArray];exact HCC.out.2.1
 have d8:W10.cell? ⟨b,8,none⟩=some (.int .i64 (sl S1 i).s.ub):=by rw [zc hr10,List.getElem?_toArray];exact HCC.out.2.2
 have f2:W10.frozen? ⟨b,2,none⟩=false:=by unfold World.frozen?;rw [hr10];rfl
 have f7:W10.frozen? ⟨b,7,none⟩=false:=by unfold World.frozen?;rw [hr10];rfl
 have f8:W10.frozen? ⟨b,8,none⟩=false:=by unfold World.frozen?;rw [hr10];rfl
 obtain ⟨W11,hW11⟩:∃ W11,W11=(((W10.setCell ⟨b,2,none⟩ (.int .i64 (-1))).setCell ⟨b,7,none⟩ (.int .i64 us)).setCell ⟨b,8,none⟩ (.int .i64 ub)).drew:=⟨_,rfl⟩
 have hr11:W11.heap[b]? = some (.cells ds.toArray 115 (0,0)):=by
  rw [hW11]
  show (((W10.setCell ⟨b,2,none⟩ (.int .i64 (-1))).setCell ⟨b,7,none⟩ (.int .i64 us)).setCell ⟨b,8,none⟩ (.int .i64 ub)).heap[b]? = _
  rw [heap_setCell_same _ _ _ _ _ _ (heap_setCell_same _ _ _ _ _ _ (heap_setCell_same _ _ _ _ _ _ hr10)),<- HDS.out]
 have hb11:Below w8.heap.size w8 W11:=by rw [hW11];exact (((hb10.setCell (p:=⟨b,2,none⟩) hge _).setCell (p:=⟨b,7,none⟩) hge _).setCell (p:=⟨b,8,none⟩) hge _).drew
 have HW10:=zh hW10;have HBQ:=zh hb;have HW11:=zh hW11;have HR11:=zh hr11;have HB11:=zh hb11;have HGE:=zh hge
 have hne0:b≠w.heap.size:=by have:=HO8.out.size;have:=(zx HK8.out);omega
 have HNE:=zh hne0
 clear hr10 hb10 hk10 hr11 hb11 hW10 hW11 hb hb9 c8 hge
 go_upto_region 16 with (first
  | (refine Ag.wpList_store_new (by rfl) 115 (.tmp 12) (.tmp 63) (by rfl) cs1 (by rfl) (by rfl) (by rw [HCL1.out];kernel_rfl) (by rw [HCL1.out];rfl) HC11.out ?_))
 rw [<- HW10.out,<- HBQ.out]
 go_wp2_with fail
 go_region
 rw [<- HW11.out]
 clear d0 d1 d2 d7 d8 f2 f7 f8
 go_wp2_with fail
 have HT11:Hid (TrAt t a r W11):=HT8.out.below HB11.out
 have HA11:Hid (ArAt a S1 fr n8 W11):=HA8.out.below HB11.out
 have HBA:Hid (b≠a):=by have:=HGE.out;have:=HALT.out;have:=HO8.out.size;show _≠_;omega
 have HS7:Hid (∀ W':World,Only (fun b => b=a) W11 W'->W'.cell? ⟨t,0,none⟩=some (.pointer (some ⟨a,0,none⟩))/\W'.rangeAt b 0 ds):=fun W' ho => ⟨(ho.cell (p:=⟨t,0,none⟩) HT11.out.lt HTA.out).trans HT11.out.arena,fun j u hu => by rw [ho.cell (p:=⟨b,0+j,none⟩) (zx HR11.out) HBA.out,zc HR11.out,Nat.zero_add];simpa using hu⟩
 have hO7:Only (fun b => b=a) W11 W11.drew:=(Only.refl _ _).drew
 refine wp_region_held_drew (S:=fun W' => W'.cell? ⟨t,0,none⟩=some (.pointer (some ⟨a,0,none⟩))/\W'.rangeAt b 0 ds) (by kernel_rfl) (HS7.out _ hO7) (fun _ => ?_)
 refine tq 0 rfl (.pointer (some ⟨t,0,none⟩)) (HS7.out _ hO7) ?_
 try simp only [zq]
 refine tq 1 rfl (.pointer (some ⟨t,0,none⟩)) (HS7.out _ hO7) ?_
 try simp only [zq]
 refine tq 2 rfl (.pointer (some ⟨t,0,none⟩)) (HS7.out _ hO7) ?_
 try simp only [zq]
 refine tq 3 rfl (.pointer (some ⟨a,0,none⟩)) (HS7.out _ hO7) ?_
 try simp only [zq]
 refine tq 4 rfl (.int .i64 i) (HS7.out _ hO7) ?_
 try simp only [zq]
 refine tk 5 rfl (.agg ds.toArray) (fun wq hq => by obtain ⟨hq1,hq3⟩:=hq;exact St.exec_load 115 (.tmp 12) (by rfl) b 0 (by rfl) ds _ hq3 Tryz.underlying115 rfl (by rw [HDL.out];kernel_rfl)) (HS7.out _ hO7) ?_
 try simp only [zq]
 refine zr 6 rfl (fun K hK => ?_)
 go_simp
 refine (HPUT.out _ n8 HN8.out.2 (HA11.out.below ((Below.refl _ _).drew))).mono ?_
 rintro e w12 ⟨rfl,hA12,hO12⟩
 have hO7:=hO7.trans hO12 (fun _ _ h => h)
 refine hK.out _ _ (HS7.out _ hO7) (fun _ => ?_)
 clear hK K
 try simp only [zq]
 refine tq 7 rfl .nilIface (HS7.out _ hO7) ?_
 try simp only [zq]
 refine wpAnyH_done (by kernel_rfl) ?_ _
 try simp only [zq]
 have hk11:=(HB11.out.block w.heap.size (zx HK8.out)).trans HK8.out
 have hk12:=(hO7.block w.heap.size (zx hk11) (by have:=HALT.out;omega)).trans hk11
 have HR12:=zh (box_rng (cs:=[.int .i64 us,.int .i64 ub]) hk12)
 have HTU:=zh (HTURN.out w12 (n8+1) (by have:=HN8.out;omega) (HT11.out.keep (hO7.block t HT11.out.lt HTA.out)) hA12)
 have HO12:Hid (Only (fun b => b=a) w w12):=(HO8.out.trans (Only.of_below (F:=fun b => b=a) HB11.out) (fun _ _ h => h)).trans hO7 (fun _ _ h => h)
 clear hk11 hk12 hA12 hO12 hO7
 go_wp2_with (refine wpList_load_mid (by rfl) 26 _ (by rfl) _ _ (by rfl) [.int .i64 us,.int .i64 ub] _ HR12.out Tryz.underlying26 rfl (by kernel_rfl) ?_)
 refine HTU.out.mono ?_
 rintro e w13 ⟨rfl,hT13,⟨n13,h1,h2,hA13⟩,hO13⟩
 have HE:Hid (TrAt t a (turnR r us ub i) w13/\(∃ nw',nw<=nw'/\nw'<=nw+5/\ArAt a (turnS S2 us ub i) fr nw' w13)/\Only (fun b => b=t\/b=a) w w13):=⟨hT13,⟨n13,by have:=HN8.out;omega,by have:=HN8.out;omega,hA13⟩,(HO12.out.mono (fun _ _ => .inr)).trans hO13 (fun _ _ h => h)⟩
 clear hT13 h1 h2 hA13 hO13
 go_wp2
 go_ret
 exact ⟨rfl,HE.out⟩
end
end Fr
end
section
open Go.RowKit
namespace Fr
open Vw (Sess)
theorem place_no {a:Nat} {S:List Slt} {fr:List Int} {nw:Nat} {w:World} (h:ArAt a S fr nw w) (i:Int) (hi:thr i=true) (hn:i ∉ fr) :
  Calls Tryz.prog 106 #[.pointer (some ⟨a,0,none⟩),.int .i64 i] w fun e w' => e = .returned (.iface 101 (.int .i64 10))/\w'=w:=by
 obtain ⟨⟨nx,fi,hA,hF,hT⟩,hd⟩:=h
 obtain ⟨h0,h1⟩:=thr_iff.1 hi
 have hv:=hT i hi hn
 obtain ⟨k,rfl⟩:=Int.eq_ofNat_of_zero_le h0
 have hk:k<32:=by omega
 rw [Int.toNat_natCast] at hv
 have c5:=hA.next hk
 rw [hv] at c5
 have HTY:=zh (fun w => there_yes (k:Int) hi w)
 clear hA hF hT hd hv hn hi
 go_enter Tryz.func106,Tryz.ntmps106
 go_wp2_with (go_at_call 115;(with_reducible refine (HTY.out _).mono ?_);rintro e w' ⟨rfl,rfl⟩)
 go_ret
 exact ⟨rfl,rfl⟩
end Fr
end
end Go.Proofs.YtimhglmfckfclaaGreatDoor
