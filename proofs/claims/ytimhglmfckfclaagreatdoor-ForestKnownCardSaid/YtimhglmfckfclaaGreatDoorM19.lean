/- Parts of the proof. -/
import Derived.Test.YtimhglmfckfclaaGreatDoorM18
set_option linter.unusedVariables false
set_option linter.unusedSimpArgs false
set_option maxRecDepth 100000
set_option maxHeartbeats 16000000
namespace Go.Proofs.YtimhglmfckfclaaGreatDoor
section
open Go.RowKit Go.Maps
namespace Fr
open Vw (Sess)
section
variable {t a:Nat} {r:Int} {S:List Slt} {fr:List Int} {nw:Nat} {w:World}
theorem splice_none (one:Int) (h1:thr one=true) (w:World) :
  Calls Tryz.prog 225 #[.pointer (some ⟨a,0,none⟩),.int .i64 one,.int .i64 (-1)] w fun e w' => e = .returned (.tuple #[.int .i64 one,.nilIface])/\Below w.heap.size w w':=by
 have HY:=zh (fun w => rthere_yes one h1 w)
 obtain ⟨h2,h3⟩:=thr_iff.1 h1
 have e1:(one != -1)=true:=by rw [bne_iff_ne];omega
 have e2:(one == -1)=false:=by rw [beq_eq_false_iff_ne];omega
 clear h1 h2 h3
 go_enter Tryz.func225,Tryz.ntmps225
 go_wp2_with (go_at_call 190;(with_reducible refine (HY.out _).mono ?_);rintro e w' ⟨rfl,rfl⟩)
 refine bodyPost_ret (results_tmp2 rfl _ _ _) rfl ?_
 exact ⟨rfl,Below.refl _ _⟩
def spS (S:List Slt) (r k:Int):List Slt:=if k = -1 then S else spliceS S r k
def spL (r k:Int):Int:=if k = -1 then r else k
theorem asplice_any (h:ArAt a S fr nw w) (hw:nw+4<=4611686018427387904) (k:Int) (hr:thr r=true) (hc:k = -1\/canSplice S r k=true) :
  Calls Tryz.prog 225 #[.pointer (some ⟨a,0,none⟩),.int .i64 r,.int .i64 k] w fun e w' => e = .returned (.tuple #[.int .i64 (spL r k),.nilIface])/\(∃ nw',nw<=nw'/\nw'<=nw+4/\ArAt a (spS S r k) fr nw' w')/\Only (fun b => b=a) w w':=by
 unfold spL spS
 by_cases hk:k = -1
 ·subst hk
  rw [if_pos rfl,if_pos rfl]
  refine (splice_none r hr w).mono ?_
  rintro e w' ⟨rfl,hb⟩
  exact ⟨rfl,⟨nw,Nat.le_refl _,Nat.le_add_right _ _,h.below hb⟩,Only.of_below hb⟩
 ·rw [if_neg hk,if_neg hk]
  exact asplice_ok h hw r k (hc.resolve_left hk)
theorem gunit_ok (h:GbAt t a r w) (hA:ArAt a S fr nw w) (hw:nw+8<=4611686018427387904) (hta:t≠a) (f kd:Int) (hf:f=(sl S r).next) (hkd:kd=(sl S f).kids) (hr:thr r=true) (htf:thr f=true)
  (hc:kd = -1\/canSplice S r kd=true) (hd:canDrop (spS S r kd) (spL r kd) f=true) (hfr:f ∉ fr) :
  Calls Tryz.prog 131 #[.pointer (some ⟨t,0,none⟩)] w fun e w' => e = .returned (.tuple #[.int .i64 f,.nilIface])/\GbAt t a (dropL (spS S r kd) (spL r kd) f) w'/\(∃ nw',nw<=nw'/\nw'<=nw+8/\ArAt a (put (dropS (spS S r kd) f) f bare) (f :: fr) nw' w')/\Only (fun b => b=t\/b=a) w w':=by
 obtain ⟨S1,hS1⟩:∃ S1,S1=spS S r kd:=⟨_,rfl⟩
 obtain ⟨g1,hg1⟩:∃ g1,g1=spL r kd:=⟨_,rfl⟩
 obtain ⟨la,hla⟩:∃ la,la=dropL S1 g1 f:=⟨_,rfl⟩
 obtain ⟨S2,hS2⟩:∃ S2,S2=dropS S1 f:=⟨_,rfl⟩
 rw [<- hS1,<- hg1] at hd ⊢
 rw [<- hla,<- hS2]
 have hfirst:=gfirst_ok h hA f hf hr htf
 rw [<- hkd] at hfirst
 have HFI:=zh hfirst
 have HSPL:Hid (∀ W,Below w.heap.size w W->Calls Tryz.prog 225 #[.pointer (some ⟨a,0,none⟩),.int .i64 r,.int .i64 kd] W fun e w' => e = .returned (.tuple #[.int .i64 g1,.nilIface])/\(∃ nw',nw<=nw'/\nw'<=nw+4/\ArAt a S1 fr nw' w')/\Only (fun b => b=a) W w'):=fun W hb => by rw [hS1,hg1];exact asplice_any (hA.below hb) (by omega) kd hr hc
 have HDROP:Hid (∀ W n1,n1<=nw+4->ArAt a S1 fr n1 W->Calls Tryz.prog 226 #[.pointer (some ⟨a,0,none⟩),.int .i64 g1,.int .i64 f] W fun e w' => e = .returned (.tuple #[.int .i64 la,.nilIface])/\(∃ nw',n1<=nw'/\nw'<=n1+3/\ArAt a S2 fr nw' w')/\Only (fun b => b=a) W w'):=fun W n1 hn k => by rw [hla,hS2];exact adrop_ok k (by omega) g1 f hd
 have HFREE:Hid (∀ W n1,n1<=nw+7->ArAt a S2 fr n1 W->Calls Tryz.prog 227 #[.pointer (some ⟨a,0,none⟩),.int .i64 f] W fun e w' => e = .returned .nilIface/\ArAt a (put S2 f bare) (f :: fr) (n1+1) w'/\Only (fun b => b=a) W w'):=fun W n1 hn k => free_ok k (by omega) f htf hfr
 have HH:=zh h;have HTA:=zh hta;have HAT:Hid (a≠t):=fun e => hta e.symm
 clear h hA hw hta hf hkd hr htf hc hd hfr hfirst hS1 hg1 hla hS2
 go_enter Tryz.func131,Tryz.ntmps131
 go_wp2_with fail
 refine HFI.out.mono ?_
 rintro e w3 ⟨rfl,hb3⟩
 have HB3:=zh hb3;have HH3:=zh (HH.out.below hb3)
 clear hb3
 go_wp2_with fail
 have HS3:Hid (∀ W':World,Only (fun b => b=a) w3 W'->W'.cell? ⟨t,0,none⟩=some (.pointer (some ⟨a,0,none⟩))/\W'.cell? ⟨t,1,none⟩=some (.int .i64 r)):=fun W' ho => (HH3.out.only HTA.out ho).cells
 have hO3:Only (fun b => b=a) w3 w3.drew:=(Only.refl _ _).drew
 refine wp_region_held_drew (S:=fun W' => W'.cell? ⟨t,0,none⟩=some (.pointer (some ⟨a,0,none⟩))/\W'.cell? ⟨t,1,none⟩=some (.int .i64 r)) (by kernel_rfl) (HS3.out _ hO3) (fun _ => ?_)
 refine tq 0 rfl (.pointer (some ⟨t,0,none⟩)) (HS3.out _ hO3) ?_
 try simp only [zq]
 refine tq 1 rfl (.pointer (some ⟨t,0,none⟩)) (HS3.out _ hO3) ?_
 try simp only [zq]
 refine tq 2 rfl (.pointer (some ⟨t,0,none⟩)) (HS3.out _ hO3) ?_
 try simp only [zq]
 refine tq 3 rfl (.pointer (some ⟨a,0,none⟩)) (HS3.out _ hO3) ?_
 try simp only [zq]
 refine tq 4 rfl (.pointer (some ⟨t,0,none⟩)) (HS3.out _ hO3) ?_
 try simp only [zq]
 refine tq 5 rfl (.pointer (some ⟨t,0,none⟩)) (HS3.out _ hO3) ?_
 try simp only [zq]
 refine tq 6 rfl (.pointer (some ⟨t,1,none⟩)) (HS3.out _ hO3) ?_
 try simp only [zq]
 refine tq 7 rfl (.int .i64 r) (HS3.out _ hO3) ?_
 try simp only [zq]
 refine tq 8 rfl (.int .i64 kd) (HS3.out _ hO3) ?_
 try simp only [zq]
 refine zr 9 rfl (fun K hK => ?_)
 go_simp
 refine (HSPL.out _ (HB3.out.drew)).mono ?_
 rintro e w4 ⟨rfl,⟨n4,hn4,hn4',hA4⟩,hO4⟩
 have hO3:=hO3.trans hO4 (fun _ _ h => h)
 refine hK.out _ _ (HS3.out _ hO3) (fun _ => ?_)
 clear hK K
 try simp only [zq]
 refine tq 10 rfl (.tuple #[.int .i64 g1,.nilIface]) (HS3.out _ hO3) ?_
 try simp only [zq]
 refine tq 11 rfl (.int .i64 g1) (HS3.out _ hO3) ?_
 try simp only [zq]
 refine tq 12 rfl .nilIface (HS3.out _ hO3) ?_
 try simp only [zq]
 refine tq 13 rfl (.int .i64 g1) (HS3.out _ hO3) ?_
 try simp only [zq]
 refine tq 14 rfl .nilIface (HS3.out _ hO3) ?_
 try simp only [zq]
 refine wpAnyH_done (by kernel_rfl) ?_ _
 try simp only [zq]
 have hG4:=HH3.out.only HTA.out hO3
 have c4:=hG4.last
 have f4:=hG4.free 1
 have HH5:=zh (hG4.set g1)
 have HA5:Hid (ArAt a S1 fr n4 (w4.setCell ⟨t,1,none⟩ (.int .i64 g1))):=hA4.keep (Below.heap_setCell _ _ _ _ HAT.out)
 have HO5:Hid (Only (fun b => b=t\/b=a) w (w4.setCell ⟨t,1,none⟩ (.int .i64 g1))):=(((Only.of_below (F:=fun b => b=a) HB3.out).trans hO3 (fun _ _ h => h)).mono (fun _ _ => .inr)).setCell (p:=⟨t,1,none⟩) (fun _ => .inl rfl) _
 have HN4:Hid (nw<=n4/\n4<=nw+4):=⟨hn4,hn4'⟩
 clear hG4 hA4 hO4 hO3 hn4 hn4'
 go_wp2_with fail
 generalize hw5:w4.setCell ⟨t,1,none⟩ (.int .i64 g1)=w5 at HH5 HA5 HO5 ⊢
 clear hw5 c4 f4
 have HS5:Hid (∀ W':World,Only (fun b => b=a) w5 W'->W'.cell? ⟨t,0,none⟩=some (.pointer (some ⟨a,0,none⟩))/\W'.cell? ⟨t,1,none⟩=some (.int .i64 g1)):=fun W' ho => (HH5.out.only HTA.out ho).cells
 have hO5:Only (fun b => b=a) w5 w5.drew:=(Only.refl _ _).drew
 refine wp_region_held_drew (S:=fun W' => W'.cell? ⟨t,0,none⟩=some (.pointer (some ⟨a,0,none⟩))/\W'.cell? ⟨t,1,none⟩=some (.int .i64 g1)) (by kernel_rfl) (HS5.out _ hO5) (fun _ => ?_)
 refine tq 0 rfl (.pointer (some ⟨t,0,none⟩)) (HS5.out _ hO5) ?_
 try simp only [zq]
 refine tq 1 rfl (.pointer (some ⟨t,0,none⟩)) (HS5.out _ hO5) ?_
 try simp only [zq]
 refine tq 2 rfl (.pointer (some ⟨t,0,none⟩)) (HS5.out _ hO5) ?_
 try simp only [zq]
 refine tq 3 rfl (.pointer (some ⟨a,0,none⟩)) (HS5.out _ hO5) ?_
 try simp only [zq]
 refine tq 4 rfl (.pointer (some ⟨t,0,none⟩)) (HS5.out _ hO5) ?_
 try simp only [zq]
 refine tq 5 rfl (.pointer (some ⟨t,0,none⟩)) (HS5.out _ hO5) ?_
 try simp only [zq]
 refine tq 6 rfl (.pointer (some ⟨t,1,none⟩)) (HS5.out _ hO5) ?_
 try simp only [zq]
 refine tq 7 rfl (.int .i64 g1) (HS5.out _ hO5) ?_
 try simp only [zq]
 refine tq 8 rfl (.int .i64 f) (HS5.out _ hO5) ?_
 try simp only [zq]
 refine zr 9 rfl (fun K hK => ?_)
 go_simp
 refine (HDROP.out _ n4 HN4.out.2 (HA5.out.below ((Below.refl _ _).drew))).mono ?_
 rintro e w6 ⟨rfl,⟨n6,hn6,hn6',hA6⟩,hO6⟩
 have hO5:=hO5.trans hO6 (fun _ _ h => h)
 refine hK.out _ _ (HS5.out _ hO5) (fun _ => ?_)
 clear hK K
 try simp only [zq]
 refine tq 10 rfl (.tuple #[.int .i64 la,.nilIface]) (HS5.out _ hO5) ?_
 try simp only [zq]
 refine tq 11 rfl (.int .i64 la) (HS5.out _ hO5) ?_
 try simp only [zq]
 refine tq 12 rfl .nilIface (HS5.out _ hO5) ?_
 try simp only [zq]
 refine tq 13 rfl (.int .i64 la) (HS5.out _ hO5) ?_
 try simp only [zq]
 refine tq 14 rfl .nilIface (HS5.out _ hO5) ?_
 try simp only [zq]
 refine wpAnyH_done (by kernel_rfl) ?_ _
 try simp only [zq]
 have hG6:=HH5.out.only HTA.out hO5
 have c6:=hG6.last
 have f6:=hG6.free 1
 have HH7:=zh (hG6.set la)
 have HA7:Hid (ArAt a S2 fr n6 (w6.setCell ⟨t,1,none⟩ (.int .i64 la))):=hA6.keep (Below.heap_setCell _ _ _ _ HAT.out)
 have HO7:Hid (Only (fun b => b=t\/b=a) w (w6.setCell ⟨t,1,none⟩ (.int .i64 la))):=(HO5.out.trans (hO5.mono (fun _ _ => .inr)) (fun _ _ h => h)).setCell (p:=⟨t,1,none⟩) (fun _ => .inl rfl) _
 have HN6:Hid (nw<=n6/\n6<=nw+7):=⟨by have:=HN4.out;omega,by have:=HN4.out;omega⟩
 have c7:=HH7.out.arena
 clear hG6 hA6 hO6 hO5 hn6 hn6'
 go_wp2_with fail
 generalize hw7:w6.setCell ⟨t,1,none⟩ (.int .i64 la)=w7 at HH7 HA7 HO7 ⊢
 refine (HFREE.out w7 n6 HN6.out.2 HA7.out).mono ?_
 rintro e w8 ⟨rfl,hA8,hO8⟩
 have HE:Hid (GbAt t a la w8/\(∃ nw',nw<=nw'/\nw'<=nw+8/\ArAt a (put S2 f bare) (f :: fr) nw' w8)/\Only (fun b => b=t\/b=a) w w8):=⟨HH7.out.only HTA.out hO8,⟨n6+1,by have:=HN6.out;omega,by have:=HN6.out;omega,hA8⟩,HO7.out.trans (hO8.mono (fun _ _ => .inr)) (fun _ _ h => h)⟩
 clear hA8 hO8 c6 f6 c7
 go_wp2
 refine bodyPost_ret (results_tmp2 rfl _ _ _) rfl ?_
 exact ⟨rfl,HE.out⟩
theorem gUnit_ok (h:GbAt t a r w) (hA:ArAt a S fr nw w) (hw:nw+8<=4611686018427387904) (hta:t≠a) (f kd:Int) (hf:f=(sl S r).next) (hkd:kd=(sl S f).kids) (hr:thr r=true) (htf:thr f=true)
  (hc:kd = -1\/canSplice S r kd=true) (hd:canDrop (spS S r kd) (spL r kd) f=true) (hfr:f ∉ fr) :
  Calls Tryz.prog 65 #[.pointer (some ⟨t,0,none⟩)] w fun e w' => e = .returned (.tuple #[.int .i64 f,.bool true])/\GbAt t a (dropL (spS S r kd) (spL r kd) f) w'/\(∃ nw',nw<=nw'/\nw'<=nw+8/\ArAt a (put (dropS (spS S r kd) f) f bare) (f :: fr) nw' w')/\Only (fun b => b=t\/b=a) w w':=by
 have HU:=zh (gunit_ok h hA hw hta f kd hf hkd hr htf hc hd hfr)
 clear h hA hw hta hf hkd hr htf hc hd hfr
 go_enter Tryz.func65,Tryz.ntmps65
 go_wp2_with fail
 refine HU.out.mono ?_
 rintro e w3 ⟨rfl,h1⟩
 have H1:=zh h1
 clear h1
 go_wp2
 refine bodyPost_ret (results_tmp2 rfl _ _ _) rfl ?_
 exact ⟨rfl,H1.out⟩
end
end Fr
end
end Go.Proofs.YtimhglmfckfclaaGreatDoor
