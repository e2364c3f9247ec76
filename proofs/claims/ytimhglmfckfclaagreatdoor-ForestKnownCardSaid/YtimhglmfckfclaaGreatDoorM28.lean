/- Parts of the proof. -/
import Derived.Test.YtimhglmfckfclaaGreatDoorM27
set_option linter.unusedVariables false
set_option linter.unusedSimpArgs false
set_option maxRecDepth 100000
set_option maxHeartbeats 16000000
namespace Go.Proofs.YtimhglmfckfclaaGreatDoor
section
open Go.RowKit Go.Maps
namespace Ev
open Vw (Sess)
open Pk (WrAt WrPost sevens bts bV)
theorem encode_no (x:Evt) (h:∀ s,x = .birth s->s.user.size<=9223372036854775807/\s.label.size<=9223372036854775807) (hm:x.may=false) (w:World) :
  Calls Tryz.prog 104 #[.agg x.cells.toArray] w (EncPost x w):=by
 have HOF:Hid (∀ w,Calls Tryz.prog 174 #[.agg x.cells.toArray] w fun e w' => e = .returned .nilIface/\Below w.heap.size w w'):=fun w => by
  have:=of_any x h w
  rwa [hm] at this
 obtain ⟨cs,hcs⟩:∃ cs,cs=x.cells:=⟨_,rfl⟩
 have HP:Hid (∀ w',Below w.heap.size w w'->EncPost x w (.returned (.tuple #[.slice none 0 0,.iface 101 (.int .i64 1)])) w'):=fun w' hb => ⟨.inr ⟨hm,rfl⟩,hb⟩
 cases x with
 | birth s =>
  obtain ⟨a1,a2,a3,a4,a5,a6,a7,a8,a9,a10,a11,a12⟩:=s
  simp only [Vw.Sess.cells,Evt.cells,List.cons_append,List.nil_append] at HOF ⊢
  clear h hm hcs
  go_enter Tryz.func104,Tryz.ntmps104
  go_wp2_with fail
  refine (HOF.out _).mono ?_
  rintro e w2 ⟨rfl,hb2⟩
  have HE:=zh (HP.out w2 (((Below.refl _ _).alloc (Nat.le_refl _) _).trans (hb2.mono (by simp))))
  clear hb2
  go_wp2
  refine bodyPost_ret (results_tmp2 rfl _ _ _) rfl ?_
  exact HE.out
 | revoke b =>
  simp only [Fr.s0,Vw.Sess.cells,Evt.cells,List.cons_append,List.nil_append] at HOF ⊢
  clear h hm hcs
  go_enter Tryz.func104,Tryz.ntmps104
  go_wp2_with fail
  refine (HOF.out _).mono ?_
  rintro e w2 ⟨rfl,hb2⟩
  have HE:=zh (HP.out w2 (((Below.refl _ _).alloc (Nat.le_refl _) _).trans (hb2.mono (by simp))))
  clear hb2
  go_wp2
  refine bodyPost_ret (results_tmp2 rfl _ _ _) rfl ?_
  exact HE.out
 | tick b =>
  simp only [Fr.s0,Vw.Sess.cells,Evt.cells,List.cons_append,List.nil_append] at HOF ⊢
  clear h hm hcs
  go_enter Tryz.func104,Tryz.ntmps104
  go_wp2_with fail
  refine (HOF.out _).mono ?_
  rintro e w2 ⟨rfl,hb2⟩
  have HE:=zh (HP.out w2 (((Below.refl _ _).alloc (Nat.le_refl _) _).trans (hb2.mono (by simp))))
  clear hb2
  go_wp2
  refine bodyPost_ret (results_tmp2 rfl _ _ _) rfl ?_
  exact HE.out
theorem la {a b:List Nat} {x y:Nat} (h:a.length<=x) (k:b.length<=y):(a ++ b).length<=x+y:=by rw [List.length_append];exact Nat.add_le_add h k
theorem sevens_pos (v:Nat):0<(sevens v).length:=by
 unfold Pk.sevens Pk.sevF
 split <;> simp
theorem numsB_pos (n:Int) (ns:List Int):0<(numsB (n :: ns)).length:=by
 unfold numsB
 rw [List.flatMap_cons,List.length_append]
 have:=sevens_pos n.toNat
 omega
theorem nameB_le {l:List UInt8} (h:nameB l=true):l.length<=32:=by
 unfold nameB at h
 simp only [Bool.and_eq_true,decide_eq_true_eq] at h
 exact h.1.2
theorem may_sizes {s:Sess} (h:Fr.mayS s=true):s.user.size<=32/\s.label.size<=32:=by
 obtain ⟨-,-,m3,-,-,-,m7⟩:=Fr.mayS_iff.1 h
 refine ⟨nameB_le m3,?_⟩
 rcases m7 with ⟨_,_,h,_⟩ | ⟨_,_,_,_,_,h,_⟩
 ·omega
 ·exact nameB_le h
theorem encode_birth (s:Sess) (hm:Fr.mayS s=true) (hsc:s.scopes<18446744073709551616) (w:World) :
  Calls Tryz.prog 104 #[.agg (Evt.birth s).cells.toArray] w (EncPost (.birth s) w):=by
 have hsz:=may_sizes hm
 have HOF:Hid (∀ w,Calls Tryz.prog 174 #[.agg (Evt.birth s).cells.toArray] w fun e w' => e = .returned (Evt.birth s).what/\Below w.heap.size w w'):=fun w => by
  have:=of_birth s (by omega) (by omega) w
  rwa [hm] at this
 obtain ⟨m1,m2,m3,m4,m5,m6,m7⟩:=Fr.mayS_iff.1 hm
 have HNS1:Hid (∀ n ∈ [s.slot,s.birth,s.us,s.ub,s.kind],0<=n/\n<=9223372036854775807):=fun n hn => by
  simp only [List.mem_cons,List.not_mem_nil,or_false] at hn
  rcases hn with rfl | rfl | rfl | rfl | rfl <;> omega
 have HNS2:Hid (∀ n ∈ [s.level,s.born,s.dl,s.depth],0<=n/\n<=9223372036854775807):=fun n hn => by
  simp only [List.mem_cons,List.not_mem_nil,or_false] at hn
  rcases hn with rfl | rfl | rfl | rfl <;> omega
 have HP:Hid (∀ v w',v≠.slice none 0 0->w'.ownsRow w.heap.size 5 1 v (Evt.birth s).bytes.length ((Evt.birth s).bytes.map bV)->Below w.heap.size w w'->EncPost (.birth s) w (.returned (.tuple #[v,.nilIface])) w'):=fun v w' h1 h2 h3 => ⟨.inl ⟨hm,v,rfl,h1,h2⟩,h3⟩
 have HB0:Hid ((Evt.birth s).bytes=numsB [0] ++ numsB [s.slot,s.birth,s.us,s.ub,s.kind] ++ (sevens s.user.size ++ bts s.user) ++ (sevens s.label.size ++ bts s.label) ++ sevens s.scopes ++ numsB [s.level,s.born,s.dl,s.depth]):=rfl
 have HSZ:=zh hsz;have HSC:=zh hsc
 obtain ⟨out,hout⟩:∃ out,out=(Evt.birth s).bytes:=⟨_,rfl⟩
 rw [<- hout] at HB0 HP
 clear hm hsz hsc m1 m2 m3 m4 m5 m6 m7 hout
 obtain ⟨a1,a2,a3,a4,a5,a6,a7,a8,a9,a10,a11,a12⟩:=s
 simp only [Vw.Sess.cells,Evt.cells,Evt.what,List.cons_append,List.nil_append] at HOF HNS1 HNS2 HSZ HSC HB0 ⊢
 have HOB:Hid (Below w.heap.size w (w.alloc (.cells #[.int .i64 0,.int .i64 a1,.int .i64 a2,.int .i64 a3,.int .i64 a4,.int .i64 a5,.string a6,.string a7,.int .u64 (a8:Int),.int .i64 a9,.int .i64 a10,.int .i64 a11,.int .i64 a12,.int .i64 0,.int .i64 0] 185))):=(Below.refl _ _).alloc (Nat.le_refl _) _
 have HE0:Hid ((w.alloc (.cells #[.int .i64 0,.int .i64 a1,.int .i64 a2,.int .i64 a3,.int .i64 a4,.int .i64 a5,.string a6,.string a7,.int .u64 (a8:Int),.int .i64 a9,.int .i64 a10,.int .i64 a11,.int .i64 a12,.int .i64 0,.int .i64 0] 185)).heap[w.heap.size]? = some (.cells #[.int .i64 0,.int .i64 a1,.int .i64 a2,.int .i64 a3,.int .i64 a4,.int .i64 a5,.string a6,.string a7,.int .u64 (a8:Int),.int .i64 a9,.int .i64 a10,.int .i64 a11,.int .i64 a12,.int .i64 0,.int .i64 0] 185 (0,0))):=World.alloc_heap_new _ _
 go_enter Tryz.func104,Tryz.ntmps104
 go_wp2_with fail
 refine (HOF.out _).mono ?_
 rintro e w2 ⟨rfl,hb2⟩
 have HB2:Hid (Below w.heap.size w w2):=HOB.out.trans (hb2.mono HOB.out.size)
 have he2:=(hb2.block w.heap.size (by simp)).trans HE0.out
 have HE2:=zh he2
 clear hb2 he2
 go_wp2_with fail
 refine (Pk.wnew_any _).mono ?_
 rintro e w3 ⟨rfl,hw3,hb3⟩
 obtain ⟨p,hp⟩:∃ p,p=w2.heap.size:=⟨_,rfl⟩
 rw [<- hp] at hw3 ⊢
 have he3:=(hb3.block w.heap.size (zx HE2.out)).trans HE2.out
 have hst3:St p [(w.heap.size,.cells #[.int .i64 0,.int .i64 a1,.int .i64 a2,.int .i64 a3,.int .i64 a4,.int .i64 a5,.string a6,.string a7,.int .u64 (a8:Int),.int .i64 a9,.int .i64 a10,.int .i64 a11,.int .i64 a12,.int .i64 0,.int .i64 0] 185 (0,0))] [] w w3 :=
  ⟨_,hw3,fun q hq => by rw [List.mem_singleton] at hq;subst hq;exact ⟨he3,fun h => by have h2:=(zx HE2.out);have h3:w.heap.size=p:=h;omega⟩,HB2.out.trans (hb3.mono HB2.out.size),by rw [hp];exact HB2.out.size⟩
 obtain ⟨bo,hbo⟩:∃ bo,bo=w3.heap.size:=⟨_,rfl⟩
 have hst4:=hst3.add (.cells #[.pointer (some ⟨p,0,none⟩)] 268)
 rw [<- hbo] at hst4
 obtain ⟨W4,hW4⟩:∃ W4,W4=w3.alloc (.cells #[.pointer (some ⟨p,0,none⟩)] 268):=⟨_,rfl⟩
 rw [<- hW4] at hst4
 have HST4:=zh hst4;have HW4:=zh hW4;have HBO:=zh hbo
 clear hw3 hb3 he3 hst3 hst4 hp hW4 hbo
 go_upto_region 6 with fail
 have hta:∀ (v:Value) (W:World),(Instr.typeAssert (.iface 273 v) 266 273 true).run Tryz.prog W = .ok (.tuple #[v,.bool true]) W:=fun v W => by kernel_rfl
 rw [<- HW4.out,<- HBO.out]
 have de:W4.cell? ⟨w.heap.size,0,none⟩=some (.int .i64 0):=by rw [zc (HST4.out.row (b:=w.heap.size) (o:=(w.heap.size,Obj.cells #[.int .i64 0,.int .i64 a1,.int .i64 a2,.int .i64 a3,.int .i64 a4,.int .i64 a5,.string a6,.string a7,.int .u64 (a8:Int),.int .i64 a9,.int .i64 a10,.int .i64 a11,.int .i64 a12,.int .i64 0,.int .i64 0] 185 (0,0)).2) (by simp))];rfl
 go_wp2_with fail
 refine (enc_nums HST4.out (bo:=bo) (by simp) [0] (by decide) (by decide) (by decide) _).mono ?_
 rintro e w5 ⟨rfl,hst5⟩
 obtain ⟨sb,hsb⟩:∃ sb,sb=w5.heap.size+1:=⟨_,rfl⟩
 have hst6:=(hst5.add (.cells #[.int .i64 a1,.int .i64 a2,.int .i64 a3,.int .i64 a4,.int .i64 a5,.string a6,.string a7,.int .u64 (a8:Int),.int .i64 a9,.int .i64 a10,.int .i64 a11,.int .i64 a12] 273)).add (.cells #[.int .i64 a1,.int .i64 a2,.int .i64 a3,.int .i64 a4,.int .i64 a5,.string a6,.string a7,.int .u64 (a8:Int),.int .i64 a9,.int .i64 a10,.int .i64 a11,.int .i64 a12] 30)
 rw [World.size_alloc,<- hsb] at hst6
 obtain ⟨W6,hW6⟩:∃ W6,W6=(w5.alloc (.cells #[.int .i64 a1,.int .i64 a2,.int .i64 a3,.int .i64 a4,.int .i64 a5,.string a6,.string a7,.int .u64 (a8:Int),.int .i64 a9,.int .i64 a10,.int .i64 a11,.int .i64 a12] 273)).alloc (.cells #[.int .i64 a1,.int .i64 a2,.int .i64 a3,.int .i64 a4,.int .i64 a5,.string a6,.string a7,.int .u64 (a8:Int),.int .i64 a9,.int .i64 a10,.int .i64 a11,.int .i64 a12] 30):=⟨_,rfl⟩
 rw [<- hW6] at hst6
 have HST6:=zh hst6;have HW6:=zh hW6;have HSB:=zh hsb
 have H1:Hid ((numsB [0]).length<=10):=numsB_len [0]
 have H2:Hid ((numsB [a1,a2,a3,a4,a5]).length<=50):=numsB_len [a1,a2,a3,a4,a5]
 have H3:Hid ((numsB [a9,a10,a11,a12]).length<=40):=numsB_len [a9,a10,a11,a12]
 have H4:Hid ((sevens a6.size ++ bts a6).length<=10+32):=la (Pk.sevens_len _) (by rw [Pk.bts_len];exact HSZ.out.1)
 have H5:Hid ((sevens a7.size ++ bts a7).length<=10+32):=la (Pk.sevens_len _) (by rw [Pk.bts_len];exact HSZ.out.2)
 have H6:Hid ((sevens a8).length<=10):=Pk.sevens_len _
 clear de hst5 hst6 hW6 hsb
 go_upto_region 11 with fail
 rw [<- HW6.out,<- HSB.out]
 have d0:W6.cell? ⟨sb,0,none⟩=some (.int .i64 a1):=by rw [zc (HST6.out.row (b:=sb) (o:=(sb,Obj.cells #[.int .i64 a1,.int .i64 a2,.int .i64 a3,.int .i64 a4,.int .i64 a5,.string a6,.string a7,.int .u64 (a8:Int),.int .i64 a9,.int .i64 a10,.int .i64 a11,.int .i64 a12] 30 (0,0)).2) (by simp))];rfl
 have d1:W6.cell? ⟨sb,1,none⟩=some (.int .i64 a2):=by rw [zc (HST6.out.row (b:=sb) (o:=(sb,Obj.cells #[.int .i64 a1,.int .i64 a2,.int .i64 a3,.int .i64 a4,.int .i64 a5,.string a6,.string a7,.int .u64 (a8:Int),.int .i64 a9,.int .i64 a10,.int .i64 a11,.int .i64 a12] 30 (0,0)).2) (by simp))];rfl
 have d2:W6.cell? ⟨sb,2,none⟩=some (.int .i64 a3):=by rw [zc (HST6.out.row (b:=sb) (o:=(sb,Obj.cells #[.int .i64 a1,.int .i64 a2,.int .i64 a3,.int .i64 a4,.int .i64 a5,.string a6,.string a7,.int .u64 (a8:Int),.int .i64 a9,.int .i64 a10,.int .i64 a11,.int .i64 a12] 30 (0,0)).2) (by simp))];rfl
 have d3:W6.cell? ⟨sb,3,none⟩=some (.int .i64 a4):=by rw [zc (HST6.out.row (b:=sb) (o:=(sb,Obj.cells #[.int .i64 a1,.int .i64 a2,.int .i64 a3,.int .i64 a4,.int .i64 a5,.string a6,.string a7,.int .u64 (a8:Int),.int .i64 a9,.int .i64 a10,.int .i64 a11,.int .i64 a12] 30 (0,0)).2) (by simp))];rfl
 have d4:W6.cell? ⟨sb,4,none⟩=some (.int .i64 a5):=by rw [zc (HST6.out.row (b:=sb) (o:=(sb,Obj.cells #[.int .i64 a1,.int .i64 a2,.int .i64 a3,.int .i64 a4,.int .i64 a5,.string a6,.string a7,.int .u64 (a8:Int),.int .i64 a9,.int .i64 a10,.int .i64 a11,.int .i64 a12] 30 (0,0)).2) (by simp))];rfl
 go_wp2_with fail
 refine (enc_nums HST6.out (bo:=bo) (by simp) [a1,a2,a3,a4,a5] (by simp) (Nat.le_trans (la (Nat.le_refl 0) H1.out) (by decide)) HNS1.out _).mono ?_
 rintro e w7 ⟨rfl,hst7⟩
 have HST7:=zh hst7
 clear d0 d1 d2 d3 d4 hst7
 have d5:w7.cell? ⟨sb,5,none⟩=some (.string a6):=by rw [zc (HST7.out.row (b:=sb) (o:=(sb,Obj.cells #[.int .i64 a1,.int .i64 a2,.int .i64 a3,.int .i64 a4,.int .i64 a5,.string a6,.string a7,.int .u64 (a8:Int),.int .i64 a9,.int .i64 a10,.int .i64 a11,.int .i64 a12] 30 (0,0)).2) (by simp))];rfl
 have db:w7.cell? ⟨bo,0,none⟩=some (.pointer (some ⟨p,0,none⟩)):=by rw [zc (HST7.out.row (b:=bo) (o:=(bo,Obj.cells #[.pointer (some ⟨p,0,none⟩)] 268 (0,0)).2) (by simp))];rfl
 go_wp2_with fail
 refine (enc_text HST7.out a6 (by have:=HSZ.out.1;have:=HSZ.out.2;omega) (Nat.le_trans (la (la (Nat.le_refl 0) H1.out) H2.out) (by decide))).mono ?_
 rintro e w8 ⟨rfl,hst8⟩
 have HST8:=zh hst8
 clear d5 db hst8
 have d6:w8.cell? ⟨sb,6,none⟩=some (.string a7):=by rw [zc (HST8.out.row (b:=sb) (o:=(sb,Obj.cells #[.int .i64 a1,.int .i64 a2,.int .i64 a3,.int .i64 a4,.int .i64 a5,.string a6,.string a7,.int .u64 (a8:Int),.int .i64 a9,.int .i64 a10,.int .i64 a11,.int .i64 a12] 30 (0,0)).2) (by simp))];rfl
 have db:w8.cell? ⟨bo,0,none⟩=some (.pointer (some ⟨p,0,none⟩)):=by rw [zc (HST8.out.row (b:=bo) (o:=(bo,Obj.cells #[.pointer (some ⟨p,0,none⟩)] 268 (0,0)).2) (by simp))];rfl
 go_wp2_with fail
 refine (enc_text HST8.out a7 (by have:=HSZ.out.1;have:=HSZ.out.2;omega) (Nat.le_trans (la (la (la (Nat.le_refl 0) H1.out) H2.out) H4.out) (by decide))).mono ?_
 rintro e w9 ⟨rfl,hst9⟩
 have HST9:=zh hst9
 clear d6 db hst9
 have d7:w9.cell? ⟨sb,7,none⟩=some (.int .u64 (a8:Int)):=by rw [zc (HST9.out.row (b:=sb) (o:=(sb,Obj.cells #[.int .i64 a1,.int .i64 a2,.int .i64 a3,.int .i64 a4,.int .i64 a5,.string a6,.string a7,.int .u64 (a8:Int),.int .i64 a9,.int .i64 a10,.int .i64 a11,.int .i64 a12] 30 (0,0)).2) (by simp))];rfl
 have db:w9.cell? ⟨bo,0,none⟩=some (.pointer (some ⟨p,0,none⟩)):=by rw [zc (HST9.out.row (b:=bo) (o:=(bo,Obj.cells #[.pointer (some ⟨p,0,none⟩)] 268 (0,0)).2) (by simp))];rfl
 go_wp2_with fail
 refine (enc_number HST9.out a8 HSC.out (Nat.le_trans (la (la (la (la (Nat.le_refl 0) H1.out) H2.out) H4.out) H5.out) (by decide))).mono ?_
 rintro e w10 ⟨rfl,hst10⟩
 have HST10:=zh hst10
 clear d7 db hst10
 have d8:w10.cell? ⟨sb,8,none⟩=some (.int .i64 a9):=by rw [zc (HST10.out.row (b:=sb) (o:=(sb,Obj.cells #[.int .i64 a1,.int .i64 a2,.int .i64 a3,.int .i64 a4,.int .i64 a5,.string a6,.string a7,.int .u64 (a8:Int),.int .i64 a9,.int .i64 a10,.int .i64 a11,.int .i64 a12] 30 (0,0)).2) (by simp))];rfl
 have d9:w10.cell? ⟨sb,9,none⟩=some (.int .i64 a10):=by rw [zc (HST10.out.row (b:=sb) (o:=(sb,Obj.cells #[.int .i64 a1,.int .i64 a2,.int .i64 a3,.int .i64 a4,.int .i64 a5,.string a6,.string a7,.int .u64 (a8:Int),.int .i64 a9,.int .i64 a10,.int .i64 a11,.int .i64 a12] 30 (0,0)).2) (by simp))];rfl
 have d10:w10.cell? ⟨sb,10,none⟩=some (.int .i64 a11):=by rw [zc (HST10.out.row (b:=sb) (o:=(sb,Obj.cells #[.int .i64 a1,.int .i64 a2,.int .i64 a3,.int .i64 a4,.int .i64 a5,.string a6,.string a7,.int .u64 (a8:Int),.int .i64 a9,.int .i64 a10,.int .i64 a11,.int .i64 a12] 30 (0,0)).2) (by simp))];rfl
 have d11:w10.cell? ⟨sb,11,none⟩=some (.int .i64 a12):=by rw [zc (HST10.out.row (b:=sb) (o:=(sb,Obj.cells #[.int .i64 a1,.int .i64 a2,.int .i64 a3,.int .i64 a4,.int .i64 a5,.string a6,.string a7,.int .u64 (a8:Int),.int .i64 a9,.int .i64 a10,.int .i64 a11,.int .i64 a12] 30 (0,0)).2) (by simp))];rfl
 go_wp2_with fail
 refine (enc_nums HST10.out (bo:=bo) (by simp) [a9,a10,a11,a12] (by simp) (Nat.le_trans (la (la (la (la (la (Nat.le_refl 0) H1.out) H2.out) H4.out) H5.out) H6.out) (by decide)) HNS2.out _).mono ?_
 rintro e w11 ⟨rfl,hst11⟩
 have HST11:=zh hst11
 clear d8 d9 d10 d11 hst11
 have db:w11.cell? ⟨bo,0,none⟩=some (.pointer (some ⟨p,0,none⟩)):=by rw [zc (HST11.out.row (b:=bo) (o:=(bo,Obj.cells #[.pointer (some ⟨p,0,none⟩)] 268 (0,0)).2) (by simp))];rfl
 go_wp2_with fail
 refine (bytes_st HST11.out (Nat.le_trans (la (la (la (la (la (la (Nat.le_refl 0) H1.out) H2.out) H4.out) H5.out) H6.out) H3.out) (by decide)) (by rw [List.length_append];have:0<(numsB [a9,a10,a11,a12]).length:=numsB_pos _ _;omega)).mono ?_
 rintro e w12 ⟨v,rfl,k1,k2,k3⟩
 have HE:=zh (HP.out v w12 k1 (by rw [HB0.out];exact k2) k3)
 clear k1 k2 k3
 go_wp2
 refine bodyPost_ret (results_tmp2 rfl _ _ _) rfl ?_
 exact HE.out
end Ev
end
section
open Go.RowKit Go.Maps
namespace Fr
open Vw (Sess)
theorem alone_any (s:Sess) (hu:s.user.size<=9223372036854775807) (hl:s.label.size<=9223372036854775807) (hsc:s.scopes<18446744073709551616) (w:World) :
  Calls Tryz.prog 39 #[.agg s.cells.toArray] w fun e w' => e = .returned (.bool (mayS s))/\Below w.heap.size w w':=by
 obtain ⟨mb,hmb⟩:∃ mb,mb=mayS s:=⟨_,rfl⟩
 have HE:Hid (∀ W,Calls Tryz.prog 104 #[.agg (Ev.Evt.birth s).cells.toArray] W fun e w' => (∃ v,e = .returned (.tuple #[v,if mb then .nilIface else .iface 101 (.int .i64 1)]))/\Below W.heap.size W w'):=fun W => by
  rw [hmb]
  cases hm:mayS s with
  | true =>
   refine (Ev.encode_birth s hm hsc W).mono ?_
   rintro e w' ⟨h1,h2⟩
   rcases h1 with ⟨-,v,rfl,-⟩ | ⟨h1,-⟩
   ·exact ⟨⟨v,rfl⟩,h2⟩
   ·exact absurd (show mayS s=false from h1) (by rw [hm];decide)
  | false =>
   refine (Ev.encode_no (.birth s) (fun t e => by cases e;exact ⟨hu,hl⟩) hm W).mono ?_
   rintro e w' ⟨h1,h2⟩
   rcases h1 with ⟨h1,-⟩ | ⟨-,rfl⟩
   ·exact absurd (show mayS s=true from h1) (by rw [hm];decide)
   ·exact ⟨⟨_,rfl⟩,h2⟩
 rw [<- hmb]
 clear hmb hu hl hsc
 obtain ⟨a1,a2,a3,a4,a5,a6,a7,a8,a9,a10,a11,a12⟩:=s
 simp only [Vw.Sess.cells,Ev.Evt.cells,List.cons_append,List.nil_append] at HE ⊢
 have HB0:Hid (Below w.heap.size w (w.alloc (.cells #[.int .i64 a1,.int .i64 a2,.int .i64 a3,.int .i64 a4,.int .i64 a5,.string a6,.string a7,.int .u64 (a8:Int),.int .i64 a9,.int .i64 a10,.int .i64 a11,.int .i64 a12] 30))):=(Below.refl _ _).alloc (Nat.le_refl _) _
 cases mb with
 | true =>
  go_enter Tryz.func39,Tryz.ntmps39
  go_wp2_with fail
  refine (HE.out _).mono ?_
  rintro e w2 ⟨⟨v,rfl⟩,hb2⟩
  have HB:=zh (HB0.out.trans (hb2.mono HB0.out.size))
  clear hb2
  go_wp2
  go_ret
  exact ⟨rfl,HB.out⟩
 | false =>
  go_enter Tryz.func39,Tryz.ntmps39
  go_wp2_with fail
  refine (HE.out _).mono ?_
  rintro e w2 ⟨⟨v,rfl⟩,hb2⟩
  have HB:=zh (HB0.out.trans (hb2.mono HB0.out.size))
  clear hb2
  go_wp2
  go_ret
  exact ⟨rfl,HB.out⟩
theorem at_sess (s:Sess) (w:World):Calls Tryz.prog 49 #[.agg s.cells.toArray] w fun e w' => e = .returned (.agg #[.int .i64 s.slot,.int .i64 s.birth])/\Below w.heap.size w w':=by
 obtain ⟨a1,a2,a3,a4,a5,a6,a7,a8,a9,a10,a11,a12⟩:=s
 simp only [Vw.Sess.cells]
 have HB:Hid (Below w.heap.size w ((w.alloc (.cells #[.int .i64 a1,.int .i64 a2,.int .i64 a3,.int .i64 a4,.int .i64 a5,.string a6,.string a7,.int .u64 (a8:Int),.int .i64 a9,.int .i64 a10,.int .i64 a11,.int .i64 a12] 30)).alloc (.cells #[.int .i64 a1,.int .i64 a2] 26))):=((Below.refl _ _).alloc (Nat.le_refl _) _).alloc (by simp) _
 have HE:Hid (((w.alloc (.cells #[.int .i64 a1,.int .i64 a2,.int .i64 a3,.int .i64 a4,.int .i64 a5,.string a6,.string a7,.int .u64 (a8:Int),.int .i64 a9,.int .i64 a10,.int .i64 a11,.int .i64 a12] 30)).alloc (.cells #[.int .i64 a1,.int .i64 a2] 26)).heap[w.heap.size+1]? = some (.cells #[.int .i64 a1,.int .i64 a2] 26 (0,0))):=by
  have:=World.alloc_heap_new (w.alloc (.cells #[.int .i64 a1,.int .i64 a2,.int .i64 a3,.int .i64 a4,.int .i64 a5,.string a6,.string a7,.int .u64 (a8:Int),.int .i64 a9,.int .i64 a10,.int .i64 a11,.int .i64 a12] 30)) (.cells #[.int .i64 a1,.int .i64 a2] 26)
  rwa [World.size_alloc] at this
 go_enter Tryz.func49,Tryz.ntmps49
 go_wp2
 refine bodyPost_ret (results_cell_row rfl _ _ (w.heap.size+1) _ #[.int .i64 a1,.int .i64 a2] (0,0) _ rfl HE.out Tryz.underlying26 rfl (by kernel_rfl)) rfl ?_
 exact ⟨rfl,HB.out⟩
theorem user_eqb (a b:ByteArray):(a.toList == b.toList)=decide (a=b):=by
 by_cases h:a=b
 ·rw [h];simp
 ·rw [decide_eq_false h,beq_eq_false_iff_ne]
  intro e
  apply h
  rw [Lib.toList_data,Lib.toList_data] at e
  cases a with | mk x => cases b with | mk y =>
   have:x=y:=Array.toList_inj.1 e
   rw [this]
theorem below_s (s p:Sess) (hd:0<=p.depth/\p.depth<=6) (w:World):Calls Tryz.prog 105 #[.agg s.cells.toArray,.agg p.cells.toArray] w fun e w' => e = .returned (.bool (belowB s p))/\Below w.heap.size w w':=by
 unfold belowB
 rw [<- user_eqb]
 obtain ⟨a1,a2,a3,a4,a5,a6,a7,a8,a9,a10,a11,a12⟩:=s
 obtain ⟨b1,b2,b3,b4,b5,b6,b7,b8,b9,b10,b11,b12⟩:=p
 have HB:Hid (Below w.heap.size w (((w.alloc (.cells #[.int .i64 a1,.int .i64 a2,.int .i64 a3,.int .i64 a4,.int .i64 a5,.string a6,.string a7,.int .u64 (a8:Int),.int .i64 a9,.int .i64 a10,.int .i64 a11,.int .i64 a12] 30)).alloc (.cells #[.int .i64 b1,.int .i64 b2,.int .i64 b3,.int .i64 b4,.int .i64 b5,.string b6,.string b7,.int .u64 (b8:Int),.int .i64 b9,.int .i64 b10,.int .i64 b11,.int .i64 b12] 30)))):=((Below.refl _ _).alloc (Nat.le_refl _) _).alloc (by simp) _
 show Calls Tryz.prog 105 #[.agg #[.int .i64 a1,.int .i64 a2,.int .i64 a3,.int .i64 a4,.int .i64 a5,.string a6,.string a7,.int .u64 (a8:Int),.int .i64 a9,.int .i64 a10,.int .i64 a11,.int .i64 a12],.agg #[.int .i64 b1,.int .i64 b2,.int .i64 b3,.int .i64 b4,.int .i64 b5,.string b6,.string b7,.int .u64 (b8:Int),.int .i64 b9,.int .i64 b10,.int .i64 b11,.int .i64 b12]] w _
 simp only
 obtain ⟨dd,hw⟩:∃ dd,IntKind.i64.wrap (b12+1)=dd:=⟨_,rfl⟩
 rw [hw]
 unfold within
 cases h1:a12 == dd with
 | false =>
  have k1:(a12 != dd)=true:=by rw [bne,h1];rfl
  go_enter Tryz.func105,Tryz.ntmps105
  go_wp2
  go_ret
  exact ⟨by simp,HB.out⟩
 | true =>
 have k1:(a12 != dd)=false:=by rw [bne,h1];rfl
 cases h2:a6.toList == b6.toList with
 | false =>
  go_enter Tryz.func105,Tryz.ntmps105
  go_wp2
  go_ret
  exact ⟨by simp,HB.out⟩
 | true =>
 by_cases h3:a11<=b11
 rotate_left
 ·rw [decide_eq_false h3]
  have k3:b11<a11:=by omega
  clear h3
  go_enter Tryz.func105,Tryz.ntmps105
  go_wp2
  go_ret
  exact ⟨by simp,HB.out⟩
 rw [decide_eq_true h3]
 cases h4:bits .andNot .u64 (a8:Int) (b8:Int) == 0 with
 | false =>
  have k4:(bits .andNot .u64 (a8:Int) (b8:Int) != 0)=true:=by rw [bne,h4];rfl
  go_enter Tryz.func105,Tryz.ntmps105
  go_wp2
  go_ret
  exact ⟨by simp,HB.out⟩
 | true =>
  have k4:(bits .andNot .u64 (a8:Int) (b8:Int) != 0)=false:=by rw [bne,h4];rfl
  obtain ⟨c1,h5⟩:∃ c,decide (b9<a9)=c:=⟨_,rfl⟩
  obtain ⟨c2,h6⟩:∃ c,(a5 == 2)=c:=⟨_,rfl⟩
  rw [h5,h6]
  go_enter Tryz.func105,Tryz.ntmps105
  go_wp2
  go_ret
  exact ⟨rfl,HB.out⟩
end Fr
end
section
open Go.RowKit Go.Maps
namespace Fr
open Vw (Sess)
open Ex (Ent wo ExpAt)
section
variable {lo:Nat} {P:Pa} {st st1 st2:FS} {nw c d:Nat} {Fe:Nat->Prop} {w w' w'':World}
def DeepOk (st:FS):Prop:=∀ i b,lives st.S i b=true->0<=(sl st.S i).s.depth/\(sl st.S i).s.depth<=6
theorem fmay (h:ForAt lo P st nw Fe w) (hD:DeepOk st) (s:Sess) :
  Calls Tryz.prog 40 #[.pointer (some ⟨P.f,0,none⟩),.agg s.cells.toArray] w fun e w' => e = .returned (erV (mayF st s))/\Below w.heap.size w w':=by
 obtain ⟨ev,hev⟩:∃ ev,ev=erV (mayF st s):=⟨_,rfl⟩
 have HEV:Hid (ev=erV (if s.us=0/\s.ub=0 then 0 else if lives st.S s.us s.ub=false then 16 else if belowB s (sl st.S s.us).s=false then 24 else 0)):=hev
 rw [<- hev]
 clear hev
 obtain ⟨W0,hW0⟩:∃ W0,W0=w.alloc (.cells s.cells.toArray 30):=⟨_,rfl⟩
 have hb0:Below w.heap.size w W0:=by rw [hW0];exact (Below.refl _ _).alloc (Nat.le_refl _) _
 have hr0:W0.heap[w.heap.size]? = some (.cells s.cells.toArray 30 (0,0)):=by rw [hW0];exact World.alloc_heap_new _ _
 have HSE:=zh (fsession (h.below hb0) s.us s.ub)
 have HB0:=zh hb0;have HR0:=zh hr0
 have HBEL:Hid (lives st.S s.us s.ub=true->∀ W,Calls Tryz.prog 105 #[.agg s.cells.toArray,.agg (sl st.S s.us).s.cells.toArray] W fun e w' => e = .returned (.bool (belowB s (sl st.S s.us).s))/\Below W.heap.size W w'):=fun hl W => below_s s _ (hD _ _ hl) W
 clear hb0 hr0 hD h
 obtain ⟨a1,a2,a3,a4,a5,a6,a7,a8,a9,a10,a11,a12⟩:=s
 simp only at HEV HSE HBEL
 simp only [Vw.Sess.cells] at hW0 HR0 ⊢
 have HW0:=zh hW0
 have c3:W0.cell? ⟨w.heap.size,2,none⟩=some (.int .i64 a3):=zl HR0.out rfl
 have c4:W0.cell? ⟨w.heap.size,3,none⟩=some (.int .i64 a4):=zl HR0.out rfl
 by_cases hz:a3=0/\a4=0
 ·obtain ⟨rfl,rfl⟩:=hz
  have HE:Hid (ev = .nilIface):=by show _=_;rw [HEV.out,if_pos ⟨rfl,rfl⟩];rfl
  clear c3 c4 hW0
  go_enter Tryz.func40,Tryz.ntmps40
  go_wp2
  rw [<- HW0.out]
  go_ret
  exact ⟨by rw [HE.out];rfl,HB0.out⟩
 ·have hne:=Ev.link_zero_no hz
  have HEV2:Hid (ev=erV (if lives st.S a3 a4=false then 16 else if belowB ⟨a1,a2,a3,a4,a5,a6,a7,a8,a9,a10,a11,a12⟩ (sl st.S a3).s=false then 24 else 0)):=by show _=_;rw [HEV.out,if_neg hz]
  clear hz hW0
  cases hl:lives st.S a3 a4 with
  | false =>
   have hsf:sessionF st a3 a4=(s0,16):=by unfold sessionF;rw [hl];rfl
   rw [hsf] at HSE
   obtain ⟨cs,hcs⟩:∃ cs,cs=s0.cells:=⟨_,rfl⟩
   simp only at HSE
   rw [<- hcs] at HSE
   have HCL:Hid (cs.length=12):=by show _=_;rw [hcs];rfl
   have HC1:Hid (∀ u ∈ cs,u.oneCell'=true):=by show ∀ _,_;rw [hcs];exact sess_one _
   replace HSE:Hid (Calls Tryz.prog 60 #[.pointer (some ⟨P.f,0,none⟩),.agg #[.int .i64 a3,.int .i64 a4]] W0 fun e w' => e = .returned (.tuple #[.agg cs.toArray,.iface 101 (.int .i64 16)])/\Below W0.heap.size W0 w'):=HSE.out
   have HE:Hid (ev = .iface 101 (.int .i64 16)):=by show _=_;rw [HEV2.out,if_pos hl];rfl
   clear hl hsf hcs c3 c4
   go_enter Tryz.func40,Tryz.ntmps40
   go_wp2_with fail
   rw [<- HW0.out]
   refine HSE.out.mono ?_
   rintro e w2 ⟨rfl,hb2⟩
   have HB3:Hid (Below w.heap.size w (w2.alloc (.cells cs.toArray 30))):=(HB0.out.trans (hb2.mono HB0.out.size)).alloc (Nat.le_trans HB0.out.size hb2.size) _
   clear hb2
   go_wp2_with (first
    | (refine Ag.wpList_store_new (by rfl) 30 (.tmp 5) (.tmp 16) (by rfl) cs (by rfl) (by rfl) (by rw [HCL.out];kernel_rfl) (by rw [HCL.out];rfl) HC1.out ?_))
   go_ret
   exact ⟨by rw [HE.out];rfl,HB3.out⟩
  | true =>
   have hsf:sessionF st a3 a4=((sl st.S a3).s,0):=by unfold sessionF;rw [hl];rfl
   rw [hsf] at HSE
   obtain ⟨ps,hps⟩:∃ ps,ps=(sl st.S a3).s:=⟨_,rfl⟩
   have HBL:Hid (∀ W,Calls Tryz.prog 105 #[.agg (Sess.mk a1 a2 a3 a4 a5 a6 a7 a8 a9 a10 a11 a12).cells.toArray,.agg ps.cells.toArray] W fun e w' => e = .returned (.bool (belowB ⟨a1,a2,a3,a4,a5,a6,a7,a8,a9,a10,a11,a12⟩ ps))/\Below W.heap.size W w'):=by rw [hps];exact HBEL.out hl
   obtain ⟨bl,hbl⟩:∃ bl,bl=belowB ⟨a1,a2,a3,a4,a5,a6,a7,a8,a9,a10,a11,a12⟩ ps:=⟨_,rfl⟩
   have HEV3:Hid (ev=erV (if bl=false then 24 else 0)):=by show _=_;rw [HEV2.out,if_neg (by rw [hl];decide),hbl,hps]
   rw [<- hbl] at HBL
   simp only at HSE
   rw [<- hps] at HSE
   obtain ⟨cs,hcs⟩:∃ cs,cs=ps.cells:=⟨_,rfl⟩
   rw [<- hcs] at HSE HBL
   have HCL:Hid (cs.length=12):=by show _=_;rw [hcs];rfl
   have HC1:Hid (∀ u ∈ cs,u.oneCell'=true):=by show ∀ _,_;rw [hcs];exact sess_one _
   replace HSE:Hid (Calls Tryz.prog 60 #[.pointer (some ⟨P.f,0,none⟩),.agg #[.int .i64 a3,.int .i64 a4]] W0 fun e w' => e = .returned (.tuple #[.agg cs.toArray,.nilIface])/\Below W0.heap.size W0 w'):=HSE.out
   clear hl hsf hcs hps hbl c3 c4
   go_enter Tryz.func40,Tryz.ntmps40
   go_wp2_with fail
   rw [<- HW0.out]
   refine HSE.out.mono ?_
   rintro e w2 ⟨rfl,hb2⟩
   obtain ⟨W3,hW3⟩:∃ W3,W3=w2.alloc (.cells cs.toArray 30):=⟨_,rfl⟩
   obtain ⟨N,hN⟩:∃ N,N=w2.heap.size:=⟨_,rfl⟩
   have hb3:Below W0.heap.size W0 W3:=by rw [hW3];exact hb2.alloc hb2.size _
   have HB3:Hid (Below w.heap.size w W3):=HB0.out.trans (hb3.mono HB0.out.size)
   have hr3:=(hb3.block _ (zx HR0.out)).trans HR0.out
   have hn3:W3.heap[N]? = some (.cells cs.toArray 30 (0,0)):=by rw [hW3,hN];exact World.alloc_heap_new _ _
   have HRG:=zh (box_rng (cs:=[.int .i64 a1,.int .i64 a2,.int .i64 a3,.int .i64 a4,.int .i64 a5,.string a6,.string a7,.int .u64 (a8:Int),.int .i64 a9,.int .i64 a10,.int .i64 a11,.int .i64 a12]) hr3)
   have HRN:=zh (box_rng hn3)
   have HW3:=zh hW3;have HN:=zh hN
   clear hb2 hb3 hr3 hn3 hW3 hN
   go_upto_region 4 with (first
    | (refine Ag.wpList_store_new (by rfl) 30 (.tmp 5) (.tmp 16) (by rfl) cs (by rfl) (by rfl) (by rw [HCL.out];kernel_rfl) (by rw [HCL.out];rfl) HC1.out ?_))
   rw [<- HW3.out,<- HN.out]
   go_wp2_with (first
    | (refine wpList_load_mid (by rfl) 30 (.tmp 3) (by rfl) _ _ (by rfl) [.int .i64 a1,.int .i64 a2,.int .i64 a3,.int .i64 a4,.int .i64 a5,.string a6,.string a7,.int .u64 (a8:Int),.int .i64 a9,.int .i64 a10,.int .i64 a11,.int .i64 a12] _ HRG.out Tryz.underlying30 rfl (by kernel_rfl) ?_)
    | (refine wpList_load_mid (by rfl) 30 (.tmp 5) (by rfl) _ _ (by rfl) cs _ HRN.out Tryz.underlying30 rfl (by rw [HCL.out];kernel_rfl) ?_))
   refine (HBL.out _).mono ?_
   rintro e w4 ⟨rfl,hb4⟩
   have HB4:Hid (Below w.heap.size w w4):=HB3.out.trans (hb4.mono HB3.out.size)
   clear hb4
   cases bl with
   | true =>
    have HE:Hid (ev = .nilIface):=by show _=_;rw [HEV3.out];rfl
    go_wp2
    go_ret
    exact ⟨by rw [HE.out];rfl,HB4.out⟩
   | false =>
    have HE:Hid (ev = .iface 101 (.int .i64 24)):=by show _=_;rw [HEV3.out];rfl
    go_wp2
    go_ret
    exact ⟨by rw [HE.out];rfl,HB4.out⟩
end
end Fr
end
section
open Go.RowKit Go.Maps
namespace Fr
open Vw (Sess)
open Ex (Ent wo ExpAt)
section
variable {lo:Nat} {P:Pa} {st st1 st2:FS} {nw c d:Nat} {Fe:Nat->Prop} {w w' w'':World}
theorem ForAt.block {b:Nat} (h:ForAt lo P st nw Fe w) (hb:w.heap.size<=b):¬ Fo P Fe b:=fun hf => by have:=(h.lt hf).2;omega
theorem ForAt.ptrs (h:ForAt lo P st nw Fe w):w.cell? ⟨P.f,2,none⟩=some (.pointer (some ⟨P.a,0,none⟩))/\w.cell? ⟨P.f,3,none⟩=some (.pointer (some ⟨P.t,0,none⟩))/\w.cell? ⟨P.f,4,none⟩=some (.pointer (some ⟨P.g,0,none⟩))/\w.cell? ⟨P.f,5,none⟩=some (.pointer (some ⟨P.E,0,none⟩)) :=
 ⟨by rw [h.cell 2];rfl,by rw [h.cell 3];rfl,by rw [h.cell 4];rfl,by rw [h.cell 5];rfl⟩
theorem ForAt.nums (h:ForAt lo P st nw Fe w):w.cell? ⟨P.f,0,none⟩=some (.int .i64 st.clock)/\w.cell? ⟨P.f,1,none⟩=some (.int .i64 st.births):=⟨by rw [h.cell 0];rfl,by rw [h.cell 1];rfl⟩
theorem fend (h:ForAt lo P st nw Fe w) (hw:nw+8<=4611686018427387904) (i:Int) (hi:thr i=true) (hc:endF st i=some st2) :
  Calls Tryz.prog 69 #[.pointer (some ⟨P.f,0,none⟩),.int .i64 i] w fun e w' => e = .returned .nilIface/\FoTo lo P st2 8 nw Fe w w':=by
 unfold endF at hc
 obtain ⟨s1,hc1,hc2⟩:=Option.bind_eq_some_iff.1 hc
 have HC:=zh (fcut h (by omega) i hc1)
 have c3:=h.ptrs.2.1
 have HLT:=zh (fun k (hk:Fo P Fe k) => (h.lt hk).2)
 have HW:=zh hw;have HI:=zh hi;have HC2:=zh hc2
 clear h hw hi hc hc1 hc2
 go_enter Tryz.func69,Tryz.ntmps69
 go_wp2_with fail
 refine HC.out.mono ?_
 rintro e w1 ⟨rfl,n1,F1,q1,q2,h1,q3,q4⟩
 have HQ1:=zh (And.intro q1 (And.intro q2 (And.intro q3 q4)))
 obtain ⟨x,hx⟩:∃ x,x={ sl s1.S i with dead:=true }:=⟨_,rfl⟩
 obtain ⟨cs,hcs⟩:∃ cs,cs=(sl s1.S i).cells:=⟨_,rfl⟩
 obtain ⟨ds,hds⟩:∃ ds,ds=x.cells:=⟨_,rfl⟩
 have hg:=fget h1 i HI.out
 rw [<- hcs] at hg
 have HG:=zh hg
 have HH1:=zh h1
 have d2:=h1.ptrs.1
 have HCL:Hid (cs.length=17):=by show _=_;rw [hcs];rfl
 have HC1:Hid (∀ u ∈ cs,u.oneCell'=true):=by show ∀ _,_;rw [hcs];exact (sl s1.S i).one
 have HCC:Hid (cs[1]? = some (.bool (sl s1.S i).dead)):=by show _=_;rw [hcs];rfl
 have HDL:Hid (ds.length=17):=by show _=_;rw [hds];rfl
 have HCD:Hid (cs.toArray.setIfInBounds 1 (.bool true)=ds.toArray):=by show _=_;rw [hcs,hds,hx];rfl
 have HPUT:Hid (∀ W n F,ForAt lo P s1 n F W->n+1<=4611686018427387904->Calls Tryz.prog 107 #[.pointer (some ⟨P.a,0,none⟩),.int .i64 i,.agg ds.toArray] W fun e w' => e = .returned .nilIface/\FoTo lo P { s1 with S:=put s1.S i x } 1 n F W w'):=fun W n F k kn => by
  rw [hds]
  refine (fput k kn i HI.out x).mono ?_
  rintro e w' ⟨h1,h2,-⟩
  exact ⟨h1,h2⟩
 have HADD:Hid (∀ W n F,ForAt lo P { s1 with S:=put s1.S i x,exp:=wo s1.exp i } n F W->n+3<=4611686018427387904->Calls Tryz.prog 139 #[.pointer (some ⟨P.g,0,none⟩),.int .i64 i] W fun e w' => e = .returned .nilIface/\FoTo lo P st2 3 n F W w'):=fun W n F k kn => fgadd k kn i (by rw [hx];exact HC2.out)
 clear q1 q2 q3 q4 hcs hds hg h1 c3 hx
 go_wp2_with fail
 refine HG.out.mono ?_
 rintro e w2 ⟨rfl,hb2⟩
 obtain ⟨W3,hW3⟩:∃ W3,W3=w2.alloc (.cells cs.toArray 115):=⟨_,rfl⟩
 obtain ⟨b,hbq⟩:∃ b,b=w2.heap.size:=⟨_,rfl⟩
 have hr3:W3.heap[b]? = some (.cells cs.toArray 115 (0,0)):=by rw [hW3,hbq];exact World.alloc_heap_new _ _
 have hb3:Below w1.heap.size w1 W3:=by rw [hW3];exact hb2.alloc hb2.size _
 have hge:w1.heap.size<=b:=by rw [hbq];exact hb2.size
 have f3:W3.frozen? ⟨b,1,none⟩=false:=by unfold World.frozen?;rw [hr3];rfl
 have e3:W3.cell? ⟨b,1,none⟩=some (.bool (sl s1.S i).dead):=by rw [zc hr3,List.getElem?_toArray];exact HCC.out
 obtain ⟨W4,hW4⟩:∃ W4,W4=W3.setCell ⟨b,1,none⟩ (.bool true):=⟨_,rfl⟩
 have hr4:W4.heap[b]? = some (.cells ds.toArray 115 (0,0)):=by rw [hW4,heap_setCell_same _ _ _ _ _ _ hr3,HCD.out]
 have hb4:Below w1.heap.size w1 W4:=by rw [hW4];exact hb3.setCell (p:=⟨b,1,none⟩) hge _
 have HH4:=zh (HH1.out.below hb4)
 have HB4:=zh hb4;have HW3:=zh hW3;have HW4:=zh hW4;have HBQ:=zh hbq;have HGE:=zh hge;have HR4:=zh hr4
 have HSK:Hid (∀ W' n F s,ForAt lo P s n F W'->Only (Fo P F1) W4 W'->W'.cell? ⟨P.f,2,none⟩=some (.pointer (some ⟨P.a,0,none⟩))/\W'.rangeAt b 0 ds):=fun W' n F s hf ho => ⟨hf.ptrs.1,box_rng ((ho.block b (zx HR4.out) (HH1.out.block HGE.out)).trans HR4.out)⟩
 clear hb2 hW3 hbq hr3 hb3 hge hW4 hr4 hb4 d2
 go_upto_region 7 with (first
  | (refine Ag.wpList_store_new (by rfl) 115 (.tmp 6) (.tmp 25) (by rfl) cs (by rfl) (by rfl) (by rw [HCL.out];kernel_rfl) (by rw [HCL.out];rfl) HC1.out ?_))
 rw [<- HW3.out,<- HBQ.out]
 go_upto_region 8 with fail
 rw [<- HW4.out]
 have hf5:=HH4.out.drew
 have ho5:Only (Fo P F1) W4 W4.drew:=(Only.refl _ _).drew
 refine wp_region_held_drew (S:=fun W' => W'.cell? ⟨P.f,2,none⟩=some (.pointer (some ⟨P.a,0,none⟩))/\W'.rangeAt b 0 ds) (by kernel_rfl) (HSK.out _ _ _ _ hf5 ho5) (fun _ => ?_)
 refine tq 0 rfl (.pointer (some ⟨P.f,0,none⟩)) (HSK.out _ _ _ _ hf5 ho5) ?_
 try simp only [zq]
 refine tq 1 rfl (.pointer (some ⟨P.f,0,none⟩)) (HSK.out _ _ _ _ hf5 ho5) ?_
 try simp only [zq]
 refine tq 2 rfl (.pointer (some ⟨P.f,2,none⟩)) (HSK.out _ _ _ _ hf5 ho5) ?_
 try simp only [zq]
 refine tq 3 rfl (.pointer (some ⟨P.a,0,none⟩)) (HSK.out _ _ _ _ hf5 ho5) ?_
 try simp only [zq]
 refine tq 4 rfl (.int .i64 i) (HSK.out _ _ _ _ hf5 ho5) ?_
 try simp only [zq]
 refine tk 5 rfl (.agg ds.toArray) (fun wq hq => by obtain ⟨hq0,hq1⟩:=hq;exact St.exec_load 115 (.tmp 6) (by rfl) b 0 (by rfl) ds _ hq1 Tryz.underlying115 rfl (by rw [HDL.out];kernel_rfl)) (HSK.out _ _ _ _ hf5 ho5) ?_
 try simp only [zq]
 refine zr 6 rfl (fun K hK => ?_)
 go_simp
 refine (HPUT.out _ _ _ hf5 (by obtain ⟨k1,k2,-⟩:=HQ1.out;have:=HW.out;omega)).mono ?_
 rintro e w5 ⟨rfl,n5,F5,p1,p2,h5,p3,p4⟩
 have hft:=And.intro p1 (And.intro p2 (And.intro p3 p4))
 clear hf5
 have hf5:=h5
 replace ho5:=ho5.trans p3 (fun _ _ h => h)
 clear p1 p2 h5 p3 p4
 refine hK.out _ _ (HSK.out _ _ _ _ hf5 ho5) (fun _ => ?_)
 clear hK K
 try simp only [zq]
 refine tq 7 rfl .nilIface (HSK.out _ _ _ _ hf5 ho5) ?_
 try simp only [zq]
 refine wpAnyH_done (by kernel_rfl) ?_ _
 try simp only [zq]
 have HBT:=zh hft
 have c5:=hf5.ptrs.2.2.2
 clear ho5
 have HF5:=zh hf5
 have HFO:=zh (fforget hf5 i HI.out)
 clear hf5 hft
 go_wp2_with fail
 refine HFO.out.mono ?_
 rintro e w6 ⟨⟨bb,rfl⟩,n6,F6,p1,p2,h6,p3,p4⟩
 have c4:=h6.ptrs.2.2.1
 have HADD2:=zh (HADD.out w6 n6 F6 h6 (by obtain ⟨k1,k2,-⟩:=HQ1.out;obtain ⟨k3,k4,-⟩:=HBT.out;have:=HW.out;omega))
 have HQ6:=zh (And.intro p1 (And.intro p2 (And.intro p3 p4)))
 clear h6 p1 p2 p3 p4 c5
 go_wp2_with fail
 refine HADD2.out.mono ?_
 rintro e w7 ⟨rfl,h7⟩
 have HE:Hid (FoTo lo P st2 8 nw Fe w w7):=by
  obtain ⟨k1,k2,k3,k4⟩:=HQ1.out
  obtain ⟨j1,j2,j3,j4⟩:=HBT.out
  obtain ⟨i1,i2,i3,i4⟩:=HQ6.out
  have t1:=FoTo.after i1 i2 i3 i4 h7
  have t2:=FoTo.after j1 j2 j3 j4 t1
  have t3:=FoTo.pre ((HB4.out).drew) t2
  exact FoTo.after k1 k2 k3 k4 t3
 clear h7
 go_wp2
 go_ret
 exact ⟨rfl,HE.out⟩
end
end Fr
end
section
open Go.RowKit Go.Maps
namespace Fr
open Vw (Sess)
open Ex (Ent wo ExpAt)
section
variable {lo:Nat} {P:Pa} {st st1 st2:FS} {nw c d:Nat} {Fe:Nat->Prop} {w w' w'':World}
theorem lives_thr {S:List Slt} {us ub:Int} (h:lives S us ub=true):thr us=true:=by
 have e3:livesN S 7 us ub=true:=h
 unfold livesN at e3
 rw [Bool.and_eq_true] at e3
 exact (holds_iff.1 e3.1).1
theorem frevoke (h:ForAt lo P st nw Fe w) (hw:nw+8<=4611686018427387904) (us ub no:Int) (hc:revokeF st us ub=some (st2,no)) :
  Calls Tryz.prog 26 #[.pointer (some ⟨P.f,0,none⟩),.agg #[.int .i64 us,.int .i64 ub]] w fun e w' => e = .returned (erV no)/\FoTo lo P st2 8 nw Fe w w':=by
 obtain ⟨W0,hW0⟩:∃ W0,W0=w.alloc (.cells #[.int .i64 us,.int .i64 ub] 26):=⟨_,rfl⟩
 have hb0:Below w.heap.size w W0:=by rw [hW0];exact (Below.refl _ _).alloc (Nat.le_refl _) _
 have hk0:W0.heap[w.heap.size]? = some (.cells #[.int .i64 us,.int .i64 ub] 26 (0,0)):=by rw [hW0];exact World.alloc_heap_new _ _
 have hf0:=h.below hb0
 have hse:=fsession hf0 us ub
 have HB0:=zh hb0;have HK0:=zh hk0;have HF0:=zh hf0;have HW0:=zh hW0
 unfold revokeF at hc
 cases hl:lives st.S us ub with
 | false =>
  rw [hl] at hc
  have hsf:sessionF st us ub=(s0,16):=by unfold sessionF;rw [hl];rfl
  rw [hsf] at hse
  have hcc:(st,(16:Int))=(st2,no):=Option.some.inj hc
  have e1:st2=st:=(Prod.mk.inj hcc).1.symm
  have e2:no=16:=(Prod.mk.inj hcc).2.symm
  subst e1 e2
  obtain ⟨cs,hcs⟩:∃ cs,cs=s0.cells:=⟨_,rfl⟩
  simp only at hse
  rw [<- hcs] at hse
  have HCL:Hid (cs.length=12):=by show _=_;rw [hcs];rfl
  have HC1:Hid (∀ u ∈ cs,u.oneCell'=true):=by show ∀ _,_;rw [hcs];exact sess_one _
  have HSE:Hid (Calls Tryz.prog 60 #[.pointer (some ⟨P.f,0,none⟩),.agg #[.int .i64 us,.int .i64 ub]] W0 fun e w' => e = .returned (.tuple #[.agg cs.toArray,.iface 101 (.int .i64 16)])/\Below W0.heap.size W0 w'):=hse
  have HH:=zh h
  clear hl hsf hcs hse hc hcc h hb0 hk0 hf0 hW0
  go_enter Tryz.func26,Tryz.ntmps26
  go_wp2_with fail
  rw [<- HW0.out]
  refine HSE.out.mono ?_
  rintro e w2 ⟨rfl,hb2⟩
  have HE:Hid (FoTo lo P st2 8 nw Fe w (w2.alloc (.cells cs.toArray 30))):=FoTo.of_below HH.out ((HB0.out.trans (hb2.mono HB0.out.size)).alloc (Nat.le_trans HB0.out.size hb2.size) _)
  clear hb2
  go_wp2_with (first
   | (refine Ag.wpList_store_new (by rfl) 30 (.tmp 5) (.tmp 11) (by rfl) cs (by rfl) (by rfl) (by rw [HCL.out];kernel_rfl) (by rw [HCL.out];rfl) HC1.out ?_))
  go_ret
  exact ⟨rfl,HE.out⟩
 | true =>
  rw [hl] at hc
  have hsf:sessionF st us ub=((sl st.S us).s,0):=by unfold sessionF;rw [hl];rfl
  rw [hsf] at hse
  obtain ⟨s2,hs2,hcc⟩:=Option.map_eq_some_iff.1 hc
  have e1:s2=st2:=(Prod.mk.inj hcc).1
  have e2:no=0:=(Prod.mk.inj hcc).2.symm
  subst e1 e2
  have hti:=lives_thr hl
  obtain ⟨cs,hcs⟩:∃ cs,cs=(sl st.S us).s.cells:=⟨_,rfl⟩
  simp only at hse
  rw [<- hcs] at hse
  have HCL:Hid (cs.length=12):=by show _=_;rw [hcs];rfl
  have HC1:Hid (∀ u ∈ cs,u.oneCell'=true):=by show ∀ _,_;rw [hcs];exact sess_one _
  have HSE:Hid (Calls Tryz.prog 60 #[.pointer (some ⟨P.f,0,none⟩),.agg #[.int .i64 us,.int .i64 ub]] W0 fun e w' => e = .returned (.tuple #[.agg cs.toArray,.nilIface])/\Below W0.heap.size W0 w'):=hse
  have HEND:Hid (∀ W,Below W0.heap.size W0 W->Calls Tryz.prog 69 #[.pointer (some ⟨P.f,0,none⟩),.int .i64 us] W fun e w' => e = .returned .nilIface/\FoTo lo P s2 8 nw Fe W w'):=fun W hb => fend (hf0.below hb) hw us hti hs2
  clear hl hsf hcs hse hc hcc h hb0 hk0 hf0 hW0 hti hs2
  go_enter Tryz.func26,Tryz.ntmps26
  go_wp2_with fail
  rw [<- HW0.out]
  refine HSE.out.mono ?_
  rintro e w2 ⟨rfl,hb2⟩
  obtain ⟨W3,hW3⟩:∃ W3,W3=w2.alloc (.cells cs.toArray 30):=⟨_,rfl⟩
  have hb3:Below W0.heap.size W0 W3:=by rw [hW3];exact hb2.alloc hb2.size _
  have hk3:=(hb3.block _ (zx HK0.out)).trans HK0.out
  have d0:W3.cell? ⟨w.heap.size,0,none⟩=some (.int .i64 us):=zl hk3 rfl
  have HEN:=zh (HEND.out W3 hb3)
  have HB3:Hid (Below w.heap.size w W3):=HB0.out.trans (hb3.mono HB0.out.size)
  have HW3:=zh hW3
  clear hb2 hb3 hk3
  rw [hW3] at d0
  clear hW3
  go_upto_region 4 with (first
   | (refine Ag.wpList_store_new (by rfl) 30 (.tmp 5) (.tmp 11) (by rfl) cs (by rfl) (by rfl) (by rw [HCL.out];kernel_rfl) (by rw [HCL.out];rfl) HC1.out ?_))
  rw [<- HW3.out] at d0 ⊢
  go_wp2_with fail
  refine HEN.out.mono ?_
  rintro e w4 ⟨rfl,h4⟩
  have HE:=zh (FoTo.pre HB3.out h4)
  clear h4
  go_wp2
  go_ret
  exact ⟨rfl,HE.out⟩
end
end Fr
end
end Go.Proofs.YtimhglmfckfclaaGreatDoor
