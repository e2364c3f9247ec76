/- Parts of the proof. -/
import Derived.Test.YtimhglmfckfclaaGreatM26
set_option linter.unusedVariables false
set_option linter.unusedSimpArgs false
set_option maxRecDepth 100000
set_option maxHeartbeats 16000000
namespace Go.Proofs.YtimhglmfckfclaaGreat
section
open Go.RowKit Go.Maps
namespace Ev
open Vw (Sess)
def fr (n lo hi:Int):Bool:=decide (lo<=n/\n<=hi)
theorem from_any (n lo hi:Int) (w:World):Calls Tryz.prog 201 #[.int .i64 n,.int .i64 lo,.int .i64 hi] w fun e w' => e = .returned (.bool (fr n lo hi))/\w'=w:=by
 unfold fr
 by_cases h1:lo<=n
 ·by_cases h2:n<=hi
  ·rw [decide_eq_true ⟨h1,h2⟩]
   go_enter Tryz.func201,Tryz.ntmps201
   go_wp2
   go_ret
   exact ⟨rfl,rfl⟩
  ·rw [decide_eq_false (fun h => h2 h.2)]
   have h3:hi<n:=by omega
   clear h2
   go_enter Tryz.func201,Tryz.ntmps201
   go_wp2
   go_ret
   exact ⟨by simp;omega,rfl⟩
 ·rw [decide_eq_false (fun h => h1 h.1)]
  have h3:n<lo:=by omega
  clear h1
  go_enter Tryz.func201,Tryz.ntmps201
  go_wp2
  go_ret
  exact ⟨by simp,rfl⟩
theorem fr_call {n lo hi:Int} {b:Bool} (h:fr n lo hi=b):Hid (∀ w,Calls Tryz.prog 201 #[.int .i64 n,.int .i64 lo,.int .i64 hi] w fun e w' => e = .returned (.bool b)/\w'=w):=fun w => by rw [<- h];exact from_any n lo hi w
theorem name_call {s:ByteArray} {b:Bool} (hs:s.size<=9223372036854775807) (h:nameB s.data.toList=b):Hid (∀ w,Calls Tryz.prog 138 #[.string s] w fun e w' => e = .returned (.bool b)/\Below w.heap.size w w'):=fun w => by rw [<- h];exact name_any s hs w
theorem link_zero_no {x y:Int} (h:¬ (x=0/\y=0)) (w:World):(binOp .eql 28 (.agg #[.int .i64 x,.int .i64 y]) (.agg #[.int .i64 0,.int .i64 0])).run Tryz.prog w = .ok (.bool false) w:=by
 by_cases h1:x=0
 ·have h2:¬ y=0:=fun e => h ⟨h1,e⟩
  clear h
  go_simp
 ·clear h
  go_simp
section
variable {b10:Bool}
variable (a1 a2 a3 a4 a5:Int) (a6 a7:ByteArray) (a8:Nat) (a9 a10 a11 a12:Int)
abbrev mW (w:World):World:=(w.alloc (.cells #[.int .i64 a1,.int .i64 a2,.int .i64 a3,.int .i64 a4,.int .i64 a5,.string a6,.string a7,.int .u64 (a8:Int),.int .i64 a9,.int .i64 a10,.int .i64 a11,.int .i64 a12] 188)).alloc (.cells #[.int .i64 a1,.int .i64 a2,.int .i64 a3,.int .i64 a4,.int .i64 a5,.string a6,.string a7,.int .u64 (a8:Int),.int .i64 a9,.int .i64 a10,.int .i64 a11,.int .i64 a12] 35)
abbrev mRow (W:World) (N:Nat):Prop:=W.heap[N]? = some (.cells #[.int .i64 a1,.int .i64 a2,.int .i64 a3,.int .i64 a4,.int .i64 a5,.string a6,.string a7,.int .u64 (a8:Int),.int .i64 a9,.int .i64 a10,.int .i64 a11,.int .i64 a12] 35 (0,0))
theorem m_start (w:World):mRow a1 a2 a3 a4 a5 a6 a7 a8 a9 a10 a11 a12 (mW a1 a2 a3 a4 a5 a6 a7 a8 a9 a10 a11 a12 w) (w.heap.size+1)/\Below w.heap.size w (mW a1 a2 a3 a4 a5 a6 a7 a8 a9 a10 a11 a12 w):=by
 refine ⟨?_,((Below.refl _ _).alloc (Nat.le_refl _) _).alloc (by simp) _⟩
 have:=World.alloc_heap_new (w.alloc (.cells #[.int .i64 a1,.int .i64 a2,.int .i64 a3,.int .i64 a4,.int .i64 a5,.string a6,.string a7,.int .u64 (a8:Int),.int .i64 a9,.int .i64 a10,.int .i64 a11,.int .i64 a12] 188)) (.cells #[.int .i64 a1,.int .i64 a2,.int .i64 a3,.int .i64 a4,.int .i64 a5,.string a6,.string a7,.int .u64 (a8:Int),.int .i64 a9,.int .i64 a10,.int .i64 a11,.int .i64 a12] 35)
 rwa [World.size_alloc] at this
theorem may1 (f1:fr a1 0 31=false) (w:World):Calls Tryz.prog 200 #[.agg #[.int .i64 a1,.int .i64 a2,.int .i64 a3,.int .i64 a4,.int .i64 a5,.string a6,.string a7,.int .u64 (a8:Int),.int .i64 a9,.int .i64 a10,.int .i64 a11,.int .i64 a12]] w fun e w' => e = .returned (.bool false)/\Below w.heap.size w w':=by
 obtain ⟨hr,hb⟩:=m_start a1 a2 a3 a4 a5 a6 a7 a8 a9 a10 a11 a12 w
 have HR:=zh hr;have HB:=zh hb
 clear hr hb
 have F1:=fr_call f1
 clear f1
 go_enter Tryz.func200,Tryz.ntmps200
 go_wp2_with fail
 refine (F1.out _).mono ?_
 rintro e w' ⟨rfl,hw'⟩
 rw [hw']
 clear hw'
 go_wp2
 go_ret
 exact ⟨rfl,HB.out⟩
theorem may2 (f1:fr a1 0 31=true) (f2:fr a2 1 1048576=false) (w:World):Calls Tryz.prog 200 #[.agg #[.int .i64 a1,.int .i64 a2,.int .i64 a3,.int .i64 a4,.int .i64 a5,.string a6,.string a7,.int .u64 (a8:Int),.int .i64 a9,.int .i64 a10,.int .i64 a11,.int .i64 a12]] w fun e w' => e = .returned (.bool false)/\Below w.heap.size w w':=by
 obtain ⟨hr,hb⟩:=m_start a1 a2 a3 a4 a5 a6 a7 a8 a9 a10 a11 a12 w
 have HR:=zh hr;have HB:=zh hb
 clear hr hb
 have F1:=fr_call f1
 have F2:=fr_call f2
 clear f1 f2
 go_enter Tryz.func200,Tryz.ntmps200
 go_wp2_with fail
 refine (F1.out _).mono ?_
 rintro e w' ⟨rfl,hw'⟩
 rw [hw']
 clear hw'
 go_wp2_with fail
 refine (F2.out _).mono ?_
 rintro e w' ⟨rfl,hw'⟩
 rw [hw']
 clear hw'
 go_wp2
 go_ret
 exact ⟨rfl,HB.out⟩
theorem may3 (z3:a6.size<=9223372036854775807) (f1:fr a1 0 31=true) (f2:fr a2 1 1048576=true) (n3:nameB a6.data.toList=false) (w:World):Calls Tryz.prog 200 #[.agg #[.int .i64 a1,.int .i64 a2,.int .i64 a3,.int .i64 a4,.int .i64 a5,.string a6,.string a7,.int .u64 (a8:Int),.int .i64 a9,.int .i64 a10,.int .i64 a11,.int .i64 a12]] w fun e w' => e = .returned (.bool false)/\Below w.heap.size w w':=by
 obtain ⟨hr,hb⟩:=m_start a1 a2 a3 a4 a5 a6 a7 a8 a9 a10 a11 a12 w
 have HR:=zh hr;have HB:=zh hb
 clear hr hb
 have F1:=fr_call f1
 have F2:=fr_call f2
 have N3:=name_call z3 n3
 clear z3 f1 f2 n3
 go_enter Tryz.func200,Tryz.ntmps200
 go_wp2_with fail
 refine (F1.out _).mono ?_
 rintro e w' ⟨rfl,hw'⟩
 rw [hw']
 clear hw'
 go_wp2_with fail
 refine (F2.out _).mono ?_
 rintro e w' ⟨rfl,hw'⟩
 rw [hw']
 clear hw'
 go_wp2_with fail
 refine (N3.out _).mono ?_
 rintro e v1 ⟨rfl,hb⟩
 have hr:mRow a1 a2 a3 a4 a5 a6 a7 a8 a9 a10 a11 a12 v1 (w.heap.size+1):=(hb.block (w.heap.size+1) (zx HR.out)).trans HR.out
 have HB2:Hid (Below w.heap.size w v1):=HB.out.trans (hb.mono HB.out.size)
 have HR2:=zh hr
 have c0:v1.cell? ⟨w.heap.size+1,0,none⟩=some (.int .i64 a1):=zl hr rfl
 have c1:v1.cell? ⟨w.heap.size+1,1,none⟩=some (.int .i64 a2):=zl hr rfl
 have c2:v1.cell? ⟨w.heap.size+1,2,none⟩=some (.int .i64 a3):=zl hr rfl
 have c3:v1.cell? ⟨w.heap.size+1,3,none⟩=some (.int .i64 a4):=zl hr rfl
 have c4:v1.cell? ⟨w.heap.size+1,4,none⟩=some (.int .i64 a5):=zl hr rfl
 have c5:v1.cell? ⟨w.heap.size+1,5,none⟩=some (.string a6):=zl hr rfl
 have c6:v1.cell? ⟨w.heap.size+1,6,none⟩=some (.string a7):=zl hr rfl
 have c7:v1.cell? ⟨w.heap.size+1,7,none⟩=some (.int .u64 (a8:Int)):=zl hr rfl
 have c8:v1.cell? ⟨w.heap.size+1,8,none⟩=some (.int .i64 a9):=zl hr rfl
 have c9:v1.cell? ⟨w.heap.size+1,9,none⟩=some (.int .i64 a10):=zl hr rfl
 have c10:v1.cell? ⟨w.heap.size+1,10,none⟩=some (.int .i64 a11):=zl hr rfl
 have c11:v1.cell? ⟨w.heap.size+1,11,none⟩=some (.int .i64 a12):=zl hr rfl
 clear hb hr HR HB
 have HR:=HR2;have HB:=HB2
 clear HR2 HB2
 go_wp2
 go_ret
 exact ⟨rfl,HB.out⟩
theorem may4 (z3:a6.size<=9223372036854775807) (f1:fr a1 0 31=true) (f2:fr a2 1 1048576=true) (n3:nameB a6.data.toList=true) (f4:fr a9 0 2=false) (w:World):Calls Tryz.prog 200 #[.agg #[.int .i64 a1,.int .i64 a2,.int .i64 a3,.int .i64 a4,.int .i64 a5,.string a6,.string a7,.int .u64 (a8:Int),.int .i64 a9,.int .i64 a10,.int .i64 a11,.int .i64 a12]] w fun e w' => e = .returned (.bool false)/\Below w.heap.size w w':=by
 obtain ⟨hr,hb⟩:=m_start a1 a2 a3 a4 a5 a6 a7 a8 a9 a10 a11 a12 w
 have HR:=zh hr;have HB:=zh hb
 clear hr hb
 have F1:=fr_call f1
 have F2:=fr_call f2
 have N3:=name_call z3 n3
 have F4:=fr_call f4
 clear z3 f1 f2 n3 f4
 go_enter Tryz.func200,Tryz.ntmps200
 go_wp2_with fail
 refine (F1.out _).mono ?_
 rintro e w' ⟨rfl,hw'⟩
 rw [hw']
 clear hw'
 go_wp2_with fail
 refine (F2.out _).mono ?_
 rintro e w' ⟨rfl,hw'⟩
 rw [hw']
 clear hw'
 go_wp2_with fail
 refine (N3.out _).mono ?_
 rintro e v1 ⟨rfl,hb⟩
 have hr:mRow a1 a2 a3 a4 a5 a6 a7 a8 a9 a10 a11 a12 v1 (w.heap.size+1):=(hb.block (w.heap.size+1) (zx HR.out)).trans HR.out
 have HB2:Hid (Below w.heap.size w v1):=HB.out.trans (hb.mono HB.out.size)
 have HR2:=zh hr
 have c0:v1.cell? ⟨w.heap.size+1,0,none⟩=some (.int .i64 a1):=zl hr rfl
 have c1:v1.cell? ⟨w.heap.size+1,1,none⟩=some (.int .i64 a2):=zl hr rfl
 have c2:v1.cell? ⟨w.heap.size+1,2,none⟩=some (.int .i64 a3):=zl hr rfl
 have c3:v1.cell? ⟨w.heap.size+1,3,none⟩=some (.int .i64 a4):=zl hr rfl
 have c4:v1.cell? ⟨w.heap.size+1,4,none⟩=some (.int .i64 a5):=zl hr rfl
 have c5:v1.cell? ⟨w.heap.size+1,5,none⟩=some (.string a6):=zl hr rfl
 have c6:v1.cell? ⟨w.heap.size+1,6,none⟩=some (.string a7):=zl hr rfl
 have c7:v1.cell? ⟨w.heap.size+1,7,none⟩=some (.int .u64 (a8:Int)):=zl hr rfl
 have c8:v1.cell? ⟨w.heap.size+1,8,none⟩=some (.int .i64 a9):=zl hr rfl
 have c9:v1.cell? ⟨w.heap.size+1,9,none⟩=some (.int .i64 a10):=zl hr rfl
 have c10:v1.cell? ⟨w.heap.size+1,10,none⟩=some (.int .i64 a11):=zl hr rfl
 have c11:v1.cell? ⟨w.heap.size+1,11,none⟩=some (.int .i64 a12):=zl hr rfl
 clear hb hr HR HB
 have HR:=HR2;have HB:=HB2
 clear HR2 HB2
 go_wp2_with fail
 refine (F4.out _).mono ?_
 rintro e w' ⟨rfl,hw'⟩
 rw [hw']
 clear hw'
 go_wp2
 go_ret
 exact ⟨rfl,HB.out⟩
theorem may5 (z3:a6.size<=9223372036854775807) (f1:fr a1 0 31=true) (f2:fr a2 1 1048576=true) (n3:nameB a6.data.toList=true) (f4:fr a9 0 2=true) (f5:fr a10 0 1099511627776=false) (w:World):Calls Tryz.prog 200 #[.agg #[.int .i64 a1,.int .i64 a2,.int .i64 a3,.int .i64 a4,.int .i64 a5,.string a6,.string a7,.int .u64 (a8:Int),.int .i64 a9,.int .i64 a10,.int .i64 a11,.int .i64 a12]] w fun e w' => e = .returned (.bool false)/\Below w.heap.size w w':=by
 obtain ⟨hr,hb⟩:=m_start a1 a2 a3 a4 a5 a6 a7 a8 a9 a10 a11 a12 w
 have HR:=zh hr;have HB:=zh hb
 clear hr hb
 have F1:=fr_call f1
 have F2:=fr_call f2
 have N3:=name_call z3 n3
 have F4:=fr_call f4
 have F5:=fr_call f5
 clear z3 f1 f2 n3 f4 f5
 go_enter Tryz.func200,Tryz.ntmps200
 go_wp2_with fail
 refine (F1.out _).mono ?_
 rintro e w' ⟨rfl,hw'⟩
 rw [hw']
 clear hw'
 go_wp2_with fail
 refine (F2.out _).mono ?_
 rintro e w' ⟨rfl,hw'⟩
 rw [hw']
 clear hw'
 go_wp2_with fail
 refine (N3.out _).mono ?_
 rintro e v1 ⟨rfl,hb⟩
 have hr:mRow a1 a2 a3 a4 a5 a6 a7 a8 a9 a10 a11 a12 v1 (w.heap.size+1):=(hb.block (w.heap.size+1) (zx HR.out)).trans HR.out
 have HB2:Hid (Below w.heap.size w v1):=HB.out.trans (hb.mono HB.out.size)
 have HR2:=zh hr
 have c0:v1.cell? ⟨w.heap.size+1,0,none⟩=some (.int .i64 a1):=zl hr rfl
 have c1:v1.cell? ⟨w.heap.size+1,1,none⟩=some (.int .i64 a2):=zl hr rfl
 have c2:v1.cell? ⟨w.heap.size+1,2,none⟩=some (.int .i64 a3):=zl hr rfl
 have c3:v1.cell? ⟨w.heap.size+1,3,none⟩=some (.int .i64 a4):=zl hr rfl
 have c4:v1.cell? ⟨w.heap.size+1,4,none⟩=some (.int .i64 a5):=zl hr rfl
 have c5:v1.cell? ⟨w.heap.size+1,5,none⟩=some (.string a6):=zl hr rfl
 have c6:v1.cell? ⟨w.heap.size+1,6,none⟩=some (.string a7):=zl hr rfl
 have c7:v1.cell? ⟨w.heap.size+1,7,none⟩=some (.int .u64 (a8:Int)):=zl hr rfl
 have c8:v1.cell? ⟨w.heap.size+1,8,none⟩=some (.int .i64 a9):=zl hr rfl
 have c9:v1.cell? ⟨w.heap.size+1,9,none⟩=some (.int .i64 a10):=zl hr rfl
 have c10:v1.cell? ⟨w.heap.size+1,10,none⟩=some (.int .i64 a11):=zl hr rfl
 have c11:v1.cell? ⟨w.heap.size+1,11,none⟩=some (.int .i64 a12):=zl hr rfl
 clear hb hr HR HB
 have HR:=HR2;have HB:=HB2
 clear HR2 HB2
 go_wp2_with fail
 refine (F4.out _).mono ?_
 rintro e w' ⟨rfl,hw'⟩
 rw [hw']
 clear hw'
 go_wp2_with fail
 refine (F5.out _).mono ?_
 rintro e w' ⟨rfl,hw'⟩
 rw [hw']
 clear hw'
 go_wp2
 go_ret
 exact ⟨rfl,HB.out⟩
theorem may6 (z3:a6.size<=9223372036854775807) (f1:fr a1 0 31=true) (f2:fr a2 1 1048576=true) (n3:nameB a6.data.toList=true) (f4:fr a9 0 2=true) (f5:fr a10 0 1099511627776=true) (f6:fr a11 (a10+1) 1099511627776=false) (w:World):Calls Tryz.prog 200 #[.agg #[.int .i64 a1,.int .i64 a2,.int .i64 a3,.int .i64 a4,.int .i64 a5,.string a6,.string a7,.int .u64 (a8:Int),.int .i64 a9,.int .i64 a10,.int .i64 a11,.int .i64 a12]] w fun e w' => e = .returned (.bool false)/\Below w.heap.size w w':=by
 obtain ⟨hr,hb⟩:=m_start a1 a2 a3 a4 a5 a6 a7 a8 a9 a10 a11 a12 w
 have HR:=zh hr;have HB:=zh hb
 clear hr hb
 have hw1:IntKind.i64.wrap (a10+1)=a10+1:=IntWalk.i64_in _ (by have:=of_decide_eq_true f5;omega)
 have F1:=fr_call f1
 have F2:=fr_call f2
 have N3:=name_call z3 n3
 have F4:=fr_call f4
 have F5:=fr_call f5
 have F6:=fr_call f6
 clear z3 f1 f2 n3 f4 f5 f6
 go_enter Tryz.func200,Tryz.ntmps200
 go_wp2_with fail
 refine (F1.out _).mono ?_
 rintro e w' ⟨rfl,hw'⟩
 rw [hw']
 clear hw'
 go_wp2_with fail
 refine (F2.out _).mono ?_
 rintro e w' ⟨rfl,hw'⟩
 rw [hw']
 clear hw'
 go_wp2_with fail
 refine (N3.out _).mono ?_
 rintro e v1 ⟨rfl,hb⟩
 have hr:mRow a1 a2 a3 a4 a5 a6 a7 a8 a9 a10 a11 a12 v1 (w.heap.size+1):=(hb.block (w.heap.size+1) (zx HR.out)).trans HR.out
 have HB2:Hid (Below w.heap.size w v1):=HB.out.trans (hb.mono HB.out.size)
 have HR2:=zh hr
 have c0:v1.cell? ⟨w.heap.size+1,0,none⟩=some (.int .i64 a1):=zl hr rfl
 have c1:v1.cell? ⟨w.heap.size+1,1,none⟩=some (.int .i64 a2):=zl hr rfl
 have c2:v1.cell? ⟨w.heap.size+1,2,none⟩=some (.int .i64 a3):=zl hr rfl
 have c3:v1.cell? ⟨w.heap.size+1,3,none⟩=some (.int .i64 a4):=zl hr rfl
 have c4:v1.cell? ⟨w.heap.size+1,4,none⟩=some (.int .i64 a5):=zl hr rfl
 have c5:v1.cell? ⟨w.heap.size+1,5,none⟩=some (.string a6):=zl hr rfl
 have c6:v1.cell? ⟨w.heap.size+1,6,none⟩=some (.string a7):=zl hr rfl
 have c7:v1.cell? ⟨w.heap.size+1,7,none⟩=some (.int .u64 (a8:Int)):=zl hr rfl
 have c8:v1.cell? ⟨w.heap.size+1,8,none⟩=some (.int .i64 a9):=zl hr rfl
 have c9:v1.cell? ⟨w.heap.size+1,9,none⟩=some (.int .i64 a10):=zl hr rfl
 have c10:v1.cell? ⟨w.heap.size+1,10,none⟩=some (.int .i64 a11):=zl hr rfl
 have c11:v1.cell? ⟨w.heap.size+1,11,none⟩=some (.int .i64 a12):=zl hr rfl
 clear hb hr HR HB
 have HR:=HR2;have HB:=HB2
 clear HR2 HB2
 go_wp2_with fail
 refine (F4.out _).mono ?_
 rintro e w' ⟨rfl,hw'⟩
 rw [hw']
 clear hw'
 go_wp2_with fail
 refine (F5.out _).mono ?_
 rintro e w' ⟨rfl,hw'⟩
 rw [hw']
 clear hw'
 go_wp2_with fail
 refine (F6.out _).mono ?_
 rintro e w' ⟨rfl,hw'⟩
 rw [hw']
 clear hw'
 go_wp2
 go_ret
 exact ⟨rfl,HB.out⟩
theorem may7a (z3:a6.size<=9223372036854775807) (f1:fr a1 0 31=true) (f2:fr a2 1 1048576=true) (n3:nameB a6.data.toList=true) (f4:fr a9 0 2=true) (f5:fr a10 0 1099511627776=true) (f6:fr a11 (a10+1) 1099511627776=true) (k5:a5=0) (k3:¬ (a3=0/\a4=0)) (w:World):Calls Tryz.prog 200 #[.agg #[.int .i64 a1,.int .i64 a2,.int .i64 a3,.int .i64 a4,.int .i64 a5,.string a6,.string a7,.int .u64 (a8:Int),.int .i64 a9,.int .i64 a10,.int .i64 a11,.int .i64 a12]] w fun e w' => e = .returned (.bool false)/\Below w.heap.size w w':=by
 obtain ⟨hr,hb⟩:=m_start a1 a2 a3 a4 a5 a6 a7 a8 a9 a10 a11 a12 w
 have HR:=zh hr;have HB:=zh hb
 clear hr hb
 have hw1:IntKind.i64.wrap (a10+1)=a10+1:=IntWalk.i64_in _ (by have:=of_decide_eq_true f5;omega)
 subst k5
 have hne:=link_zero_no k3
 clear k3
 have F1:=fr_call f1
 have F2:=fr_call f2
 have N3:=name_call z3 n3
 have F4:=fr_call f4
 have F5:=fr_call f5
 have F6:=fr_call f6
 clear z3 f1 f2 n3 f4 f5 f6
 go_enter Tryz.func200,Tryz.ntmps200
 go_wp2_with fail
 refine (F1.out _).mono ?_
 rintro e w' ⟨rfl,hw'⟩
 rw [hw']
 clear hw'
 go_wp2_with fail
 refine (F2.out _).mono ?_
 rintro e w' ⟨rfl,hw'⟩
 rw [hw']
 clear hw'
 go_wp2_with fail
 refine (N3.out _).mono ?_
 rintro e v1 ⟨rfl,hb⟩
 have hr:mRow a1 a2 a3 a4 0 a6 a7 a8 a9 a10 a11 a12 v1 (w.heap.size+1):=(hb.block (w.heap.size+1) (zx HR.out)).trans HR.out
 have HB2:Hid (Below w.heap.size w v1):=HB.out.trans (hb.mono HB.out.size)
 have HR2:=zh hr
 have c0:v1.cell? ⟨w.heap.size+1,0,none⟩=some (.int .i64 a1):=zl hr rfl
 have c1:v1.cell? ⟨w.heap.size+1,1,none⟩=some (.int .i64 a2):=zl hr rfl
 have c2:v1.cell? ⟨w.heap.size+1,2,none⟩=some (.int .i64 a3):=zl hr rfl
 have c3:v1.cell? ⟨w.heap.size+1,3,none⟩=some (.int .i64 a4):=zl hr rfl
 have c4:v1.cell? ⟨w.heap.size+1,4,none⟩=some (.int .i64 0):=zl hr rfl
 have c5:v1.cell? ⟨w.heap.size+1,5,none⟩=some (.string a6):=zl hr rfl
 have c6:v1.cell? ⟨w.heap.size+1,6,none⟩=some (.string a7):=zl hr rfl
 have c7:v1.cell? ⟨w.heap.size+1,7,none⟩=some (.int .u64 (a8:Int)):=zl hr rfl
 have c8:v1.cell? ⟨w.heap.size+1,8,none⟩=some (.int .i64 a9):=zl hr rfl
 have c9:v1.cell? ⟨w.heap.size+1,9,none⟩=some (.int .i64 a10):=zl hr rfl
 have c10:v1.cell? ⟨w.heap.size+1,10,none⟩=some (.int .i64 a11):=zl hr rfl
 have c11:v1.cell? ⟨w.heap.size+1,11,none⟩=some (.int .i64 a12):=zl hr rfl
 clear hb hr HR HB
 have HR:=HR2;have HB:=HB2
 clear HR2 HB2
 go_wp2_with fail
 refine (F4.out _).mono ?_
 rintro e w' ⟨rfl,hw'⟩
 rw [hw']
 clear hw'
 go_wp2_with fail
 refine (F5.out _).mono ?_
 rintro e w' ⟨rfl,hw'⟩
 rw [hw']
 clear hw'
 go_wp2_with fail
 refine (F6.out _).mono ?_
 rintro e w' ⟨rfl,hw'⟩
 rw [hw']
 clear hw'
 go_wp2
 go_ret
 exact ⟨rfl,HB.out⟩
theorem may7b (z3:a6.size<=9223372036854775807) (f1:fr a1 0 31=true) (f2:fr a2 1 1048576=true) (n3:nameB a6.data.toList=true) (f4:fr a9 0 2=true) (f5:fr a10 0 1099511627776=true) (f6:fr a11 (a10+1) 1099511627776=true) (k5:a5=0) (k3:a3=0) (k4:a4=0) (k7:(a7.toList == ([]:List UInt8))=false) (w:World):Calls Tryz.prog 200 #[.agg #[.int .i64 a1,.int .i64 a2,.int .i64 a3,.int .i64 a4,.int .i64 a5,.string a6,.string a7,.int .u64 (a8:Int),.int .i64 a9,.int .i64 a10,.int .i64 a11,.int .i64 a12]] w fun e w' => e = .returned (.bool false)/\Below w.heap.size w w':=by
 obtain ⟨hr,hb⟩:=m_start a1 a2 a3 a4 a5 a6 a7 a8 a9 a10 a11 a12 w
 have HR:=zh hr;have HB:=zh hb
 clear hr hb
 have hw1:IntKind.i64.wrap (a10+1)=a10+1:=IntWalk.i64_in _ (by have:=of_decide_eq_true f5;omega)
 subst k5 k3 k4
 have F1:=fr_call f1
 have F2:=fr_call f2
 have N3:=name_call z3 n3
 have F4:=fr_call f4
 have F5:=fr_call f5
 have F6:=fr_call f6
 clear z3 f1 f2 n3 f4 f5 f6
 go_enter Tryz.func200,Tryz.ntmps200
 go_wp2_with fail
 refine (F1.out _).mono ?_
 rintro e w' ⟨rfl,hw'⟩
 rw [hw']
 clear hw'
 go_wp2_with fail
 refine (F2.out _).mono ?_
 rintro e w' ⟨rfl,hw'⟩
 rw [hw']
 clear hw'
 go_wp2_with fail
 refine (N3.out _).mono ?_
 rintro e v1 ⟨rfl,hb⟩
 have hr:mRow a1 a2 0 0 0 a6 a7 a8 a9 a10 a11 a12 v1 (w.heap.size+1):=(hb.block (w.heap.size+1) (zx HR.out)).trans HR.out
 have HB2:Hid (Below w.heap.size w v1):=HB.out.trans (hb.mono HB.out.size)
 have HR2:=zh hr
 have c0:v1.cell? ⟨w.heap.size+1,0,none⟩=some (.int .i64 a1):=zl hr rfl
 have c1:v1.cell? ⟨w.heap.size+1,1,none⟩=some (.int .i64 a2):=zl hr rfl
 have c2:v1.cell? ⟨w.heap.size+1,2,none⟩=some (.int .i64 0):=zl hr rfl
 have c3:v1.cell? ⟨w.heap.size+1,3,none⟩=some (.int .i64 0):=zl hr rfl
 have c4:v1.cell? ⟨w.heap.size+1,4,none⟩=some (.int .i64 0):=zl hr rfl
 have c5:v1.cell? ⟨w.heap.size+1,5,none⟩=some (.string a6):=zl hr rfl
 have c6:v1.cell? ⟨w.heap.size+1,6,none⟩=some (.string a7):=zl hr rfl
 have c7:v1.cell? ⟨w.heap.size+1,7,none⟩=some (.int .u64 (a8:Int)):=zl hr rfl
 have c8:v1.cell? ⟨w.heap.size+1,8,none⟩=some (.int .i64 a9):=zl hr rfl
 have c9:v1.cell? ⟨w.heap.size+1,9,none⟩=some (.int .i64 a10):=zl hr rfl
 have c10:v1.cell? ⟨w.heap.size+1,10,none⟩=some (.int .i64 a11):=zl hr rfl
 have c11:v1.cell? ⟨w.heap.size+1,11,none⟩=some (.int .i64 a12):=zl hr rfl
 clear hb hr HR HB
 have HR:=HR2;have HB:=HB2
 clear HR2 HB2
 go_wp2_with fail
 refine (F4.out _).mono ?_
 rintro e w' ⟨rfl,hw'⟩
 rw [hw']
 clear hw'
 go_wp2_with fail
 refine (F5.out _).mono ?_
 rintro e w' ⟨rfl,hw'⟩
 rw [hw']
 clear hw'
 go_wp2_with fail
 refine (F6.out _).mono ?_
 rintro e w' ⟨rfl,hw'⟩
 rw [hw']
 clear hw'
 go_wp2
 go_ret
 exact ⟨rfl,HB.out⟩
theorem may7c (z3:a6.size<=9223372036854775807) (f1:fr a1 0 31=true) (f2:fr a2 1 1048576=true) (n3:nameB a6.data.toList=true) (f4:fr a9 0 2=true) (f5:fr a10 0 1099511627776=true) (f6:fr a11 (a10+1) 1099511627776=true) (k5:a5=0) (k3:a3=0) (k4:a4=0) (k7:(a7.toList == ([]:List UInt8))=true) (w:World):Calls Tryz.prog 200 #[.agg #[.int .i64 a1,.int .i64 a2,.int .i64 a3,.int .i64 a4,.int .i64 a5,.string a6,.string a7,.int .u64 (a8:Int),.int .i64 a9,.int .i64 a10,.int .i64 a11,.int .i64 a12]] w fun e w' => e = .returned (.bool (a12 == 0))/\Below w.heap.size w w':=by
 obtain ⟨hr,hb⟩:=m_start a1 a2 a3 a4 a5 a6 a7 a8 a9 a10 a11 a12 w
 have HR:=zh hr;have HB:=zh hb
 clear hr hb
 have hw1:IntKind.i64.wrap (a10+1)=a10+1:=IntWalk.i64_in _ (by have:=of_decide_eq_true f5;omega)
 subst k5 k3 k4
 have F1:=fr_call f1
 have F2:=fr_call f2
 have N3:=name_call z3 n3
 have F4:=fr_call f4
 have F5:=fr_call f5
 have F6:=fr_call f6
 clear z3 f1 f2 n3 f4 f5 f6
 go_enter Tryz.func200,Tryz.ntmps200
 go_wp2_with fail
 refine (F1.out _).mono ?_
 rintro e w' ⟨rfl,hw'⟩
 rw [hw']
 clear hw'
 go_wp2_with fail
 refine (F2.out _).mono ?_
 rintro e w' ⟨rfl,hw'⟩
 rw [hw']
 clear hw'
 go_wp2_with fail
 refine (N3.out _).mono ?_
 rintro e v1 ⟨rfl,hb⟩
 have hr:mRow a1 a2 0 0 0 a6 a7 a8 a9 a10 a11 a12 v1 (w.heap.size+1):=(hb.block (w.heap.size+1) (zx HR.out)).trans HR.out
 have HB2:Hid (Below w.heap.size w v1):=HB.out.trans (hb.mono HB.out.size)
 have HR2:=zh hr
 have c0:v1.cell? ⟨w.heap.size+1,0,none⟩=some (.int .i64 a1):=zl hr rfl
 have c1:v1.cell? ⟨w.heap.size+1,1,none⟩=some (.int .i64 a2):=zl hr rfl
 have c2:v1.cell? ⟨w.heap.size+1,2,none⟩=some (.int .i64 0):=zl hr rfl
 have c3:v1.cell? ⟨w.heap.size+1,3,none⟩=some (.int .i64 0):=zl hr rfl
 have c4:v1.cell? ⟨w.heap.size+1,4,none⟩=some (.int .i64 0):=zl hr rfl
 have c5:v1.cell? ⟨w.heap.size+1,5,none⟩=some (.string a6):=zl hr rfl
 have c6:v1.cell? ⟨w.heap.size+1,6,none⟩=some (.string a7):=zl hr rfl
 have c7:v1.cell? ⟨w.heap.size+1,7,none⟩=some (.int .u64 (a8:Int)):=zl hr rfl
 have c8:v1.cell? ⟨w.heap.size+1,8,none⟩=some (.int .i64 a9):=zl hr rfl
 have c9:v1.cell? ⟨w.heap.size+1,9,none⟩=some (.int .i64 a10):=zl hr rfl
 have c10:v1.cell? ⟨w.heap.size+1,10,none⟩=some (.int .i64 a11):=zl hr rfl
 have c11:v1.cell? ⟨w.heap.size+1,11,none⟩=some (.int .i64 a12):=zl hr rfl
 clear hb hr HR HB
 have HR:=HR2;have HB:=HB2
 clear HR2 HB2
 go_wp2_with fail
 refine (F4.out _).mono ?_
 rintro e w' ⟨rfl,hw'⟩
 rw [hw']
 clear hw'
 go_wp2_with fail
 refine (F5.out _).mono ?_
 rintro e w' ⟨rfl,hw'⟩
 rw [hw']
 clear hw'
 go_wp2_with fail
 refine (F6.out _).mono ?_
 rintro e w' ⟨rfl,hw'⟩
 rw [hw']
 clear hw'
 go_wp2
 go_ret
 exact ⟨by first | rfl | simp,HB.out⟩
theorem may8 (z3:a6.size<=9223372036854775807) (f1:fr a1 0 31=true) (f2:fr a2 1 1048576=true) (n3:nameB a6.data.toList=true) (f4:fr a9 0 2=true) (f5:fr a10 0 1099511627776=true) (f6:fr a11 (a10+1) 1099511627776=true) (k5:(a5 == 0)=false) (k1:(a5 == 1)=false) (k2:(a5 == 2)=false) (w:World):Calls Tryz.prog 200 #[.agg #[.int .i64 a1,.int .i64 a2,.int .i64 a3,.int .i64 a4,.int .i64 a5,.string a6,.string a7,.int .u64 (a8:Int),.int .i64 a9,.int .i64 a10,.int .i64 a11,.int .i64 a12]] w fun e w' => e = .returned (.bool false)/\Below w.heap.size w w':=by
 obtain ⟨hr,hb⟩:=m_start a1 a2 a3 a4 a5 a6 a7 a8 a9 a10 a11 a12 w
 have HR:=zh hr;have HB:=zh hb
 clear hr hb
 have hw1:IntKind.i64.wrap (a10+1)=a10+1:=IntWalk.i64_in _ (by have:=of_decide_eq_true f5;omega)
 have k3:(a5 != 1)=true:=by rw [bne,k1];rfl
 have k4:(a5 != 2)=true:=by rw [bne,k2];rfl
 have F1:=fr_call f1
 have F2:=fr_call f2
 have N3:=name_call z3 n3
 have F4:=fr_call f4
 have F5:=fr_call f5
 have F6:=fr_call f6
 clear z3 f1 f2 n3 f4 f5 f6
 go_enter Tryz.func200,Tryz.ntmps200
 go_wp2_with fail
 refine (F1.out _).mono ?_
 rintro e w' ⟨rfl,hw'⟩
 rw [hw']
 clear hw'
 go_wp2_with fail
 refine (F2.out _).mono ?_
 rintro e w' ⟨rfl,hw'⟩
 rw [hw']
 clear hw'
 go_wp2_with fail
 refine (N3.out _).mono ?_
 rintro e v1 ⟨rfl,hb⟩
 have hr:mRow a1 a2 a3 a4 a5 a6 a7 a8 a9 a10 a11 a12 v1 (w.heap.size+1):=(hb.block (w.heap.size+1) (zx HR.out)).trans HR.out
 have HB2:Hid (Below w.heap.size w v1):=HB.out.trans (hb.mono HB.out.size)
 have HR2:=zh hr
 have c0:v1.cell? ⟨w.heap.size+1,0,none⟩=some (.int .i64 a1):=zl hr rfl
 have c1:v1.cell? ⟨w.heap.size+1,1,none⟩=some (.int .i64 a2):=zl hr rfl
 have c2:v1.cell? ⟨w.heap.size+1,2,none⟩=some (.int .i64 a3):=zl hr rfl
 have c3:v1.cell? ⟨w.heap.size+1,3,none⟩=some (.int .i64 a4):=zl hr rfl
 have c4:v1.cell? ⟨w.heap.size+1,4,none⟩=some (.int .i64 a5):=zl hr rfl
 have c5:v1.cell? ⟨w.heap.size+1,5,none⟩=some (.string a6):=zl hr rfl
 have c6:v1.cell? ⟨w.heap.size+1,6,none⟩=some (.string a7):=zl hr rfl
 have c7:v1.cell? ⟨w.heap.size+1,7,none⟩=some (.int .u64 (a8:Int)):=zl hr rfl
 have c8:v1.cell? ⟨w.heap.size+1,8,none⟩=some (.int .i64 a9):=zl hr rfl
 have c9:v1.cell? ⟨w.heap.size+1,9,none⟩=some (.int .i64 a10):=zl hr rfl
 have c10:v1.cell? ⟨w.heap.size+1,10,none⟩=some (.int .i64 a11):=zl hr rfl
 have c11:v1.cell? ⟨w.heap.size+1,11,none⟩=some (.int .i64 a12):=zl hr rfl
 clear hb hr HR HB
 have HR:=HR2;have HB:=HB2
 clear HR2 HB2
 go_wp2_with fail
 refine (F4.out _).mono ?_
 rintro e w' ⟨rfl,hw'⟩
 rw [hw']
 clear hw'
 go_wp2_with fail
 refine (F5.out _).mono ?_
 rintro e w' ⟨rfl,hw'⟩
 rw [hw']
 clear hw'
 go_wp2_with fail
 refine (F6.out _).mono ?_
 rintro e w' ⟨rfl,hw'⟩
 rw [hw']
 clear hw'
 go_wp2
 go_ret
 exact ⟨rfl,HB.out⟩
theorem may9 (z3:a6.size<=9223372036854775807) (f1:fr a1 0 31=true) (f2:fr a2 1 1048576=true) (n3:nameB a6.data.toList=true) (f4:fr a9 0 2=true) (f5:fr a10 0 1099511627776=true) (f6:fr a11 (a10+1) 1099511627776=true) (k5:a5=2) (k9:300<a11-a10) (w:World):Calls Tryz.prog 200 #[.agg #[.int .i64 a1,.int .i64 a2,.int .i64 a3,.int .i64 a4,.int .i64 a5,.string a6,.string a7,.int .u64 (a8:Int),.int .i64 a9,.int .i64 a10,.int .i64 a11,.int .i64 a12]] w fun e w' => e = .returned (.bool false)/\Below w.heap.size w w':=by
 obtain ⟨hr,hb⟩:=m_start a1 a2 a3 a4 a5 a6 a7 a8 a9 a10 a11 a12 w
 have HR:=zh hr;have HB:=zh hb
 clear hr hb
 have hw1:IntKind.i64.wrap (a10+1)=a10+1:=IntWalk.i64_in _ (by have:=of_decide_eq_true f5;omega)
 have hw2:IntKind.i64.wrap (a11-a10)=a11-a10:=IntWalk.i64_in _ (by have h5:=of_decide_eq_true f5;have h6:=of_decide_eq_true f6;omega)
 subst k5
 have F1:=fr_call f1
 have F2:=fr_call f2
 have N3:=name_call z3 n3
 have F4:=fr_call f4
 have F5:=fr_call f5
 have F6:=fr_call f6
 clear z3 f1 f2 n3 f4 f5 f6
 go_enter Tryz.func200,Tryz.ntmps200
 go_wp2_with fail
 refine (F1.out _).mono ?_
 rintro e w' ⟨rfl,hw'⟩
 rw [hw']
 clear hw'
 go_wp2_with fail
 refine (F2.out _).mono ?_
 rintro e w' ⟨rfl,hw'⟩
 rw [hw']
 clear hw'
 go_wp2_with fail
 refine (N3.out _).mono ?_
 rintro e v1 ⟨rfl,hb⟩
 have hr:mRow a1 a2 a3 a4 2 a6 a7 a8 a9 a10 a11 a12 v1 (w.heap.size+1):=(hb.block (w.heap.size+1) (zx HR.out)).trans HR.out
 have HB2:Hid (Below w.heap.size w v1):=HB.out.trans (hb.mono HB.out.size)
 have HR2:=zh hr
 have c0:v1.cell? ⟨w.heap.size+1,0,none⟩=some (.int .i64 a1):=zl hr rfl
 have c1:v1.cell? ⟨w.heap.size+1,1,none⟩=some (.int .i64 a2):=zl hr rfl
 have c2:v1.cell? ⟨w.heap.size+1,2,none⟩=some (.int .i64 a3):=zl hr rfl
 have c3:v1.cell? ⟨w.heap.size+1,3,none⟩=some (.int .i64 a4):=zl hr rfl
 have c4:v1.cell? ⟨w.heap.size+1,4,none⟩=some (.int .i64 2):=zl hr rfl
 have c5:v1.cell? ⟨w.heap.size+1,5,none⟩=some (.string a6):=zl hr rfl
 have c6:v1.cell? ⟨w.heap.size+1,6,none⟩=some (.string a7):=zl hr rfl
 have c7:v1.cell? ⟨w.heap.size+1,7,none⟩=some (.int .u64 (a8:Int)):=zl hr rfl
 have c8:v1.cell? ⟨w.heap.size+1,8,none⟩=some (.int .i64 a9):=zl hr rfl
 have c9:v1.cell? ⟨w.heap.size+1,9,none⟩=some (.int .i64 a10):=zl hr rfl
 have c10:v1.cell? ⟨w.heap.size+1,10,none⟩=some (.int .i64 a11):=zl hr rfl
 have c11:v1.cell? ⟨w.heap.size+1,11,none⟩=some (.int .i64 a12):=zl hr rfl
 clear hb hr HR HB
 have HR:=HR2;have HB:=HB2
 clear HR2 HB2
 go_wp2_with fail
 refine (F4.out _).mono ?_
 rintro e w' ⟨rfl,hw'⟩
 rw [hw']
 clear hw'
 go_wp2_with fail
 refine (F5.out _).mono ?_
 rintro e w' ⟨rfl,hw'⟩
 rw [hw']
 clear hw'
 go_wp2_with fail
 refine (F6.out _).mono ?_
 rintro e w' ⟨rfl,hw'⟩
 rw [hw']
 clear hw'
 go_wp2
 go_ret
 exact ⟨rfl,HB.out⟩
theorem may10k (z3:a6.size<=9223372036854775807) (f1:fr a1 0 31=true) (f2:fr a2 1 1048576=true) (n3:nameB a6.data.toList=true) (f4:fr a9 0 2=true) (f5:fr a10 0 1099511627776=true) (f6:fr a11 (a10+1) 1099511627776=true) (k5:a5=1) (f7:fr a3 0 31=false) (w:World):Calls Tryz.prog 200 #[.agg #[.int .i64 a1,.int .i64 a2,.int .i64 a3,.int .i64 a4,.int .i64 a5,.string a6,.string a7,.int .u64 (a8:Int),.int .i64 a9,.int .i64 a10,.int .i64 a11,.int .i64 a12]] w fun e w' => e = .returned (.bool false)/\Below w.heap.size w w':=by
 obtain ⟨hr,hb⟩:=m_start a1 a2 a3 a4 a5 a6 a7 a8 a9 a10 a11 a12 w
 have HR:=zh hr;have HB:=zh hb
 clear hr hb
 have hw1:IntKind.i64.wrap (a10+1)=a10+1:=IntWalk.i64_in _ (by have:=of_decide_eq_true f5;omega)
 have hw2:IntKind.i64.wrap (a11-a10)=a11-a10:=IntWalk.i64_in _ (by have h5:=of_decide_eq_true f5;have h6:=of_decide_eq_true f6;omega)
 have hw3:IntKind.i64.wrap (a2-1)=a2-1:=IntWalk.i64_in _ (by have h2:=of_decide_eq_true f2;omega)
 subst k5
 have F1:=fr_call f1
 have F2:=fr_call f2
 have N3:=name_call z3 n3
 have F4:=fr_call f4
 have F5:=fr_call f5
 have F6:=fr_call f6
 have F7:=fr_call f7
 clear z3 f1 f2 n3 f4 f5 f6 f7
 go_enter Tryz.func200,Tryz.ntmps200
 go_wp2_with fail
 refine (F1.out _).mono ?_
 rintro e w' ⟨rfl,hw'⟩
 rw [hw']
 clear hw'
 go_wp2_with fail
 refine (F2.out _).mono ?_
 rintro e w' ⟨rfl,hw'⟩
 rw [hw']
 clear hw'
 go_wp2_with fail
 refine (N3.out _).mono ?_
 rintro e v1 ⟨rfl,hb⟩
 have hr:mRow a1 a2 a3 a4 1 a6 a7 a8 a9 a10 a11 a12 v1 (w.heap.size+1):=(hb.block (w.heap.size+1) (zx HR.out)).trans HR.out
 have HB2:Hid (Below w.heap.size w v1):=HB.out.trans (hb.mono HB.out.size)
 have HR2:=zh hr
 have c0:v1.cell? ⟨w.heap.size+1,0,none⟩=some (.int .i64 a1):=zl hr rfl
 have c1:v1.cell? ⟨w.heap.size+1,1,none⟩=some (.int .i64 a2):=zl hr rfl
 have c2:v1.cell? ⟨w.heap.size+1,2,none⟩=some (.int .i64 a3):=zl hr rfl
 have c3:v1.cell? ⟨w.heap.size+1,3,none⟩=some (.int .i64 a4):=zl hr rfl
 have c4:v1.cell? ⟨w.heap.size+1,4,none⟩=some (.int .i64 1):=zl hr rfl
 have c5:v1.cell? ⟨w.heap.size+1,5,none⟩=some (.string a6):=zl hr rfl
 have c6:v1.cell? ⟨w.heap.size+1,6,none⟩=some (.string a7):=zl hr rfl
 have c7:v1.cell? ⟨w.heap.size+1,7,none⟩=some (.int .u64 (a8:Int)):=zl hr rfl
 have c8:v1.cell? ⟨w.heap.size+1,8,none⟩=some (.int .i64 a9):=zl hr rfl
 have c9:v1.cell? ⟨w.heap.size+1,9,none⟩=some (.int .i64 a10):=zl hr rfl
 have c10:v1.cell? ⟨w.heap.size+1,10,none⟩=some (.int .i64 a11):=zl hr rfl
 have c11:v1.cell? ⟨w.heap.size+1,11,none⟩=some (.int .i64 a12):=zl hr rfl
 clear hb hr HR HB
 have HR:=HR2;have HB:=HB2
 clear HR2 HB2
 go_wp2_with fail
 refine (F4.out _).mono ?_
 rintro e w' ⟨rfl,hw'⟩
 rw [hw']
 clear hw'
 go_wp2_with fail
 refine (F5.out _).mono ?_
 rintro e w' ⟨rfl,hw'⟩
 rw [hw']
 clear hw'
 go_wp2_with fail
 refine (F6.out _).mono ?_
 rintro e w' ⟨rfl,hw'⟩
 rw [hw']
 clear hw'
 go_wp2_with fail
 refine (F7.out _).mono ?_
 rintro e w' ⟨rfl,hw'⟩
 rw [hw']
 clear hw'
 go_wp2
 go_ret
 exact ⟨rfl,HB.out⟩
theorem may11k (z3:a6.size<=9223372036854775807) (f1:fr a1 0 31=true) (f2:fr a2 1 1048576=true) (n3:nameB a6.data.toList=true) (f4:fr a9 0 2=true) (f5:fr a10 0 1099511627776=true) (f6:fr a11 (a10+1) 1099511627776=true) (k5:a5=1) (f7:fr a3 0 31=true) (f8:fr a4 1 (a2-1)=false) (w:World):Calls Tryz.prog 200 #[.agg #[.int .i64 a1,.int .i64 a2,.int .i64 a3,.int .i64 a4,.int .i64 a5,.string a6,.string a7,.int .u64 (a8:Int),.int .i64 a9,.int .i64 a10,.int .i64 a11,.int .i64 a12]] w fun e w' => e = .returned (.bool false)/\Below w.heap.size w w':=by
 obtain ⟨hr,hb⟩:=m_start a1 a2 a3 a4 a5 a6 a7 a8 a9 a10 a11 a12 w
 have HR:=zh hr;have HB:=zh hb
 clear hr hb
 have hw1:IntKind.i64.wrap (a10+1)=a10+1:=IntWalk.i64_in _ (by have:=of_decide_eq_true f5;omega)
 have hw2:IntKind.i64.wrap (a11-a10)=a11-a10:=IntWalk.i64_in _ (by have h5:=of_decide_eq_true f5;have h6:=of_decide_eq_true f6;omega)
 have hw3:IntKind.i64.wrap (a2-1)=a2-1:=IntWalk.i64_in _ (by have h2:=of_decide_eq_true f2;omega)
 subst k5
 have F1:=fr_call f1
 have F2:=fr_call f2
 have N3:=name_call z3 n3
 have F4:=fr_call f4
 have F5:=fr_call f5
 have F6:=fr_call f6
 have F7:=fr_call f7
 have F8:=fr_call f8
 clear z3 f1 f2 n3 f4 f5 f6 f7 f8
 go_enter Tryz.func200,Tryz.ntmps200
 go_wp2_with fail
 refine (F1.out _).mono ?_
 rintro e w' ⟨rfl,hw'⟩
 rw [hw']
 clear hw'
 go_wp2_with fail
 refine (F2.out _).mono ?_
 rintro e w' ⟨rfl,hw'⟩
 rw [hw']
 clear hw'
 go_wp2_with fail
 refine (N3.out _).mono ?_
 rintro e v1 ⟨rfl,hb⟩
 have hr:mRow a1 a2 a3 a4 1 a6 a7 a8 a9 a10 a11 a12 v1 (w.heap.size+1):=(hb.block (w.heap.size+1) (zx HR.out)).trans HR.out
 have HB2:Hid (Below w.heap.size w v1):=HB.out.trans (hb.mono HB.out.size)
 have HR2:=zh hr
 have c0:v1.cell? ⟨w.heap.size+1,0,none⟩=some (.int .i64 a1):=zl hr rfl
 have c1:v1.cell? ⟨w.heap.size+1,1,none⟩=some (.int .i64 a2):=zl hr rfl
 have c2:v1.cell? ⟨w.heap.size+1,2,none⟩=some (.int .i64 a3):=zl hr rfl
 have c3:v1.cell? ⟨w.heap.size+1,3,none⟩=some (.int .i64 a4):=zl hr rfl
 have c4:v1.cell? ⟨w.heap.size+1,4,none⟩=some (.int .i64 1):=zl hr rfl
 have c5:v1.cell? ⟨w.heap.size+1,5,none⟩=some (.string a6):=zl hr rfl
 have c6:v1.cell? ⟨w.heap.size+1,6,none⟩=some (.string a7):=zl hr rfl
 have c7:v1.cell? ⟨w.heap.size+1,7,none⟩=some (.int .u64 (a8:Int)):=zl hr rfl
 have c8:v1.cell? ⟨w.heap.size+1,8,none⟩=some (.int .i64 a9):=zl hr rfl
 have c9:v1.cell? ⟨w.heap.size+1,9,none⟩=some (.int .i64 a10):=zl hr rfl
 have c10:v1.cell? ⟨w.heap.size+1,10,none⟩=some (.int .i64 a11):=zl hr rfl
 have c11:v1.cell? ⟨w.heap.size+1,11,none⟩=some (.int .i64 a12):=zl hr rfl
 clear hb hr HR HB
 have HR:=HR2;have HB:=HB2
 clear HR2 HB2
 go_wp2_with fail
 refine (F4.out _).mono ?_
 rintro e w' ⟨rfl,hw'⟩
 rw [hw']
 clear hw'
 go_wp2_with fail
 refine (F5.out _).mono ?_
 rintro e w' ⟨rfl,hw'⟩
 rw [hw']
 clear hw'
 go_wp2_with fail
 refine (F6.out _).mono ?_
 rintro e w' ⟨rfl,hw'⟩
 rw [hw']
 clear hw'
 go_wp2_with fail
 refine (F7.out _).mono ?_
 rintro e w' ⟨rfl,hw'⟩
 rw [hw']
 clear hw'
 go_wp2_with fail
 refine (F8.out _).mono ?_
 rintro e w' ⟨rfl,hw'⟩
 rw [hw']
 clear hw'
 go_wp2
 go_ret
 exact ⟨rfl,HB.out⟩
theorem may12k (z9:a7.size<=9223372036854775807) (z3:a6.size<=9223372036854775807) (f1:fr a1 0 31=true) (f2:fr a2 1 1048576=true) (n3:nameB a6.data.toList=true) (f4:fr a9 0 2=true) (f5:fr a10 0 1099511627776=true) (f6:fr a11 (a10+1) 1099511627776=true) (k5:a5=1) (f7:fr a3 0 31=true) (f8:fr a4 1 (a2-1)=true) (n9:nameB a7.data.toList=false) (w:World):Calls Tryz.prog 200 #[.agg #[.int .i64 a1,.int .i64 a2,.int .i64 a3,.int .i64 a4,.int .i64 a5,.string a6,.string a7,.int .u64 (a8:Int),.int .i64 a9,.int .i64 a10,.int .i64 a11,.int .i64 a12]] w fun e w' => e = .returned (.bool false)/\Below w.heap.size w w':=by
 obtain ⟨hr,hb⟩:=m_start a1 a2 a3 a4 a5 a6 a7 a8 a9 a10 a11 a12 w
 have HR:=zh hr;have HB:=zh hb
 clear hr hb
 have hw1:IntKind.i64.wrap (a10+1)=a10+1:=IntWalk.i64_in _ (by have:=of_decide_eq_true f5;omega)
 have hw2:IntKind.i64.wrap (a11-a10)=a11-a10:=IntWalk.i64_in _ (by have h5:=of_decide_eq_true f5;have h6:=of_decide_eq_true f6;omega)
 have hw3:IntKind.i64.wrap (a2-1)=a2-1:=IntWalk.i64_in _ (by have h2:=of_decide_eq_true f2;omega)
 subst k5
 have F1:=fr_call f1
 have F2:=fr_call f2
 have N3:=name_call z3 n3
 have F4:=fr_call f4
 have F5:=fr_call f5
 have F6:=fr_call f6
 have F7:=fr_call f7
 have F8:=fr_call f8
 have N9:=name_call z9 n9
 clear z9 z3 f1 f2 n3 f4 f5 f6 f7 f8 n9
 go_enter Tryz.func200,Tryz.ntmps200
 go_wp2_with fail
 refine (F1.out _).mono ?_
 rintro e w' ⟨rfl,hw'⟩
 rw [hw']
 clear hw'
 go_wp2_with fail
 refine (F2.out _).mono ?_
 rintro e w' ⟨rfl,hw'⟩
 rw [hw']
 clear hw'
 go_wp2_with fail
 refine (N3.out _).mono ?_
 rintro e v1 ⟨rfl,hb⟩
 have hr:mRow a1 a2 a3 a4 1 a6 a7 a8 a9 a10 a11 a12 v1 (w.heap.size+1):=(hb.block (w.heap.size+1) (zx HR.out)).trans HR.out
 have HB2:Hid (Below w.heap.size w v1):=HB.out.trans (hb.mono HB.out.size)
 have HR2:=zh hr
 have c0:v1.cell? ⟨w.heap.size+1,0,none⟩=some (.int .i64 a1):=zl hr rfl
 have c1:v1.cell? ⟨w.heap.size+1,1,none⟩=some (.int .i64 a2):=zl hr rfl
 have c2:v1.cell? ⟨w.heap.size+1,2,none⟩=some (.int .i64 a3):=zl hr rfl
 have c3:v1.cell? ⟨w.heap.size+1,3,none⟩=some (.int .i64 a4):=zl hr rfl
 have c4:v1.cell? ⟨w.heap.size+1,4,none⟩=some (.int .i64 1):=zl hr rfl
 have c5:v1.cell? ⟨w.heap.size+1,5,none⟩=some (.string a6):=zl hr rfl
 have c6:v1.cell? ⟨w.heap.size+1,6,none⟩=some (.string a7):=zl hr rfl
 have c7:v1.cell? ⟨w.heap.size+1,7,none⟩=some (.int .u64 (a8:Int)):=zl hr rfl
 have c8:v1.cell? ⟨w.heap.size+1,8,none⟩=some (.int .i64 a9):=zl hr rfl
 have c9:v1.cell? ⟨w.heap.size+1,9,none⟩=some (.int .i64 a10):=zl hr rfl
 have c10:v1.cell? ⟨w.heap.size+1,10,none⟩=some (.int .i64 a11):=zl hr rfl
 have c11:v1.cell? ⟨w.heap.size+1,11,none⟩=some (.int .i64 a12):=zl hr rfl
 clear hb hr HR HB
 have HR:=HR2;have HB:=HB2
 clear HR2 HB2
 go_wp2_with fail
 refine (F4.out _).mono ?_
 rintro e w' ⟨rfl,hw'⟩
 rw [hw']
 clear hw'
 go_wp2_with fail
 refine (F5.out _).mono ?_
 rintro e w' ⟨rfl,hw'⟩
 rw [hw']
 clear hw'
 go_wp2_with fail
 refine (F6.out _).mono ?_
 rintro e w' ⟨rfl,hw'⟩
 rw [hw']
 clear hw'
 go_wp2_with fail
 refine (F7.out _).mono ?_
 rintro e w' ⟨rfl,hw'⟩
 rw [hw']
 clear hw'
 go_wp2_with fail
 refine (F8.out _).mono ?_
 rintro e w' ⟨rfl,hw'⟩
 rw [hw']
 clear hw'
 go_wp2_with fail
 refine (N9.out _).mono ?_
 rintro e v2 ⟨rfl,hb⟩
 have hr:mRow a1 a2 a3 a4 1 a6 a7 a8 a9 a10 a11 a12 v2 (w.heap.size+1):=(hb.block (w.heap.size+1) (zx HR.out)).trans HR.out
 have HB2:Hid (Below w.heap.size w v2):=HB.out.trans (hb.mono HB.out.size)
 have HR2:=zh hr
 have c0:v2.cell? ⟨w.heap.size+1,0,none⟩=some (.int .i64 a1):=zl hr rfl
 have c1:v2.cell? ⟨w.heap.size+1,1,none⟩=some (.int .i64 a2):=zl hr rfl
 have c2:v2.cell? ⟨w.heap.size+1,2,none⟩=some (.int .i64 a3):=zl hr rfl
 have c3:v2.cell? ⟨w.heap.size+1,3,none⟩=some (.int .i64 a4):=zl hr rfl
 have c4:v2.cell? ⟨w.heap.size+1,4,none⟩=some (.int .i64 1):=zl hr rfl
 have c5:v2.cell? ⟨w.heap.size+1,5,none⟩=some (.string a6):=zl hr rfl
 have c6:v2.cell? ⟨w.heap.size+1,6,none⟩=some (.string a7):=zl hr rfl
 have c7:v2.cell? ⟨w.heap.size+1,7,none⟩=some (.int .u64 (a8:Int)):=zl hr rfl
 have c8:v2.cell? ⟨w.heap.size+1,8,none⟩=some (.int .i64 a9):=zl hr rfl
 have c9:v2.cell? ⟨w.heap.size+1,9,none⟩=some (.int .i64 a10):=zl hr rfl
 have c10:v2.cell? ⟨w.heap.size+1,10,none⟩=some (.int .i64 a11):=zl hr rfl
 have c11:v2.cell? ⟨w.heap.size+1,11,none⟩=some (.int .i64 a12):=zl hr rfl
 clear hb hr HR HB
 have HR:=HR2;have HB:=HB2
 clear HR2 HB2
 go_wp2
 go_ret
 exact ⟨rfl,HB.out⟩
theorem may13k (z9:a7.size<=9223372036854775807) (z3:a6.size<=9223372036854775807) (f1:fr a1 0 31=true) (f2:fr a2 1 1048576=true) (n3:nameB a6.data.toList=true) (f4:fr a9 0 2=true) (f5:fr a10 0 1099511627776=true) (f6:fr a11 (a10+1) 1099511627776=true) (k5:a5=1) (f7:fr a3 0 31=true) (f8:fr a4 1 (a2-1)=true) (n9:nameB a7.data.toList=true) (f10:fr a12 1 6=b10) (w:World):Calls Tryz.prog 200 #[.agg #[.int .i64 a1,.int .i64 a2,.int .i64 a3,.int .i64 a4,.int .i64 a5,.string a6,.string a7,.int .u64 (a8:Int),.int .i64 a9,.int .i64 a10,.int .i64 a11,.int .i64 a12]] w fun e w' => e = .returned (.bool b10)/\Below w.heap.size w w':=by
 obtain ⟨hr,hb⟩:=m_start a1 a2 a3 a4 a5 a6 a7 a8 a9 a10 a11 a12 w
 have HR:=zh hr;have HB:=zh hb
 clear hr hb
 have hw1:IntKind.i64.wrap (a10+1)=a10+1:=IntWalk.i64_in _ (by have:=of_decide_eq_true f5;omega)
 have hw2:IntKind.i64.wrap (a11-a10)=a11-a10:=IntWalk.i64_in _ (by have h5:=of_decide_eq_true f5;have h6:=of_decide_eq_true f6;omega)
 have hw3:IntKind.i64.wrap (a2-1)=a2-1:=IntWalk.i64_in _ (by have h2:=of_decide_eq_true f2;omega)
 subst k5
 have F1:=fr_call f1
 have F2:=fr_call f2
 have N3:=name_call z3 n3
 have F4:=fr_call f4
 have F5:=fr_call f5
 have F6:=fr_call f6
 have F7:=fr_call f7
 have F8:=fr_call f8
 have N9:=name_call z9 n9
 have F10:=fr_call f10
 clear z9 z3 f1 f2 n3 f4 f5 f6 f7 f8 n9 f10
 go_enter Tryz.func200,Tryz.ntmps200
 go_wp2_with fail
 refine (F1.out _).mono ?_
 rintro e w' ⟨rfl,hw'⟩
 rw [hw']
 clear hw'
 go_wp2_with fail
 refine (F2.out _).mono ?_
 rintro e w' ⟨rfl,hw'⟩
 rw [hw']
 clear hw'
 go_wp2_with fail
 refine (N3.out _).mono ?_
 rintro e v1 ⟨rfl,hb⟩
 have hr:mRow a1 a2 a3 a4 1 a6 a7 a8 a9 a10 a11 a12 v1 (w.heap.size+1):=(hb.block (w.heap.size+1) (zx HR.out)).trans HR.out
 have HB2:Hid (Below w.heap.size w v1):=HB.out.trans (hb.mono HB.out.size)
 have HR2:=zh hr
 have c0:v1.cell? ⟨w.heap.size+1,0,none⟩=some (.int .i64 a1):=zl hr rfl
 have c1:v1.cell? ⟨w.heap.size+1,1,none⟩=some (.int .i64 a2):=zl hr rfl
 have c2:v1.cell? ⟨w.heap.size+1,2,none⟩=some (.int .i64 a3):=zl hr rfl
 have c3:v1.cell? ⟨w.heap.size+1,3,none⟩=some (.int .i64 a4):=zl hr rfl
 have c4:v1.cell? ⟨w.heap.size+1,4,none⟩=some (.int .i64 1):=zl hr rfl
 have c5:v1.cell? ⟨w.heap.size+1,5,none⟩=some (.string a6):=zl hr rfl
 have c6:v1.cell? ⟨w.heap.size+1,6,none⟩=some (.string a7):=zl hr rfl
 have c7:v1.cell? ⟨w.heap.size+1,7,none⟩=some (.int .u64 (a8:Int)):=zl hr rfl
 have c8:v1.cell? ⟨w.heap.size+1,8,none⟩=some (.int .i64 a9):=zl hr rfl
 have c9:v1.cell? ⟨w.heap.size+1,9,none⟩=some (.int .i64 a10):=zl hr rfl
 have c10:v1.cell? ⟨w.heap.size+1,10,none⟩=some (.int .i64 a11):=zl hr rfl
 have c11:v1.cell? ⟨w.heap.size+1,11,none⟩=some (.int .i64 a12):=zl hr rfl
 clear hb hr HR HB
 have HR:=HR2;have HB:=HB2
 clear HR2 HB2
 go_wp2_with fail
 refine (F4.out _).mono ?_
 rintro e w' ⟨rfl,hw'⟩
 rw [hw']
 clear hw'
 go_wp2_with fail
 refine (F5.out _).mono ?_
 rintro e w' ⟨rfl,hw'⟩
 rw [hw']
 clear hw'
 go_wp2_with fail
 refine (F6.out _).mono ?_
 rintro e w' ⟨rfl,hw'⟩
 rw [hw']
 clear hw'
 go_wp2_with fail
 refine (F7.out _).mono ?_
 rintro e w' ⟨rfl,hw'⟩
 rw [hw']
 clear hw'
 go_wp2_with fail
 refine (F8.out _).mono ?_
 rintro e w' ⟨rfl,hw'⟩
 rw [hw']
 clear hw'
 go_wp2_with fail
 refine (N9.out _).mono ?_
 rintro e v2 ⟨rfl,hb⟩
 have hr:mRow a1 a2 a3 a4 1 a6 a7 a8 a9 a10 a11 a12 v2 (w.heap.size+1):=(hb.block (w.heap.size+1) (zx HR.out)).trans HR.out
 have HB2:Hid (Below w.heap.size w v2):=HB.out.trans (hb.mono HB.out.size)
 have HR2:=zh hr
 have c0:v2.cell? ⟨w.heap.size+1,0,none⟩=some (.int .i64 a1):=zl hr rfl
 have c1:v2.cell? ⟨w.heap.size+1,1,none⟩=some (.int .i64 a2):=zl hr rfl
 have c2:v2.cell? ⟨w.heap.size+1,2,none⟩=some (.int .i64 a3):=zl hr rfl
 have c3:v2.cell? ⟨w.heap.size+1,3,none⟩=some (.int .i64 a4):=zl hr rfl
 have c4:v2.cell? ⟨w.heap.size+1,4,none⟩=some (.int .i64 1):=zl hr rfl
 have c5:v2.cell? ⟨w.heap.size+1,5,none⟩=some (.string a6):=zl hr rfl
 have c6:v2.cell? ⟨w.heap.size+1,6,none⟩=some (.string a7):=zl hr rfl
 have c7:v2.cell? ⟨w.heap.size+1,7,none⟩=some (.int .u64 (a8:Int)):=zl hr rfl
 have c8:v2.cell? ⟨w.heap.size+1,8,none⟩=some (.int .i64 a9):=zl hr rfl
 have c9:v2.cell? ⟨w.heap.size+1,9,none⟩=some (.int .i64 a10):=zl hr rfl
 have c10:v2.cell? ⟨w.heap.size+1,10,none⟩=some (.int .i64 a11):=zl hr rfl
 have c11:v2.cell? ⟨w.heap.size+1,11,none⟩=some (.int .i64 a12):=zl hr rfl
 clear hb hr HR HB
 have HR:=HR2;have HB:=HB2
 clear HR2 HB2
 go_wp2_with fail
 refine (F10.out _).mono ?_
 rintro e w' ⟨rfl,hw'⟩
 rw [hw']
 clear hw'
 go_wp2
 go_ret
 exact ⟨by first | rfl | simp,HB.out⟩
theorem may10r (z3:a6.size<=9223372036854775807) (f1:fr a1 0 31=true) (f2:fr a2 1 1048576=true) (n3:nameB a6.data.toList=true) (f4:fr a9 0 2=true) (f5:fr a10 0 1099511627776=true) (f6:fr a11 (a10+1) 1099511627776=true) (k5:a5=2) (k9:a11-a10<=300) (f7:fr a3 0 31=false) (w:World):Calls Tryz.prog 200 #[.agg #[.int .i64 a1,.int .i64 a2,.int .i64 a3,.int .i64 a4,.int .i64 a5,.string a6,.string a7,.int .u64 (a8:Int),.int .i64 a9,.int .i64 a10,.int .i64 a11,.int .i64 a12]] w fun e w' => e = .returned (.bool false)/\Below w.heap.size w w':=by
 obtain ⟨hr,hb⟩:=m_start a1 a2 a3 a4 a5 a6 a7 a8 a9 a10 a11 a12 w
 have HR:=zh hr;have HB:=zh hb
 clear hr hb
 have hw1:IntKind.i64.wrap (a10+1)=a10+1:=IntWalk.i64_in _ (by have:=of_decide_eq_true f5;omega)
 have hw2:IntKind.i64.wrap (a11-a10)=a11-a10:=IntWalk.i64_in _ (by have h5:=of_decide_eq_true f5;have h6:=of_decide_eq_true f6;omega)
 have hw3:IntKind.i64.wrap (a2-1)=a2-1:=IntWalk.i64_in _ (by have h2:=of_decide_eq_true f2;omega)
 subst k5
 have F1:=fr_call f1
 have F2:=fr_call f2
 have N3:=name_call z3 n3
 have F4:=fr_call f4
 have F5:=fr_call f5
 have F6:=fr_call f6
 have F7:=fr_call f7
 clear z3 f1 f2 n3 f4 f5 f6 f7
 go_enter Tryz.func200,Tryz.ntmps200
 go_wp2_with fail
 refine (F1.out _).mono ?_
 rintro e w' ⟨rfl,hw'⟩
 rw [hw']
 clear hw'
 go_wp2_with fail
 refine (F2.out _).mono ?_
 rintro e w' ⟨rfl,hw'⟩
 rw [hw']
 clear hw'
 go_wp2_with fail
 refine (N3.out _).mono ?_
 rintro e v1 ⟨rfl,hb⟩
 have hr:mRow a1 a2 a3 a4 2 a6 a7 a8 a9 a10 a11 a12 v1 (w.heap.size+1):=(hb.block (w.heap.size+1) (zx HR.out)).trans HR.out
 have HB2:Hid (Below w.heap.size w v1):=HB.out.trans (hb.mono HB.out.size)
 have HR2:=zh hr
 have c0:v1.cell? ⟨w.heap.size+1,0,none⟩=some (.int .i64 a1):=zl hr rfl
 have c1:v1.cell? ⟨w.heap.size+1,1,none⟩=some (.int .i64 a2):=zl hr rfl
 have c2:v1.cell? ⟨w.heap.size+1,2,none⟩=some (.int .i64 a3):=zl hr rfl
 have c3:v1.cell? ⟨w.heap.size+1,3,none⟩=some (.int .i64 a4):=zl hr rfl
 have c4:v1.cell? ⟨w.heap.size+1,4,none⟩=some (.int .i64 2):=zl hr rfl
 have c5:v1.cell? ⟨w.heap.size+1,5,none⟩=some (.string a6):=zl hr rfl
 have c6:v1.cell? ⟨w.heap.size+1,6,none⟩=some (.string a7):=zl hr rfl
 have c7:v1.cell? ⟨w.heap.size+1,7,none⟩=some (.int .u64 (a8:Int)):=zl hr rfl
 have c8:v1.cell? ⟨w.heap.size+1,8,none⟩=some (.int .i64 a9):=zl hr rfl
 have c9:v1.cell? ⟨w.heap.size+1,9,none⟩=some (.int .i64 a10):=zl hr rfl
 have c10:v1.cell? ⟨w.heap.size+1,10,none⟩=some (.int .i64 a11):=zl hr rfl
 have c11:v1.cell? ⟨w.heap.size+1,11,none⟩=some (.int .i64 a12):=zl hr rfl
 clear hb hr HR HB
 have HR:=HR2;have HB:=HB2
 clear HR2 HB2
 go_wp2_with fail
 refine (F4.out _).mono ?_
 rintro e w' ⟨rfl,hw'⟩
 rw [hw']
 clear hw'
 go_wp2_with fail
 refine (F5.out _).mono ?_
 rintro e w' ⟨rfl,hw'⟩
 rw [hw']
 clear hw'
 go_wp2_with fail
 refine (F6.out _).mono ?_
 rintro e w' ⟨rfl,hw'⟩
 rw [hw']
 clear hw'
 go_wp2_with fail
 refine (F7.out _).mono ?_
 rintro e w' ⟨rfl,hw'⟩
 rw [hw']
 clear hw'
 go_wp2
 go_ret
 exact ⟨rfl,HB.out⟩
theorem may11r (z3:a6.size<=9223372036854775807) (f1:fr a1 0 31=true) (f2:fr a2 1 1048576=true) (n3:nameB a6.data.toList=true) (f4:fr a9 0 2=true) (f5:fr a10 0 1099511627776=true) (f6:fr a11 (a10+1) 1099511627776=true) (k5:a5=2) (k9:a11-a10<=300) (f7:fr a3 0 31=true) (f8:fr a4 1 (a2-1)=false) (w:World):Calls Tryz.prog 200 #[.agg #[.int .i64 a1,.int .i64 a2,.int .i64 a3,.int .i64 a4,.int .i64 a5,.string a6,.string a7,.int .u64 (a8:Int),.int .i64 a9,.int .i64 a10,.int .i64 a11,.int .i64 a12]] w fun e w' => e = .returned (.bool false)/\Below w.heap.size w w':=by
 obtain ⟨hr,hb⟩:=m_start a1 a2 a3 a4 a5 a6 a7 a8 a9 a10 a11 a12 w
 have HR:=zh hr;have HB:=zh hb
 clear hr hb
 have hw1:IntKind.i64.wrap (a10+1)=a10+1:=IntWalk.i64_in _ (by have:=of_decide_eq_true f5;omega)
 have hw2:IntKind.i64.wrap (a11-a10)=a11-a10:=IntWalk.i64_in _ (by have h5:=of_decide_eq_true f5;have h6:=of_decide_eq_true f6;omega)
 have hw3:IntKind.i64.wrap (a2-1)=a2-1:=IntWalk.i64_in _ (by have h2:=of_decide_eq_true f2;omega)
 subst k5
 have F1:=fr_call f1
 have F2:=fr_call f2
 have N3:=name_call z3 n3
 have F4:=fr_call f4
 have F5:=fr_call f5
 have F6:=fr_call f6
 have F7:=fr_call f7
 have F8:=fr_call f8
 clear z3 f1 f2 n3 f4 f5 f6 f7 f8
 go_enter Tryz.func200,Tryz.ntmps200
 go_wp2_with fail
 refine (F1.out _).mono ?_
 rintro e w' ⟨rfl,hw'⟩
 rw [hw']
 clear hw'
 go_wp2_with fail
 refine (F2.out _).mono ?_
 rintro e w' ⟨rfl,hw'⟩
 rw [hw']
 clear hw'
 go_wp2_with fail
 refine (N3.out _).mono ?_
 rintro e v1 ⟨rfl,hb⟩
 have hr:mRow a1 a2 a3 a4 2 a6 a7 a8 a9 a10 a11 a12 v1 (w.heap.size+1):=(hb.block (w.heap.size+1) (zx HR.out)).trans HR.out
 have HB2:Hid (Below w.heap.size w v1):=HB.out.trans (hb.mono HB.out.size)
 have HR2:=zh hr
 have c0:v1.cell? ⟨w.heap.size+1,0,none⟩=some (.int .i64 a1):=zl hr rfl
 have c1:v1.cell? ⟨w.heap.size+1,1,none⟩=some (.int .i64 a2):=zl hr rfl
 have c2:v1.cell? ⟨w.heap.size+1,2,none⟩=some (.int .i64 a3):=zl hr rfl
 have c3:v1.cell? ⟨w.heap.size+1,3,none⟩=some (.int .i64 a4):=zl hr rfl
 have c4:v1.cell? ⟨w.heap.size+1,4,none⟩=some (.int .i64 2):=zl hr rfl
 have c5:v1.cell? ⟨w.heap.size+1,5,none⟩=some (.string a6):=zl hr rfl
 have c6:v1.cell? ⟨w.heap.size+1,6,none⟩=some (.string a7):=zl hr rfl
 have c7:v1.cell? ⟨w.heap.size+1,7,none⟩=some (.int .u64 (a8:Int)):=zl hr rfl
 have c8:v1.cell? ⟨w.heap.size+1,8,none⟩=some (.int .i64 a9):=zl hr rfl
 have c9:v1.cell? ⟨w.heap.size+1,9,none⟩=some (.int .i64 a10):=zl hr rfl
 have c10:v1.cell? ⟨w.heap.size+1,10,none⟩=some (.int .i64 a11):=zl hr rfl
 have c11:v1.cell? ⟨w.heap.size+1,11,none⟩=some (.int .i64 a12):=zl hr rfl
 clear hb hr HR HB
 have HR:=HR2;have HB:=HB2
 clear HR2 HB2
 go_wp2_with fail
 refine (F4.out _).mono ?_
 rintro e w' ⟨rfl,hw'⟩
 rw [hw']
 clear hw'
 go_wp2_with fail
 refine (F5.out _).mono ?_
 rintro e w' ⟨rfl,hw'⟩
 rw [hw']
 clear hw'
 go_wp2_with fail
 refine (F6.out _).mono ?_
 rintro e w' ⟨rfl,hw'⟩
 rw [hw']
 clear hw'
 go_wp2_with fail
 refine (F7.out _).mono ?_
 rintro e w' ⟨rfl,hw'⟩
 rw [hw']
 clear hw'
 go_wp2_with fail
 refine (F8.out _).mono ?_
 rintro e w' ⟨rfl,hw'⟩
 rw [hw']
 clear hw'
 go_wp2
 go_ret
 exact ⟨rfl,HB.out⟩
theorem may12r (z9:a7.size<=9223372036854775807) (z3:a6.size<=9223372036854775807) (f1:fr a1 0 31=true) (f2:fr a2 1 1048576=true) (n3:nameB a6.data.toList=true) (f4:fr a9 0 2=true) (f5:fr a10 0 1099511627776=true) (f6:fr a11 (a10+1) 1099511627776=true) (k5:a5=2) (k9:a11-a10<=300) (f7:fr a3 0 31=true) (f8:fr a4 1 (a2-1)=true) (n9:nameB a7.data.toList=false) (w:World):Calls Tryz.prog 200 #[.agg #[.int .i64 a1,.int .i64 a2,.int .i64 a3,.int .i64 a4,.int .i64 a5,.string a6,.string a7,.int .u64 (a8:Int),.int .i64 a9,.int .i64 a10,.int .i64 a11,.int .i64 a12]] w fun e w' => e = .returned (.bool false)/\Below w.heap.size w w':=by
 obtain ⟨hr,hb⟩:=m_start a1 a2 a3 a4 a5 a6 a7 a8 a9 a10 a11 a12 w
 have HR:=zh hr;have HB:=zh hb
 clear hr hb
 have hw1:IntKind.i64.wrap (a10+1)=a10+1:=IntWalk.i64_in _ (by have:=of_decide_eq_true f5;omega)
 have hw2:IntKind.i64.wrap (a11-a10)=a11-a10:=IntWalk.i64_in _ (by have h5:=of_decide_eq_true f5;have h6:=of_decide_eq_true f6;omega)
 have hw3:IntKind.i64.wrap (a2-1)=a2-1:=IntWalk.i64_in _ (by have h2:=of_decide_eq_true f2;omega)
 subst k5
 have F1:=fr_call f1
 have F2:=fr_call f2
 have N3:=name_call z3 n3
 have F4:=fr_call f4
 have F5:=fr_call f5
 have F6:=fr_call f6
 have F7:=fr_call f7
 have F8:=fr_call f8
 have N9:=name_call z9 n9
 clear z9 z3 f1 f2 n3 f4 f5 f6 f7 f8 n9
 go_enter Tryz.func200,Tryz.ntmps200
 go_wp2_with fail
 refine (F1.out _).mono ?_
 rintro e w' ⟨rfl,hw'⟩
 rw [hw']
 clear hw'
 go_wp2_with fail
 refine (F2.out _).mono ?_
 rintro e w' ⟨rfl,hw'⟩
 rw [hw']
 clear hw'
 go_wp2_with fail
 refine (N3.out _).mono ?_
 rintro e v1 ⟨rfl,hb⟩
 have hr:mRow a1 a2 a3 a4 2 a6 a7 a8 a9 a10 a11 a12 v1 (w.heap.size+1):=(hb.block (w.heap.size+1) (zx HR.out)).trans HR.out
 have HB2:Hid (Below w.heap.size w v1):=HB.out.trans (hb.mono HB.out.size)
 have HR2:=zh hr
 have c0:v1.cell? ⟨w.heap.size+1,0,none⟩=some (.int .i64 a1):=zl hr rfl
 have c1:v1.cell? ⟨w.heap.size+1,1,none⟩=some (.int .i64 a2):=zl hr rfl
 have c2:v1.cell? ⟨w.heap.size+1,2,none⟩=some (.int .i64 a3):=zl hr rfl
 have c3:v1.cell? ⟨w.heap.size+1,3,none⟩=some (.int .i64 a4):=zl hr rfl
 have c4:v1.cell? ⟨w.heap.size+1,4,none⟩=some (.int .i64 2):=zl hr rfl
 have c5:v1.cell? ⟨w.heap.size+1,5,none⟩=some (.string a6):=zl hr rfl
 have c6:v1.cell? ⟨w.heap.size+1,6,none⟩=some (.string a7):=zl hr rfl
 have c7:v1.cell? ⟨w.heap.size+1,7,none⟩=some (.int .u64 (a8:Int)):=zl hr rfl
 have c8:v1.cell? ⟨w.heap.size+1,8,none⟩=some (.int .i64 a9):=zl hr rfl
 have c9:v1.cell? ⟨w.heap.size+1,9,none⟩=some (.int .i64 a10):=zl hr rfl
 have c10:v1.cell? ⟨w.heap.size+1,10,none⟩=some (.int .i64 a11):=zl hr rfl
 have c11:v1.cell? ⟨w.heap.size+1,11,none⟩=some (.int .i64 a12):=zl hr rfl
 clear hb hr HR HB
 have HR:=HR2;have HB:=HB2
 clear HR2 HB2
 go_wp2_with fail
 refine (F4.out _).mono ?_
 rintro e w' ⟨rfl,hw'⟩
 rw [hw']
 clear hw'
 go_wp2_with fail
 refine (F5.out _).mono ?_
 rintro e w' ⟨rfl,hw'⟩
 rw [hw']
 clear hw'
 go_wp2_with fail
 refine (F6.out _).mono ?_
 rintro e w' ⟨rfl,hw'⟩
 rw [hw']
 clear hw'
 go_wp2_with fail
 refine (F7.out _).mono ?_
 rintro e w' ⟨rfl,hw'⟩
 rw [hw']
 clear hw'
 go_wp2_with fail
 refine (F8.out _).mono ?_
 rintro e w' ⟨rfl,hw'⟩
 rw [hw']
 clear hw'
 go_wp2_with fail
 refine (N9.out _).mono ?_
 rintro e v2 ⟨rfl,hb⟩
 have hr:mRow a1 a2 a3 a4 2 a6 a7 a8 a9 a10 a11 a12 v2 (w.heap.size+1):=(hb.block (w.heap.size+1) (zx HR.out)).trans HR.out
 have HB2:Hid (Below w.heap.size w v2):=HB.out.trans (hb.mono HB.out.size)
 have HR2:=zh hr
 have c0:v2.cell? ⟨w.heap.size+1,0,none⟩=some (.int .i64 a1):=zl hr rfl
 have c1:v2.cell? ⟨w.heap.size+1,1,none⟩=some (.int .i64 a2):=zl hr rfl
 have c2:v2.cell? ⟨w.heap.size+1,2,none⟩=some (.int .i64 a3):=zl hr rfl
 have c3:v2.cell? ⟨w.heap.size+1,3,none⟩=some (.int .i64 a4):=zl hr rfl
 have c4:v2.cell? ⟨w.heap.size+1,4,none⟩=some (.int .i64 2):=zl hr rfl
 have c5:v2.cell? ⟨w.heap.size+1,5,none⟩=some (.string a6):=zl hr rfl
 have c6:v2.cell? ⟨w.heap.size+1,6,none⟩=some (.string a7):=zl hr rfl
 have c7:v2.cell? ⟨w.heap.size+1,7,none⟩=some (.int .u64 (a8:Int)):=zl hr rfl
 have c8:v2.cell? ⟨w.heap.size+1,8,none⟩=some (.int .i64 a9):=zl hr rfl
 have c9:v2.cell? ⟨w.heap.size+1,9,none⟩=some (.int .i64 a10):=zl hr rfl
 have c10:v2.cell? ⟨w.heap.size+1,10,none⟩=some (.int .i64 a11):=zl hr rfl
 have c11:v2.cell? ⟨w.heap.size+1,11,none⟩=some (.int .i64 a12):=zl hr rfl
 clear hb hr HR HB
 have HR:=HR2;have HB:=HB2
 clear HR2 HB2
 go_wp2
 go_ret
 exact ⟨rfl,HB.out⟩
theorem may13r (z9:a7.size<=9223372036854775807) (z3:a6.size<=9223372036854775807) (f1:fr a1 0 31=true) (f2:fr a2 1 1048576=true) (n3:nameB a6.data.toList=true) (f4:fr a9 0 2=true) (f5:fr a10 0 1099511627776=true) (f6:fr a11 (a10+1) 1099511627776=true) (k5:a5=2) (k9:a11-a10<=300) (f7:fr a3 0 31=true) (f8:fr a4 1 (a2-1)=true) (n9:nameB a7.data.toList=true) (f10:fr a12 1 6=b10) (w:World):Calls Tryz.prog 200 #[.agg #[.int .i64 a1,.int .i64 a2,.int .i64 a3,.int .i64 a4,.int .i64 a5,.string a6,.string a7,.int .u64 (a8:Int),.int .i64 a9,.int .i64 a10,.int .i64 a11,.int .i64 a12]] w fun e w' => e = .returned (.bool b10)/\Below w.heap.size w w':=by
 obtain ⟨hr,hb⟩:=m_start a1 a2 a3 a4 a5 a6 a7 a8 a9 a10 a11 a12 w
 have HR:=zh hr;have HB:=zh hb
 clear hr hb
 have hw1:IntKind.i64.wrap (a10+1)=a10+1:=IntWalk.i64_in _ (by have:=of_decide_eq_true f5;omega)
 have hw2:IntKind.i64.wrap (a11-a10)=a11-a10:=IntWalk.i64_in _ (by have h5:=of_decide_eq_true f5;have h6:=of_decide_eq_true f6;omega)
 have hw3:IntKind.i64.wrap (a2-1)=a2-1:=IntWalk.i64_in _ (by have h2:=of_decide_eq_true f2;omega)
 subst k5
 have F1:=fr_call f1
 have F2:=fr_call f2
 have N3:=name_call z3 n3
 have F4:=fr_call f4
 have F5:=fr_call f5
 have F6:=fr_call f6
 have F7:=fr_call f7
 have F8:=fr_call f8
 have N9:=name_call z9 n9
 have F10:=fr_call f10
 clear z9 z3 f1 f2 n3 f4 f5 f6 f7 f8 n9 f10
 go_enter Tryz.func200,Tryz.ntmps200
 go_wp2_with fail
 refine (F1.out _).mono ?_
 rintro e w' ⟨rfl,hw'⟩
 rw [hw']
 clear hw'
 go_wp2_with fail
 refine (F2.out _).mono ?_
 rintro e w' ⟨rfl,hw'⟩
 rw [hw']
 clear hw'
 go_wp2_with fail
 refine (N3.out _).mono ?_
 rintro e v1 ⟨rfl,hb⟩
 have hr:mRow a1 a2 a3 a4 2 a6 a7 a8 a9 a10 a11 a12 v1 (w.heap.size+1):=(hb.block (w.heap.size+1) (zx HR.out)).trans HR.out
 have HB2:Hid (Below w.heap.size w v1):=HB.out.trans (hb.mono HB.out.size)
 have HR2:=zh hr
 have c0:v1.cell? ⟨w.heap.size+1,0,none⟩=some (.int .i64 a1):=zl hr rfl
 have c1:v1.cell? ⟨w.heap.size+1,1,none⟩=some (.int .i64 a2):=zl hr rfl
 have c2:v1.cell? ⟨w.heap.size+1,2,none⟩=some (.int .i64 a3):=zl hr rfl
 have c3:v1.cell? ⟨w.heap.size+1,3,none⟩=some (.int .i64 a4):=zl hr rfl
 have c4:v1.cell? ⟨w.heap.size+1,4,none⟩=some (.int .i64 2):=zl hr rfl
 have c5:v1.cell? ⟨w.heap.size+1,5,none⟩=some (.string a6):=zl hr rfl
 have c6:v1.cell? ⟨w.heap.size+1,6,none⟩=some (.string a7):=zl hr rfl
 have c7:v1.cell? ⟨w.heap.size+1,7,none⟩=some (.int .u64 (a8:Int)):=zl hr rfl
 have c8:v1.cell? ⟨w.heap.size+1,8,none⟩=some (.int .i64 a9):=zl hr rfl
 have c9:v1.cell? ⟨w.heap.size+1,9,none⟩=some (.int .i64 a10):=zl hr rfl
 have c10:v1.cell? ⟨w.heap.size+1,10,none⟩=some (.int .i64 a11):=zl hr rfl
 have c11:v1.cell? ⟨w.heap.size+1,11,none⟩=some (.int .i64 a12):=zl hr rfl
 clear hb hr HR HB
 have HR:=HR2;have HB:=HB2
 clear HR2 HB2
 go_wp2_with fail
 refine (F4.out _).mono ?_
 rintro e w' ⟨rfl,hw'⟩
 rw [hw']
 clear hw'
 go_wp2_with fail
 refine (F5.out _).mono ?_
 rintro e w' ⟨rfl,hw'⟩
 rw [hw']
 clear hw'
 go_wp2_with fail
 refine (F6.out _).mono ?_
 rintro e w' ⟨rfl,hw'⟩
 rw [hw']
 clear hw'
 go_wp2_with fail
 refine (F7.out _).mono ?_
 rintro e w' ⟨rfl,hw'⟩
 rw [hw']
 clear hw'
 go_wp2_with fail
 refine (F8.out _).mono ?_
 rintro e w' ⟨rfl,hw'⟩
 rw [hw']
 clear hw'
 go_wp2_with fail
 refine (N9.out _).mono ?_
 rintro e v2 ⟨rfl,hb⟩
 have hr:mRow a1 a2 a3 a4 2 a6 a7 a8 a9 a10 a11 a12 v2 (w.heap.size+1):=(hb.block (w.heap.size+1) (zx HR.out)).trans HR.out
 have HB2:Hid (Below w.heap.size w v2):=HB.out.trans (hb.mono HB.out.size)
 have HR2:=zh hr
 have c0:v2.cell? ⟨w.heap.size+1,0,none⟩=some (.int .i64 a1):=zl hr rfl
 have c1:v2.cell? ⟨w.heap.size+1,1,none⟩=some (.int .i64 a2):=zl hr rfl
 have c2:v2.cell? ⟨w.heap.size+1,2,none⟩=some (.int .i64 a3):=zl hr rfl
 have c3:v2.cell? ⟨w.heap.size+1,3,none⟩=some (.int .i64 a4):=zl hr rfl
 have c4:v2.cell? ⟨w.heap.size+1,4,none⟩=some (.int .i64 2):=zl hr rfl
 have c5:v2.cell? ⟨w.heap.size+1,5,none⟩=some (.string a6):=zl hr rfl
 have c6:v2.cell? ⟨w.heap.size+1,6,none⟩=some (.string a7):=zl hr rfl
 have c7:v2.cell? ⟨w.heap.size+1,7,none⟩=some (.int .u64 (a8:Int)):=zl hr rfl
 have c8:v2.cell? ⟨w.heap.size+1,8,none⟩=some (.int .i64 a9):=zl hr rfl
 have c9:v2.cell? ⟨w.heap.size+1,9,none⟩=some (.int .i64 a10):=zl hr rfl
 have c10:v2.cell? ⟨w.heap.size+1,10,none⟩=some (.int .i64 a11):=zl hr rfl
 have c11:v2.cell? ⟨w.heap.size+1,11,none⟩=some (.int .i64 a12):=zl hr rfl
 clear hb hr HR HB
 have HR:=HR2;have HB:=HB2
 clear HR2 HB2
 go_wp2_with fail
 refine (F10.out _).mono ?_
 rintro e w' ⟨rfl,hw'⟩
 rw [hw']
 clear hw'
 go_wp2
 go_ret
 exact ⟨by first | rfl | simp,HB.out⟩
end
end Ev
end
end Go.Proofs.YtimhglmfckfclaaGreat
