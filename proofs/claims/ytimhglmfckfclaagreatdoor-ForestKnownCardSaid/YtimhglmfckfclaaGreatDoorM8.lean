/- Parts of the proof. -/
import Derived.LaidEql
import Derived.Stop.Asserts
import Derived.RowKitTokens
import Derived.OpenShut
import Derived.Test.YtimhglmfckfclaaGreatDoorM7
import Derived.IntWalk
set_option linter.unusedVariables false
set_option linter.unusedSimpArgs false
set_option maxRecDepth 100000
set_option maxHeartbeats 16000000
namespace Go.Proofs.YtimhglmfckfclaaGreatDoor
section
open Go.RowKit Go.Extern.Stop Go.Stop Go.Extern
section
variable {P:Program} (w:World)
theorem eqIn_iface_int (d:Nat) {ti tn:TypeId} {ms:Array (String × TypeId)} {i:TypeInfo} {k:IntKind} (a b:Int)
  (hi:P.underlying ti=some (.interface ms)) (hn:P.underlying tn=some (.int k)) (hinfo:P.info? tn=some i) (hcomp:i.comparable=true) :
  (Op.equalIn (d+2) ti (.iface tn (.int k a)) (.iface tn (.int k b))).run P w = .ok (a == b) w:=by
 simp [Op.equalIn,run_underlying hi,run_underlying hn,typeInfo,hinfo,hcomp]
theorem eql_iface_int {ti tn:TypeId} {ms:Array (String × TypeId)} {i:TypeInfo} {k:IntKind} (a b:Int)
  (hi:P.underlying ti=some (.interface ms)) (hn:P.underlying tn=some (.int k)) (hinfo:P.info? tn=some i) (hcomp:i.comparable=true) :
  (binOp .eql ti (.iface tn (.int k a)) (.iface tn (.int k b))).run P w = .ok (.bool (a == b)) w:=by
 simp only [binOp]
 simp [Op.equal,Op.maxDepth,eqIn_iface_int w 9998 a b hi hn hinfo hcomp]
end
theorem er_typeOf (v:Value) (w:World):(Extern.ReflectliteType.typeOf #[.iface 101 v]).run Tryz.prog w = .ok (.iface 286 (.agg #[.pointer (some ⟨2,101,none⟩)])) w:=by kernel_rfl
def cmpFn : Array Value → Sem Value := Extern.ReflectliteType.method fun t => do Extern.Rtype.noPackHeld "Comparable" t; pure (.bool (← typeInfo t).comparable)
theorem er_comparable (w:World):(cmpFn #[.agg #[.pointer (some ⟨2,101,none⟩)]]).run Tryz.prog w = .ok (.bool true) w:=by kernel_rfl
theorem er_methodComparable (v : Value) (w : World) : (Go.method 518 286 v "Comparable").run Tryz.prog w = .ok (325, v) w := by kernel_rfl
theorem er_comp:(Tryz.prog.info? 101).map (·.comparable)=some true:=by kernel_rfl
theorem er_noIs (v:Value) (xT:TypeId) (w:World):(Instr.typeAssert (.iface 101 v) xT 332 true).run Tryz.prog w = .ok (.tuple #[.nilIface,.bool false]) w:=run_typeAssert_lacksB Tryz.underlying332 (by kernel_rfl) (by kernel_rfl) v xT w
theorem er_noUnwrap (v:Value) (xT:TypeId) (w:World):(Instr.typeAssert (.iface 101 v) xT 293 true).run Tryz.prog w = .ok (.tuple #[.nilIface,.bool false]) w:=run_typeAssert_lacksB Tryz.underlying293 (by kernel_rfl) (by kernel_rfl) v xT w
theorem er_noUnwraps (v:Value) (xT:TypeId) (w:World):(Instr.typeAssert (.iface 101 v) xT 295 true).run Tryz.prog w = .ok (.tuple #[.nilIface,.bool false]) w:=run_typeAssert_lacksB Tryz.underlying295 (by kernel_rfl) (by kernel_rfl) v xT w
theorem er_noAs (v:Value) (xT:TypeId) (w:World):(Instr.typeAssert (.iface 101 v) xT 290 true).run Tryz.prog w = .ok (.tuple #[.nilIface,.bool false]) w:=run_typeAssert_lacksB Tryz.underlying290 (by kernel_rfl) (by kernel_rfl) v xT w
theorem is_errno (a b:Int) (w:World) :
  Calls Tryz.prog 66 #[.iface 101 (.int .i64 a),.iface 101 (.int .i64 b)] w fun e w' => e = .returned (.bool (a == b))/\w=w':=by
 obtain ⟨i,hi,hcmp⟩:=Option.map_eq_some_iff.1 er_comp
 have h8:=@run_callFunc_extern Tryz.prog 132 _ Extern.ReflectliteType.typeOf Tryz.func132 (by kernel_rfl) (by kernel_rfl) (by kernel_rfl) (by kernel_rfl)
 have h32:=@run_callFunc_extern Tryz.prog 325 _ cmpFn Tryz.func325 (by kernel_rfl) (by kernel_rfl) (by kernel_rfl) (by kernel_rfl)
 have tT:=er_typeOf
 have cT:=er_comparable
 have mR:=er_methodComparable
 have nE:=er_noIs
 have uE:=er_noUnwrap
 have vE:=er_noUnwraps
 have heq:=eql_iface_int (P:=Tryz.prog) w a b Tryz.underlying37 Tryz.underlying101 hi hcmp
 by_cases hab:(a == b)=true
 ·rw [hab] at heq ⊢
  go_enter Tryz.func66,Tryz.ntmps66
  go_wp2
  refine wp_loop_rounds 1 ?_
  rw [rounds_succ]
  go_wp2
  go_ret
  exact ⟨rfl,rfl⟩
 ·simp only [Bool.not_eq_true] at hab
  rw [hab] at heq ⊢
  go_enter Tryz.func66,Tryz.ntmps66
  go_wp2
  refine wp_loop_rounds 1 ?_
  rw [rounds_succ]
  go_wp2
  go_ret
  exact ⟨rfl,rfl⟩
theorem er_valueOfPF (t:Addr) (w:World):(ReflectliteValue.unpack (.iface 112 (.pointer (some t)))).run Tryz.prog w
  = .ok (.agg #[.pointer (some ⟨2,112,none⟩),.pointer (some ⟨w.heap.size,0,none⟩),.int .u64 150]) (w.alloc (.cells #[.pointer (some t)] 112)):=by kernel_rfl
theorem er_typePF (a : Addr) (w : World) : (ReflectliteValue.methodAny (ReflectliteValue.valueError "reflectlite.Value.Type" 0) (fun t _ _ _ => ReflectliteType.toType t) #[.agg #[.pointer (some ⟨2, 112, none⟩), .pointer (some a), .int .u64 150]]).run Tryz.prog w
  = .ok (.iface 286 (.agg #[.pointer (some ⟨2,112,none⟩)])) w:=by kernel_rfl
theorem er_methodKind (h : Value) (w : World) : (Go.method 518 286 (.agg #[h]) "Kind").run Tryz.prog w = .ok (309, h) w := by kernel_rfl
theorem er_kindPF (w:World):((ReflectliteType.abiMethod fun t => (fun a:Nat => Value.int IntKind.u8 (a:Int)) <$> Rtype.kind t) #[.pointer (some ⟨2,112,none⟩)]).run Tryz.prog w = .ok (.int .u8 22) w:=by kernel_rfl
theorem er_kindF (w:World):((ReflectliteType.abiMethod fun t => (fun a:Nat => Value.int IntKind.u8 (a:Int)) <$> Rtype.kind t) #[.pointer (some ⟨2,110,none⟩)]).run Tryz.prog w = .ok (.int .u8 25) w:=by kernel_rfl
theorem er_rlm (z:Sem Value) (f:TypeId->Addr->Nat->Nat->Sem Value) (v:Value) :
  ReflectliteValue.method z f #[v]=(do match <- ReflectliteValue.parts v with | none => z | some (t,a,fl) => f t a fl (fl % 32)):=rfl
theorem er_partsPF (a:Addr) (w:World):(ReflectliteValue.parts (.agg #[.pointer (some ⟨2,112,none⟩),.pointer (some a),.int .u64 150])).run Tryz.prog w = .ok (some (112,a,150)) w:=by kernel_rfl
theorem er_isNilPF (a p:Addr) (W:World) (ha:W.cell? a=some (.pointer (some p))) :
  (ReflectliteValue.method (ReflectliteValue.valueError "reflectlite.Value.IsNil" 0) ReflectliteValue.isNil #[.agg #[.pointer (some ⟨2, 112, none⟩), .pointer (some a), .int .u64 150]]).run Tryz.prog W = .ok (.bool false) W := by
 rw [er_rlm]
 simp only [Sem.run_bind,er_partsPF,Result.andThen]
 simp [ReflectliteValue.isNil,loadVar,isAgg,underlying,Tryz.underlying112,ha,Result.andThen]
theorem er_methodElem (h : Value) (w : World) : (Go.method 518 286 (.agg #[h]) "Elem").run Tryz.prog w = .ok (326, .agg #[h]) w := by kernel_rfl
theorem er_methodImplements (h : Value) (w : World) : (Go.method 518 286 (.agg #[h]) "Implements").run Tryz.prog w = .ok (327, .agg #[h]) w := by kernel_rfl
theorem er_methodAssignableTo (h : Value) (w : World) : (Go.method 518 286 (.agg #[h]) "AssignableTo").run Tryz.prog w = .ok (324, .agg #[h]) w := by kernel_rfl
theorem er_elemPF (w:World):(ReflectliteType.method ReflectliteType.elem #[.agg #[.pointer (some ⟨2,112,none⟩)]]).run Tryz.prog w = .ok (.iface 286 (.agg #[.pointer (some ⟨2,110,none⟩)])) w:=by kernel_rfl
theorem er_implementsF (w : World) : (ReflectliteType.relation "Implements" ReflectliteType.implements_ #[.agg #[.pointer (some ⟨2, 110, none⟩)], .iface 286 (.agg #[.pointer (some ⟨2, 37, none⟩)])]).run Tryz.prog w = .ok (.bool true) w := by kernel_rfl
theorem er_assignE (w : World) : (ReflectliteType.relation "AssignableTo" ReflectliteType.assignableTo #[.agg #[.pointer (some ⟨2, 101, none⟩)], .iface 286 (.agg #[.pointer (some ⟨2, 110, none⟩)])]).run Tryz.prog w = .ok (.bool false) w := by kernel_rfl
def erHandle (w:World):Prop:=w.cell? ⟨0,0,none⟩=some (.iface 286 (.agg #[.pointer (some ⟨2,37,none⟩)]))
theorem erHandle.lt {w:World} (h:erHandle w):0<w.heap.size:=by
 unfold erHandle at h
 rcases Nat.lt_or_ge 0 w.heap.size with h0 | h0
 ·exact h0
 ·simp [World.cell?,Array.getElem?_eq_none h0] at h
theorem erHandle.below {w w':World} (h:erHandle w) {B:Nat} (hB:0<B) (hb:Below B w w'):erHandle w' :=
 (hb.cell (p:=⟨0,0,none⟩) hB).trans h
theorem as_errno (k:Int) (t:Addr) (w:World) (hg:erHandle w) :
  Calls Tryz.prog 42 #[.iface 101 (.int .i64 k),.iface 112 (.pointer (some t))] w fun e w' => e = .returned (.bool false)/\Below w.heap.size w w':=by
 have h6:=@run_callFunc_extern Tryz.prog 110 _ (fun args => ReflectliteValue.unpack (args.getD 0 (.tuple #[]))) Tryz.func110 (by kernel_rfl) (by kernel_rfl) (by kernel_rfl) (by kernel_rfl)
 have h7 := @run_callFunc_extern Tryz.prog 111 _ (ReflectliteValue.methodAny (ReflectliteValue.valueError "reflectlite.Value.Type" 0) (fun t _ _ _ => ReflectliteType.toType t)) Tryz.func111 (by kernel_rfl) (by kernel_rfl) (by kernel_rfl) (by kernel_rfl)
 have h8 := @run_callFunc_extern Tryz.prog 112 _ (ReflectliteValue.method (ReflectliteValue.valueError "reflectlite.Value.IsNil" 0) ReflectliteValue.isNil) Tryz.func112 (by kernel_rfl) (by kernel_rfl) (by kernel_rfl) (by kernel_rfl)
 have h27:=@run_callFunc_extern Tryz.prog 309 _ (ReflectliteType.abiMethod fun t => do pure (.int .u8 (<- Rtype.kind t))) Tryz.func309 (by kernel_rfl) (by kernel_rfl) (by kernel_rfl) (by kernel_rfl)
 have h37:=@run_callFunc_extern Tryz.prog 326 _ (ReflectliteType.method ReflectliteType.elem) Tryz.func326 (by kernel_rfl) (by kernel_rfl) (by kernel_rfl) (by kernel_rfl)
 have h38 := @run_callFunc_extern Tryz.prog 327 _ (ReflectliteType.relation "Implements" ReflectliteType.implements_) Tryz.func327 (by kernel_rfl) (by kernel_rfl) (by kernel_rfl) (by kernel_rfl)
 have h10:=@run_callFunc_extern Tryz.prog 132 _ ReflectliteType.typeOf Tryz.func132 (by kernel_rfl) (by kernel_rfl) (by kernel_rfl) (by kernel_rfl)
 have h35 := @run_callFunc_extern Tryz.prog 324 _ (ReflectliteType.relation "AssignableTo" ReflectliteType.assignableTo) Tryz.func324 (by kernel_rfl) (by kernel_rfl) (by kernel_rfl) (by kernel_rfl)
 have tO:=er_typeOf
 have mA:=er_methodAssignableTo
 have a25:=er_assignE
 have f6:=er_valueOfPF
 have f7:=er_typePF
 have mK:=er_methodKind
 have mE:=er_methodElem
 have mI:=er_methodImplements
 have k27:=er_kindPF
 have k25:=er_kindF
 have e27:=er_elemPF
 have i25:=er_implementsF
 have nA:=er_noAs
 have uE:=er_noUnwrap
 have vE:=er_noUnwraps
 have hlt:=hg.lt
 unfold erHandle at hg
 have n8:=er_isNilPF ⟨w.heap.size,0,none⟩ t ((w.alloc (.cells #[.pointer (some t)] 112)).alloc (.cells #[.pointer (some ⟨2,112,none⟩),.pointer (some ⟨w.heap.size,0,none⟩),.int .u64 150] 193)) (by simp)
 have hg2:((w.alloc (.cells #[.pointer (some t)] 112)).alloc (.cells #[.pointer (some ⟨2,112,none⟩),.pointer (some ⟨w.heap.size,0,none⟩),.int .u64 150] 193)).cell? ⟨0,0,none⟩=some (.iface 286 (.agg #[.pointer (some ⟨2,37,none⟩)])):=by
  rw [World.cell?_alloc_lt _ _ ⟨0,0,none⟩ (by first | (simp;done) | (simp;omega)),World.cell?_alloc_lt _ _ ⟨0,0,none⟩ hlt];exact hg
 go_enter Tryz.func42,Tryz.ntmps42
 go_wp2
 refine wp_loop_rounds 1 ?_
 rw [rounds_succ]
 go_wp2
 go_ret
 exact ⟨rfl,by repeat (first | exact Below.refl _ _ | apply Below.drew | refine Below.alloc ?_ (by first | (simp;done) | (simp;omega)) _)⟩
end
section
open Go.RowKit
theorem num_errno (k:Int) (h1:1<=k) (h2:k<=24) (w:World) :
  Calls Tryz.prog 23 #[.iface 101 (.int .i64 k)] w fun e w' => e = .returned (.int .i64 k)/\w=w':=by
 have hk0:(k == 0)=false:=by rw [beq_eq_false_iff_ne];omega
 go_enter Tryz.func23,Tryz.ntmps23
 go_wp2
 go_loop [3,4] (fun f n => ∃ m:Int,1<=m/\m<=25/\n = .int .i64 m/\((m<=k/\f = .int .i64 0)\/(k<m/\f = .int .i64 k))) (fun _ n => (25-intOf n).toNat)
 case atStart => exact ⟨1,by omega,by omega,rfl,.inl ⟨h1,rfl⟩⟩
 case round =>
  obtain ⟨m,hm1,hm2,rfl,hf⟩:=hrel
  by_cases hm:m<=24
  ·rcases hf with ⟨hle,rfl⟩ | ⟨hlt,rfl⟩
   ·by_cases he:k=m
    ·subst he
     have hq:(k == k)=true:=by simp
     go_wp2_with fail
     refine (is_errno k k _).mono ?_
     rintro e w' ⟨rfl,rfl⟩
     go_wp2
     go_round
     case rel => exact ⟨k+1,by omega,by omega,rfl,.inr ⟨by omega,rfl⟩⟩
     case measure => simp [intOf];omega
    ·have hq:(k == m)=false:=by rw [beq_eq_false_iff_ne];exact he
     go_wp2_with fail
     refine (is_errno k m _).mono ?_
     rintro e w' ⟨rfl,rfl⟩
     go_wp2
     go_round
     case rel => exact ⟨m+1,by omega,by omega,rfl,.inl ⟨by omega,rfl⟩⟩
     case measure => simp [intOf];omega
   ·have hq:(k == m)=false:=by rw [beq_eq_false_iff_ne];omega
    go_wp2_with fail
    refine (is_errno k m _).mono ?_
    rintro e w' ⟨rfl,rfl⟩
    go_wp2
    go_round
    case rel => exact ⟨m+1,by omega,by omega,rfl,.inr ⟨by omega,rfl⟩⟩
    case measure => simp [intOf];omega
  ·rcases hf with ⟨hle,rfl⟩ | ⟨hlt,rfl⟩
   ·omega
   ·go_wp2_with fail
    refine (is_errno k 0 _).mono ?_
    rintro e w' ⟨rfl,rfl⟩
    go_wp2
    go_ret
    exact ⟨rfl,rfl⟩
theorem plain_errno (k n:Int) (h1:1<=k) (h2:k<=24) (w:World) (hg:erHandle w) :
  Calls Tryz.prog 9 #[.iface 101 (.int .i64 k),.int .i64 n] w fun e w' => e = .returned (.bool (k == n))/\Below w.heap.size w w':=by
 have hh:∀ o,erHandle (w.alloc o):=fun o => hg.below hg.lt ((Below.refl _ w).alloc (Nat.le_refl _) o)
 by_cases he:k=n
 ·subst he
  have hq:(k == k)=true:=by simp
  rw [hq]
  go_enter Tryz.func9,Tryz.ntmps9
  go_wp2_with (first | (go_at_call 23;refine (num_errno k h1 h2 _).mono ?_;rintro e w' ⟨rfl,rfl⟩) | (go_at_call 42;refine (as_errno k _ _ (hh _)).mono ?_;rintro e w' ⟨rfl,hb⟩))
  go_ret
  exact ⟨rfl,((Below.refl w.heap.size w).alloc (Nat.le_refl _) _).trans (hb.mono (by simp))⟩
 ·have hq:(k == n)=false:=by rw [beq_eq_false_iff_ne];exact he
  rw [hq]
  go_enter Tryz.func9,Tryz.ntmps9
  go_wp2_with (first | (go_at_call 23;refine (num_errno k h1 h2 _).mono ?_;rintro e w' ⟨rfl,rfl⟩))
  go_ret
  exact ⟨rfl,(Below.refl w.heap.size w).alloc (Nat.le_refl _) _⟩
end
section
open Go.RowKit
def tm (n:Int):Bool:=decide (0<=n/\n<=1099511627776)
theorem tm_yes {n:Int} (h:tm n=true):0<=n/\n<=1099511627776:=of_decide_eq_true h
theorem tm_no {n:Int} (h:tm n=false):n<0\/1099511627776<n:=by have:=of_decide_eq_false h;omega
theorem time_any (n:Int) (w:World):Calls Tryz.prog 134 #[.int .i64 n] w fun e w' => e = .returned (.bool (tm n))/\w=w':=by
 by_cases h:tm n=true
 ·have hb:=tm_yes h
  rw [h]
  obtain ⟨b1,b2⟩:=hb
  clear h
  go_enter Tryz.func134,Tryz.ntmps134
  go_wp2
  go_ret
  exact ⟨rfl,rfl⟩
 ·have h':tm n=false:=by simpa using h
  have hb:=tm_no h'
  rw [h']
  clear h h'
  by_cases h0:0<=n
  ·have h2:¬ n<=1099511627776:=by omega
   clear hb
   go_enter Tryz.func134,Tryz.ntmps134
   go_wp2
   go_ret
   exact ⟨rfl,rfl⟩
  ·clear hb
   go_enter Tryz.func134,Tryz.ntmps134
   go_wp2
   go_ret
   exact ⟨rfl,rfl⟩
def aft (now ticks:Int):Bool:=tm now && decide (0<=ticks/\ticks<=1073741824) && tm (now+ticks)
theorem aft_yes {now ticks:Int} (h:aft now ticks=true):tm now=true/\0<=ticks/\ticks<=1073741824/\tm (now+ticks)=true:=by
 simp only [aft,Bool.and_eq_true,decide_eq_true_eq] at h
 exact ⟨h.1.1,h.1.2.1,h.1.2.2,h.2⟩
theorem after_yes (now ticks:Int) (h:aft now ticks=true) (w:World) :
  Calls Tryz.prog 67 #[.int .i64 now,.int .i64 ticks] w fun e w' => e = .returned (.tuple #[.int .i64 (now+ticks),.nilIface])/\w=w':=by
 obtain ⟨ha,h0,h2,h3⟩:=aft_yes h
 obtain ⟨b1,b2⟩:=tm_yes ha
 clear h
 go_enter Tryz.func67,Tryz.ntmps67
 go_wp2_with (go_at_call 134;refine (time_any _ _).mono ?_;rintro e w' ⟨rfl,rfl⟩)
 go_ret2
 exact ⟨rfl,rfl⟩
theorem after_no (now ticks:Int) (h:aft now ticks=false) (w:World) :
  Calls Tryz.prog 67 #[.int .i64 now,.int .i64 ticks] w fun e w' => e = .returned (.tuple #[.int .i64 0,.iface 101 (.int .i64 12)])/\w=w':=by
 by_cases ha:tm now=true
 ·obtain ⟨b1,b2⟩:=tm_yes ha
  by_cases h0:0<=ticks
  ·by_cases h2:ticks<=1073741824
   ·have h3:tm (now+ticks)=false:=by simpa [aft,ha,h0,h2] using h
    clear h
    go_enter Tryz.func67,Tryz.ntmps67
    go_wp2_with (go_at_call 134;refine (time_any _ _).mono ?_;rintro e w' ⟨rfl,rfl⟩)
    go_ret2
    exact ⟨rfl,rfl⟩
   ·clear h
    go_enter Tryz.func67,Tryz.ntmps67
    go_wp2_with (go_at_call 134;refine (time_any _ _).mono ?_;rintro e w' ⟨rfl,rfl⟩)
    go_ret2
    exact ⟨rfl,rfl⟩
  ·clear h
   go_enter Tryz.func67,Tryz.ntmps67
   go_wp2_with (go_at_call 134;refine (time_any _ _).mono ?_;rintro e w' ⟨rfl,rfl⟩)
   go_ret2
   exact ⟨rfl,rfl⟩
 ·have ha':tm now=false:=by simpa using ha
  clear h ha
  go_enter Tryz.func67,Tryz.ntmps67
  go_wp2_with (go_at_call 134;refine (time_any _ _).mono ?_;rintro e w' ⟨rfl,rfl⟩)
  go_ret2
  exact ⟨rfl,rfl⟩
def unt (now life most:Int):Bool:=tm now && tm most && decide (1<=life/\life<=1073741824) && decide (now<most)
theorem unt_yes {now life most:Int} (h:unt now life most=true):tm now=true/\tm most=true/\1<=life/\life<=1073741824/\now<most:=by
 simp only [unt,Bool.and_eq_true,decide_eq_true_eq] at h
 exact ⟨h.1.1.1,h.1.1.2,h.1.2.1,h.1.2.2,h.2⟩
def untV (now life most:Int):Int:=if most<now+life then most else now+life
theorem until_yes (now life most:Int) (h:unt now life most=true) (w:World) :
  Calls Tryz.prog 260 #[.int .i64 now,.int .i64 life,.int .i64 most] w fun e w' => e = .returned (.tuple #[.int .i64 (untV now life most),.nilIface])/\w=w':=by
 obtain ⟨ha,hb,h0,h2,h3⟩:=unt_yes h
 obtain ⟨b1,b2⟩:=tm_yes ha
 obtain ⟨b3,b4⟩:=tm_yes hb
 clear h
 unfold untV
 by_cases hm:most<now+life
 ·rw [if_pos hm]
  have hmn:min (now+life) most=most:=by omega
  go_enter Tryz.func260,Tryz.ntmps260
  go_wp2_with (go_at_call 134;refine (time_any _ _).mono ?_;rintro e w' ⟨rfl,rfl⟩)
  go_ret2
  exact ⟨rfl,rfl⟩
 ·rw [if_neg hm]
  have hmn:min (now+life) most=now+life:=by omega
  go_enter Tryz.func260,Tryz.ntmps260
  go_wp2_with (go_at_call 134;refine (time_any _ _).mono ?_;rintro e w' ⟨rfl,rfl⟩)
  go_ret2
  exact ⟨rfl,rfl⟩
theorem until_no (now life most:Int) (h:unt now life most=false) (w:World) :
  Calls Tryz.prog 260 #[.int .i64 now,.int .i64 life,.int .i64 most] w fun e w' => e = .returned (.tuple #[.int .i64 0,.iface 101 (.int .i64 12)])/\w=w':=by
 by_cases ha:tm now=true
 ·by_cases hb:tm most=true
  ·by_cases h0:1<=life
   ·by_cases h2:life<=1073741824
    ·have h3:most<=now:=by
      have:¬ now<most:=by simpa [unt,ha,hb,h0,h2] using h
      omega
     clear h
     go_enter Tryz.func260,Tryz.ntmps260
     go_wp2_with (go_at_call 134;refine (time_any _ _).mono ?_;rintro e w' ⟨rfl,rfl⟩)
     go_ret2
     exact ⟨rfl,rfl⟩
    ·clear h
     go_enter Tryz.func260,Tryz.ntmps260
     go_wp2_with (go_at_call 134;refine (time_any _ _).mono ?_;rintro e w' ⟨rfl,rfl⟩)
     go_ret2
     exact ⟨rfl,rfl⟩
   ·clear h
    go_enter Tryz.func260,Tryz.ntmps260
    go_wp2_with (go_at_call 134;refine (time_any _ _).mono ?_;rintro e w' ⟨rfl,rfl⟩)
    go_ret2
    exact ⟨rfl,rfl⟩
  ·have hb':tm most=false:=by simpa using hb
   clear h hb
   go_enter Tryz.func260,Tryz.ntmps260
   go_wp2_with (go_at_call 134;refine (time_any _ _).mono ?_;rintro e w' ⟨rfl,rfl⟩)
   go_ret2
   exact ⟨rfl,rfl⟩
 ·have ha':tm now=false:=by simpa using ha
  clear h ha
  go_enter Tryz.func260,Tryz.ntmps260
  go_wp2_with (go_at_call 134;refine (time_any _ _).mono ?_;rintro e w' ⟨rfl,rfl⟩)
  go_ret2
  exact ⟨rfl,rfl⟩
end
section
namespace Fr
open Vw (Sess)
open Ex (Ent itm wo)
open Hp (ahd)
def within (a b:Nat):Bool:=bits .andNot .u64 (a:Int) (b:Int) == 0
structure Req where
 user:ByteArray
 label:ByteArray
 scopes:Nat
 level:Int
 life:Int
def mayS (s:Sess):Bool :=
 decide (0<=s.slot/\s.slot<=31) && (decide (1<=s.birth/\s.birth<=1048576) && (nameB s.user.data.toList && (decide (0<=s.level/\s.level<=2) && (decide (0<=s.born/\s.born<=1099511627776) && (decide (s.born+1<=s.dl/\s.dl<=1099511627776) &&
 (if s.kind=0 then decide (s.us=0/\s.ub=0) && (s.label.size == 0 && s.depth == 0)
  else decide (s.kind=1\/s.kind=2) && (!decide (s.kind=2/\300<s.dl-s.born) && (decide (0<=s.us/\s.us<=31) && (decide (1<=s.ub/\s.ub<=s.birth-1) && (nameB s.label.data.toList && decide (1<=s.depth/\s.depth<=6)))))))))))
def belowB (s p:Sess):Bool:=s.depth == IntKind.i64.wrap (p.depth+1) && (decide (s.user=p.user) && (decide (s.dl<=p.dl) && (within s.scopes p.scopes && (decide (p.level<s.level) == (s.kind == 2)))))
def loginS (r:Req) (now births:Int) (full:Bool):Sess × Int :=
 if nameB r.user.data.toList=false then (s0,8) else if ¬ (0<=r.level/\r.level<=2) then (s0,13) else if unt now r.life 1099511627776=false then (s0,12)
 else if births<0\/1048576<=births then (s0,18) else if full then (s0,19) else (⟨0,births+1,0,0,0,r.user,ByteArray.empty,r.scopes,r.level,now,untV now r.life 1099511627776,0⟩,0)
def childS (p:Sess) (r:Req) (now births:Int) (full:Bool):Sess × Int :=
 if nameB r.label.data.toList=false then (s0,8) else if unt now r.life p.dl=false then (s0,12) else if p.depth<0\/6<=p.depth then (s0,17) else if within r.scopes p.scopes=false then (s0,11)
 else if births<0\/1048576<=births then (s0,18) else if full then (s0,19) else (⟨0,births+1,p.slot,p.birth,1,p.user,r.label,r.scopes,p.level,now,untV now r.life p.dl,p.depth+1⟩,0)
def canRaise (a b:Int):Bool:=decide (a=0/\b=1) || (decide (a=0/\b=2) || decide (a=1/\b=2))
def raisedS (p:Sess) (r:Req) (now births:Int) (full:Bool):Sess × Int :=
 if nameB r.label.data.toList=false then (s0,8) else if unt now r.life p.dl=false then (s0,12) else if 300<r.life then (s0,12) else if p.depth<0\/6<=p.depth then (s0,17) else if canRaise p.level r.level=false then (s0,13)
 else if births<0\/1048576<=births then (s0,18) else if full then (s0,19) else (⟨0,births+1,p.slot,p.birth,2,p.user,r.label,p.scopes,r.level,now,untV now r.life p.dl,p.depth+1⟩,0)
def holds (S:List Slt) (i b:Int):Bool:=thr i && (decide (1<=b) && ((sl S i).used && (!(sl S i).dead && (sl S i).s.birth == b)))
def livesN (S:List Slt):Nat->Int->Int->Bool
 | 0,_,_ => false
 | n+1,i,b => holds S i b && ((sl S i).s.ub == 0 || livesN S n (sl S i).s.us (sl S i).s.ub)
def lives (S:List Slt) (i b:Int):Bool:=livesN S 7 i b
def goes (S:List Slt) (last:Int):Nat->Int->List Int
 | 0,_ => []
 | n+1,i => if thr i then (if i=last then [i] else i :: goes S last n (sl S i).next) else []
def allL (S:List Slt) (last:Int):List Int:=if thr last then goes S last 32 (sl S last).next else []
def belowN (S:List Slt):Nat->Int->List Int->List Int
 | 0,_,seen => seen
 | n+1,i,seen => if seen.contains i then seen else (allL S (sl S i).kids).foldl (fun sn k => belowN S n k sn) (seen ++ [i])
def underI (S:List Slt) (i:Int):List Int:=if thr i then belowN S 33 i [] else []
structure FS where
 clock:Int
 births:Int
 S:List Slt
 free:List Int
 roots:Int
 garb:Int
 exp:List Ent
def newF:FS:=⟨0,0,List.replicate 32 bare,(List.range 32).map Int.ofNat,-1,-1,[]⟩
def ringOf (st:FS) (us ub:Int):Int:=if ub=0 then st.roots else (sl st.S us).kids
def upOk (S:List Slt) (us ub:Int):Bool:=ub == 0 || (thr us && ((sl S us).used && (sl S us).s.birth == ub))
def turn (st:FS) (us ub last:Int):FS:=if ub=0 then { st with roots:=last } else { st with S:=put st.S us { sl st.S us with kids:=last } }
def cutF (st:FS) (i:Int):Option FS :=
 let us:=(sl st.S i).s.us;let ub:=(sl st.S i).s.ub
 if thr i && ((sl st.S i).used && (upOk st.S us ub && canDrop st.S (ringOf st us ub) i)) then some (turn { st with S:=dropS st.S i } us ub (dropL st.S (ringOf st us ub) i)) else none
def addG (st:FS) (i:Int):Option FS:=if thr i && ((sl st.S i).used && canPush st.S st.garb i) then some { st with S:=pushS st.S st.garb i,garb:=i } else none
def endF (st:FS) (i:Int):Option FS :=
 (cutF st i).bind fun s1 => addG { s1 with S:=put s1.S i { sl s1.S i with dead:=true },exp:=wo s1.exp i } i
def addF (st:FS) (i us ub:Int):Option FS :=
 if thr i && ((sl st.S i).used && (upOk st.S us ub && ((ub == 0 || us != i) && canPush st.S (ringOf st us ub) i))) then
  let S1:=pushS st.S (ringOf st us ub) i
  some (turn { st with S:=put S1 i { sl S1 i with kids:=-1,s:={ (sl S1 i).s with us:=if ub=0 then 0 else us,ub:=ub } } } us ub i)
 else none
def layF (st:FS) (s:Sess):Option (FS × Int) :=
 if st.free.contains s.slot then
  (addF { st with free:=st.free.erase s.slot,S:=put st.S s.slot ⟨true,false,-1,-1,-1,s⟩ } s.slot s.us s.ub).map fun s1 => ({ s1 with exp:=Ex.put (wo s1.exp s.slot) (s.slot,s.birth,s.dl) },0)
 else some (st,9)
def unitF (st:FS):Option (FS × Option Int) :=
 if st.garb = -1 then some (st,none) else
 let f:=(sl st.S st.garb).next
 if thr st.garb && thr f then
  let k:=(sl st.S f).kids
  if k == -1 || canSplice st.S st.garb k then
   let S1:=if k = -1 then st.S else spliceS st.S st.garb k
   let g1:=if k = -1 then st.garb else k
   if canDrop S1 g1 f && !st.free.contains f then some ({ st with S:=put (dropS S1 f) f bare,free:=f :: st.free,garb:=dropL S1 g1 f },some f) else none
  else none
 else none
def mayF (st:FS) (s:Sess):Int:=if s.us=0/\s.ub=0 then 0 else if lives st.S s.us s.ub=false then 16 else if belowB s (sl st.S s.us).s=false then 24 else 0
def bornF (st:FS) (s:Sess):Option (FS × Int) :=
 if mayS s=false\/s.born≠st.clock then some (st,1) else if s.birth≠st.births+1 then some (st,18) else if mayF st s≠0 then some (st,mayF st s) else
 (layF st s).map fun x => if x.2=0 then ({ x.1 with births:=x.1.births+1 },0) else x
def full (st:FS):Bool:=st.free.isEmpty && st.garb == -1
def grantF (st:FS) (kind us ub:Int) (r:Req):Sess × Int :=
 if kind=0 then loginS r st.clock st.births (full st) else if lives st.S us ub=false then (s0,16) else if kind=1 then childS (sl st.S us).s r st.clock st.births (full st) else raisedS (sl st.S us).s r st.clock st.births (full st)
def planF (st:FS) (kind us ub:Int) (r:Req):Option (FS × Sess × Int) :=
 if kind<0\/2<kind then some (st,s0,1) else
 if (grantF st kind us ub r).2≠0 then some (st,s0,(grantF st kind us ub r).2) else
 (if st.free.isEmpty then (unitF st).map Prod.fst else some st).map fun s1 => match s1.free with
  | i :: _ => (s1,{ (grantF st kind us ub r).1 with slot:=i },0)
  | [] => (s1,s0,19)
def sessionF (st:FS) (us ub:Int):Sess × Int:=if lives st.S us ub then ((sl st.S us).s,0) else (s0,16)
def revokeF (st:FS) (us ub:Int):Option (FS × Int):=if lives st.S us ub then (endF st us).map (·,0) else some (st,16)
def dueN:Nat->FS->Option FS
 | 0,st => some st
 | n+1,st => match st.exp with
  | [] => some st
  | e :: _ => if st.clock<e.2.2 then some st else
   (revokeF { st with exp:=wo st.exp e.1 } e.1 e.2.1).bind fun x => dueN n x.1
def tickF (st:FS) (n:Int):Option (FS × Int) :=
 if tm st.clock=false\/n<0\/1073741824<n\/tm (st.clock+n)=false then some (st,12) else (dueN st.exp.length { st with clock:=st.clock+n }).map (·,0)
def unitsN:Nat->FS->Option FS
 | 0,st => some st
 | n+1,st => (unitF st).bind fun x => match x.2 with
  | none => some x.1
  | some _ => unitsN n x.1
def sweepF (st:FS) (n:Int):Option (FS × Int):=if n<0\/65536<n then some (st,20) else (unitsN n.toNat st).map (·,0)
def underF (st:FS) (us ub:Int):List Sess:=if lives st.S us ub then (underI st.S us).map fun i => (sl st.S i).s else []
def insB (x:Sess):List Sess->List Sess
 | [] => [x]
 | y :: r => if x.birth<y.birth then x :: y :: r else y :: insB x r
def sortB (l:List Sess):List Sess:=l.foldl (fun a x => insB x a) []
def stateF (st:FS):List Sess:=sortB ((allL st.S st.roots).flatMap fun i => underF st (sl st.S i).s.slot (sl st.S i).s.birth)
end Fr
end
section
namespace Fr
open Vw (Sess)
open Ex (Ent itm wo)
open Hp (ahd)
inductive Pl where
 | fr
 | rt
 | gb
 | kd (p:Int)
deriving DecidableEq
inductive Lv (pl:Int->Pl):Int->Prop
 | root {i:Int}:pl i = .rt->Lv pl i
 | kid {i p:Int}:pl i = .kd p->Lv pl p->Lv pl i
inductive Sub (pl:Int->Pl) (a:Int):Int->Prop
 | refl:Sub pl a a
 | step {i p:Int}:pl i = .kd p->Sub pl a p->Sub pl a i
def cor (S:List Slt) (i:Int):Bool × Bool × Sess:=((sl S i).used,(sl S i).dead,(sl S i).s)
structure Shape (S:List Slt) (free:List Int) (roots garb:Int) (R G:List Int) (K:Int->List Int) (pl:Int->Pl):Prop where
 len:S.length=32
 fmem:∀ i,i ∈ free↔thr i=true/\pl i = .fr
 fnd:free.Nodup
 rmem:∀ i,i ∈ R↔thr i=true/\pl i = .rt
 rnd:R.Nodup
 gmem:∀ i,i ∈ G↔thr i=true/\pl i = .gb
 gnd:G.Nodup
 kmem:∀ p i,i ∈ K p↔thr i=true/\pl i = .kd p
 knd:∀ p,(K p).Nodup
 kpar:∀ i p,thr i=true->pl i = .kd p->thr p=true/\pl p≠.fr
 rR:RingAt S roots R
 rG:RingAt S garb G
 rK:∀ p,thr p=true->pl p≠.fr->RingAt S (sl S p).kids (K p)
 bareF:∀ i,thr i=true->pl i = .fr->sl S i=bare
structure Core (C:Int->Bool × Bool × Sess) (pl:Int->Pl) (births:Int) (exp:List Ent):Prop where
 used:∀ i,thr i=true->((C i).1=true↔pl i≠.fr)
 may:∀ i,thr i=true->pl i≠.fr->mayS (C i).2.2=true/\(C i).2.2.slot=i/\(C i).2.2.birth<=births
 kid:∀ i p,thr i=true->pl i = .kd p->thr p=true/\pl p≠.fr/\(C i).2.2.us=p/\(C i).2.2.ub=(C p).2.2.birth/\(C i).2.1=false/\belowB (C i).2.2 (C p).2.2=true
 root:∀ i,thr i=true->pl i = .rt->(C i).2.2.us=0/\(C i).2.2.ub=0/\(C i).2.1=false
 garbd:∀ i,thr i=true->pl i = .gb->(C i).2.1=true\/((C i).2.2.ub≠0/\∀ j,thr j=true->pl j≠.fr->(C j).2.2.birth≠(C i).2.2.ub)
 inj:∀ i j,thr i=true->thr j=true->pl i≠.fr->pl j≠.fr->(C i).2.2.birth=(C j).2.2.birth->i=j
 bir:0<=births/\births<=1048576
 exs:∀ i,thr i=true->Lv pl i->(i,(C i).2.2.birth,(C i).2.2.dl) ∈ exp
 exd:∀ e ∈ exp,thr e.1=true/\(pl e.1≠.fr->(C e.1).2.2.birth=e.2.1->e.2.2=(C e.1).2.2.dl)
 exn:(exp.map (·.1)).Nodup
 exo:exp.Pairwise fun x y => ahd (itm y) (itm x)=false
theorem Core.congr {C D:Int->Bool × Bool × Sess} {pl:Int->Pl} {births:Int} {exp:List Ent} (h:Core C pl births exp) (e:∀ i,thr i=true->D i=C i):Core D pl births exp where
 used i hi:=by rw [e i hi];exact h.used i hi
 may i hi hf:=by rw [e i hi];exact h.may i hi hf
 kid i p hi hk:=by
  have:=h.kid i p hi hk
  rw [e i hi,e p this.1];exact this
 root i hi hr:=by rw [e i hi];exact h.root i hi hr
 garbd i hi hg:=by
  rw [e i hi]
  rcases h.garbd i hi hg with h1 | ⟨h1,h2⟩
  ·exact .inl h1
  ·exact .inr ⟨h1,fun j hj hf => by rw [e j hj];exact h2 j hj hf⟩
 inj i j hi hj hf hg:=by rw [e i hi,e j hj];exact h.inj i j hi hj hf hg
 bir:=h.bir
 exs i hi hl:=by rw [e i hi];exact h.exs i hi hl
 exd x hx:=by rw [e x.1 (h.exd x hx).1];exact h.exd x hx
 exn:=h.exn
 exo:=h.exo
structure Wf (st:FS) (R G:List Int) (K:Int->List Int) (pl:Int->Pl):Prop where
 sh:Shape st.S st.free st.roots st.garb R G K pl
 co:Core (cor st.S) pl st.births st.exp
 clk:tm st.clock=true
theorem mayS_iff {s:Sess}:mayS s=true↔(0<=s.slot/\s.slot<=31)/\(1<=s.birth/\s.birth<=1048576)/\nameB s.user.data.toList=true/\(0<=s.level/\s.level<=2)/\(0<=s.born/\s.born<=1099511627776)/\(s.born+1<=s.dl/\s.dl<=1099511627776) /\
  (s.kind=0/\(s.us=0/\s.ub=0)/\s.label.size=0/\s.depth=0\/s.kind≠0/\(s.kind=1\/s.kind=2)/\¬ (s.kind=2/\300<s.dl-s.born)/\(0<=s.us/\s.us<=31)/\(1<=s.ub/\s.ub<=s.birth-1)/\nameB s.label.data.toList=true/\(1<=s.depth/\s.depth<=6)):=by
 unfold mayS
 by_cases h:s.kind=0
 ·rw [if_pos h]
  simp only [Bool.and_eq_true,decide_eq_true_eq,beq_iff_eq]
  simp [h]
 ·rw [if_neg h]
  simp only [Bool.and_eq_true,decide_eq_true_eq,Bool.not_eq_true',decide_eq_false_iff_not]
  simp [h]
theorem Lv.nf {pl:Int->Pl} {i:Int} (h:Lv pl i):pl i≠.fr/\pl i≠.gb:=by
 cases h with
 | root h => rw [h];exact ⟨by simp,by simp⟩
 | kid h _ => rw [h];exact ⟨by simp,by simp⟩
section
variable {S:List Slt} {births:Int} {exp:List Ent} {pl:Int->Pl}
theorem Core.birth1 {C:Int->Bool × Bool × Sess} (h:Core C pl births exp) {i:Int} (hi:thr i=true) (hf:pl i≠.fr):1<=(C i).2.2.birth:=(mayS_iff.1 (h.may i hi hf).1).2.1.1
theorem Core.depth {C:Int->Bool × Bool × Sess} (h:Core C pl births exp) {i:Int} (hi:thr i=true) (hf:pl i≠.fr):0<=(C i).2.2.depth/\(C i).2.2.depth<=6:=by
 have:=(mayS_iff.1 (h.may i hi hf).1).2.2.2.2.2.2
 rcases this with ⟨_,_,_,h⟩ | ⟨_,_,_,_,_,_,h⟩ <;> omega
theorem belowB_iff {s p:Sess}:belowB s p=true↔s.depth=IntKind.i64.wrap (p.depth+1)/\s.user=p.user/\s.dl<=p.dl/\within s.scopes p.scopes=true/\(p.level<s.level↔s.kind=2):=by
 unfold belowB
 have e:∀ a b:Bool,(a == b)=true↔(a=true↔b=true):=by decide
 simp only [Bool.and_eq_true,e]
 simp only [beq_iff_eq,decide_eq_true_eq]
theorem wrap_small {n:Int} (h0:0<=n) (h:n<=100):IntKind.i64.wrap n=n:=IntWalk.i64_in _ (by omega)
theorem Core.kid_depth {C:Int->Bool × Bool × Sess} (h:Core C pl births exp) {i p:Int} (hi:thr i=true) (hk:pl i = .kd p):(C i).2.2.depth=(C p).2.2.depth+1:=by
 obtain ⟨h1,h2,h3,h4,h5,h6⟩:=h.kid i p hi hk
 have:=h.depth h1 h2
 rw [(belowB_iff.1 h6).1,wrap_small (by omega) (by omega)]
theorem holds_iff {S:List Slt} {i b:Int}:holds S i b=true↔thr i=true/\1<=b/\(sl S i).used=true/\(sl S i).dead=false/\(sl S i).s.birth=b:=by
 unfold holds;simp
theorem Core.lives_to (h:Core (cor S) pl births exp):∀ (n:Nat) (i b:Int),livesN S n i b=true->thr i=true/\Lv pl i/\(sl S i).s.birth=b
 | 0,_,_,hl => by simp [livesN] at hl
 | n+1,i,b,hl => by
  unfold livesN at hl
  simp only [Bool.and_eq_true,Bool.or_eq_true,beq_iff_eq] at hl
  obtain ⟨hh,hl⟩:=hl
  obtain ⟨hi,hb,hu,hd,hbb⟩:=holds_iff.1 hh
  have hf:=(h.used i hi).1 hu
  refine ⟨hi,?_,hbb⟩
  cases hp:pl i with
  | fr => exact absurd hp hf
  | rt => exact .root hp
  | gb =>
   exfalso
   rcases h.garbd i hi hp with h1 | ⟨h1,h2⟩
   ·have h1':(sl S i).dead=true:=h1
    rw [hd] at h1';cases h1'
   ·rcases hl with h3 | h3
    ·exact h1 h3
    ·obtain ⟨k1,k2,k3⟩:=Core.lives_to h n _ _ h3
     exact h2 _ k1 k2.nf.1 k3
  | kd p =>
   obtain ⟨k1,k2,k3,k4,k5,k6⟩:=h.kid i p hi hp
   have k3':(sl S i).s.us=p:=k3
   have k4':(sl S i).s.ub=(sl S p).s.birth:=k4
   rcases hl with h3 | h3
   ·have h5:1<=(sl S p).s.birth:=h.birth1 k1 k2
    omega
   ·rw [k3',k4'] at h3
    exact .kid hp (Core.lives_to h n _ _ h3).2.1
theorem Core.lives_of (h:Core (cor S) pl births exp) {i:Int} (hv:Lv pl i):∀ (n:Nat),thr i=true->(sl S i).s.depth<n->livesN S n i (sl S i).s.birth=true:=by
 induction hv with
 | root hp =>
  rename_i i
  intro n hi hn
  have hf:pl i≠.fr:=by rw [hp];simp
  have hd:0<=(sl S i).s.depth:=(h.depth hi hf).1
  obtain ⟨m,rfl⟩:∃ m,n=m+1:=⟨n-1,by omega⟩
  obtain ⟨r1,r2,r3⟩:=h.root i hi hp
  have r2':(sl S i).s.ub=0:=r2
  unfold livesN
  rw [(holds_iff (S:=S) (i:=i) (b:=(sl S i).s.birth)).2 ⟨hi,h.birth1 hi hf,(h.used i hi).2 hf,r3,rfl⟩,r2'];rfl
 | kid hp _ ih =>
  rename_i i p _
  intro n hi hn
  have hf:pl i≠.fr:=by rw [hp];simp
  obtain ⟨k1,k2,k3,k4,k5,k6⟩:=h.kid i p hi hp
  have k3':(sl S i).s.us=p:=k3
  have k4':(sl S i).s.ub=(sl S p).s.birth:=k4
  have hd:(sl S i).s.depth=(sl S p).s.depth+1:=h.kid_depth hi hp
  have hd2:0<=(sl S p).s.depth:=(h.depth k1 k2).1
  obtain ⟨m,rfl⟩:∃ m,n=m+1:=⟨n-1,by omega⟩
  unfold livesN
  rw [(holds_iff (S:=S) (i:=i) (b:=(sl S i).s.birth)).2 ⟨hi,h.birth1 hi hf,(h.used i hi).2 hf,k5,rfl⟩,k3',k4',ih m k1 (by omega)];simp
theorem Core.lives_iff (h:Core (cor S) pl births exp) (i b:Int):lives S i b=true↔thr i=true/\Lv pl i/\(sl S i).s.birth=b:=by
 unfold lives
 constructor
 ·exact h.lives_to 7 i b
 ·rintro ⟨h1,h2,rfl⟩
  exact h.lives_of h2 7 h1 (by have:(sl S i).s.depth<=6:=(h.depth h1 h2.nf.1).2;omega)
end
end Fr
end
end Go.Proofs.YtimhglmfckfclaaGreatDoor
