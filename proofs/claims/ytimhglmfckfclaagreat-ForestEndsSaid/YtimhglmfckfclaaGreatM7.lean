/- Parts of the proof. -/
import Derived.Test.YtimhglmfckfclaaGreatM6
import Derived.OpenShut
import Derived.Test.YtimhglmfckfclaaGreatM2
import Derived.IntWalk
set_option linter.unusedVariables false
set_option linter.unusedSimpArgs false
set_option maxRecDepth 100000
set_option maxHeartbeats 16000000
namespace Go.Proofs.YtimhglmfckfclaaGreat
section
open Go.RowKit
def tm (n:Int):Bool:=decide (0<=n/\n<=1099511627776)
theorem tm_yes {n:Int} (h:tm n=true):0<=n/\n<=1099511627776:=of_decide_eq_true h
theorem tm_no {n:Int} (h:tm n=false):n<0\/1099511627776<n:=by have:=of_decide_eq_false h;omega
theorem time_any (n:Int) (w:World):Calls Tryz.prog 72 #[.int .i64 n] w fun e w' => e = .returned (.bool (tm n))/\w=w':=by
 by_cases h:tm n=true
 ·have hb:=tm_yes h
  rw [h]
  obtain ⟨b1,b2⟩:=hb
  clear h
  go_enter Tryz.func72,Tryz.ntmps72
  go_wp2
  go_ret
  exact ⟨rfl,rfl⟩
 ·have h':tm n=false:=by simpa using h
  have hb:=tm_no h'
  rw [h']
  clear h h'
  by_cases h0:0<=n
  ·have h2:¬ n<=1099511627776:=by omega
   clear hb
   go_enter Tryz.func72,Tryz.ntmps72
   go_wp2
   go_ret
   exact ⟨rfl,rfl⟩
  ·clear hb
   go_enter Tryz.func72,Tryz.ntmps72
   go_wp2
   go_ret
   exact ⟨rfl,rfl⟩
def aft (now ticks:Int):Bool:=tm now && decide (0<=ticks/\ticks<=1073741824) && tm (now+ticks)
theorem aft_yes {now ticks:Int} (h:aft now ticks=true):tm now=true/\0<=ticks/\ticks<=1073741824/\tm (now+ticks)=true:=by
 simp only [aft,Bool.and_eq_true,decide_eq_true_eq] at h
 exact ⟨h.1.1,h.1.2.1,h.1.2.2,h.2⟩
theorem after_yes (now ticks:Int) (h:aft now ticks=true) (w:World) :
  Calls Tryz.prog 42 #[.int .i64 now,.int .i64 ticks] w fun e w' => e = .returned (.tuple #[.int .i64 (now+ticks),.nilIface])/\w=w':=by
 obtain ⟨ha,h0,h2,h3⟩:=aft_yes h
 obtain ⟨b1,b2⟩:=tm_yes ha
 clear h
 go_enter Tryz.func42,Tryz.ntmps42
 go_wp2_with (go_at_call 72;refine (time_any _ _).mono ?_;rintro e w' ⟨rfl,rfl⟩)
 go_ret2
 exact ⟨rfl,rfl⟩
theorem after_no (now ticks:Int) (h:aft now ticks=false) (w:World) :
  Calls Tryz.prog 42 #[.int .i64 now,.int .i64 ticks] w fun e w' => e = .returned (.tuple #[.int .i64 0,.iface 83 (.int .i64 12)])/\w=w':=by
 by_cases ha:tm now=true
 ·obtain ⟨b1,b2⟩:=tm_yes ha
  by_cases h0:0<=ticks
  ·by_cases h2:ticks<=1073741824
   ·have h3:tm (now+ticks)=false:=by simpa [aft,ha,h0,h2] using h
    clear h
    go_enter Tryz.func42,Tryz.ntmps42
    go_wp2_with (go_at_call 72;refine (time_any _ _).mono ?_;rintro e w' ⟨rfl,rfl⟩)
    go_ret2
    exact ⟨rfl,rfl⟩
   ·clear h
    go_enter Tryz.func42,Tryz.ntmps42
    go_wp2_with (go_at_call 72;refine (time_any _ _).mono ?_;rintro e w' ⟨rfl,rfl⟩)
    go_ret2
    exact ⟨rfl,rfl⟩
  ·clear h
   go_enter Tryz.func42,Tryz.ntmps42
   go_wp2_with (go_at_call 72;refine (time_any _ _).mono ?_;rintro e w' ⟨rfl,rfl⟩)
   go_ret2
   exact ⟨rfl,rfl⟩
 ·have ha':tm now=false:=by simpa using ha
  clear h ha
  go_enter Tryz.func42,Tryz.ntmps42
  go_wp2_with (go_at_call 72;refine (time_any _ _).mono ?_;rintro e w' ⟨rfl,rfl⟩)
  go_ret2
  exact ⟨rfl,rfl⟩
def unt (now life most:Int):Bool:=tm now && tm most && decide (1<=life/\life<=1073741824) && decide (now<most)
theorem unt_yes {now life most:Int} (h:unt now life most=true):tm now=true/\tm most=true/\1<=life/\life<=1073741824/\now<most:=by
 simp only [unt,Bool.and_eq_true,decide_eq_true_eq] at h
 exact ⟨h.1.1.1,h.1.1.2,h.1.2.1,h.1.2.2,h.2⟩
def untV (now life most:Int):Int:=if most<now+life then most else now+life
theorem until_yes (now life most:Int) (h:unt now life most=true) (w:World) :
  Calls Tryz.prog 137 #[.int .i64 now,.int .i64 life,.int .i64 most] w fun e w' => e = .returned (.tuple #[.int .i64 (untV now life most),.nilIface])/\w=w':=by
 obtain ⟨ha,hb,h0,h2,h3⟩:=unt_yes h
 obtain ⟨b1,b2⟩:=tm_yes ha
 obtain ⟨b3,b4⟩:=tm_yes hb
 clear h
 unfold untV
 by_cases hm:most<now+life
 ·rw [if_pos hm]
  have hmn:min (now+life) most=most:=by omega
  go_enter Tryz.func137,Tryz.ntmps137
  go_wp2_with (go_at_call 72;refine (time_any _ _).mono ?_;rintro e w' ⟨rfl,rfl⟩)
  go_ret2
  exact ⟨rfl,rfl⟩
 ·rw [if_neg hm]
  have hmn:min (now+life) most=now+life:=by omega
  go_enter Tryz.func137,Tryz.ntmps137
  go_wp2_with (go_at_call 72;refine (time_any _ _).mono ?_;rintro e w' ⟨rfl,rfl⟩)
  go_ret2
  exact ⟨rfl,rfl⟩
theorem until_no (now life most:Int) (h:unt now life most=false) (w:World) :
  Calls Tryz.prog 137 #[.int .i64 now,.int .i64 life,.int .i64 most] w fun e w' => e = .returned (.tuple #[.int .i64 0,.iface 83 (.int .i64 12)])/\w=w':=by
 by_cases ha:tm now=true
 ·by_cases hb:tm most=true
  ·by_cases h0:1<=life
   ·by_cases h2:life<=1073741824
    ·have h3:most<=now:=by
      have:¬ now<most:=by simpa [unt,ha,hb,h0,h2] using h
      omega
     clear h
     go_enter Tryz.func137,Tryz.ntmps137
     go_wp2_with (go_at_call 72;refine (time_any _ _).mono ?_;rintro e w' ⟨rfl,rfl⟩)
     go_ret2
     exact ⟨rfl,rfl⟩
    ·clear h
     go_enter Tryz.func137,Tryz.ntmps137
     go_wp2_with (go_at_call 72;refine (time_any _ _).mono ?_;rintro e w' ⟨rfl,rfl⟩)
     go_ret2
     exact ⟨rfl,rfl⟩
   ·clear h
    go_enter Tryz.func137,Tryz.ntmps137
    go_wp2_with (go_at_call 72;refine (time_any _ _).mono ?_;rintro e w' ⟨rfl,rfl⟩)
    go_ret2
    exact ⟨rfl,rfl⟩
  ·have hb':tm most=false:=by simpa using hb
   clear h hb
   go_enter Tryz.func137,Tryz.ntmps137
   go_wp2_with (go_at_call 72;refine (time_any _ _).mono ?_;rintro e w' ⟨rfl,rfl⟩)
   go_ret2
   exact ⟨rfl,rfl⟩
 ·have ha':tm now=false:=by simpa using ha
  clear h ha
  go_enter Tryz.func137,Tryz.ntmps137
  go_wp2_with (go_at_call 72;refine (time_any _ _).mono ?_;rintro e w' ⟨rfl,rfl⟩)
  go_ret2
  exact ⟨rfl,rfl⟩
end
section
namespace Fr
open Vw (Sess)
open Ex (Ent itm wo)
open Hp (ahd)
def within (a b:Nat):Bool:=bits .andNot .u64 (a:Int) (b:Int) == 0
structure Req where
 user:ByteArray
 label:ByteArray
 scopes:Nat
 level:Int
 life:Int
def mayS (s:Sess):Bool :=
 decide (0<=s.slot/\s.slot<=31) && (decide (1<=s.birth/\s.birth<=1048576) && (nameB s.user.data.toList && (decide (0<=s.level/\s.level<=2) && (decide (0<=s.born/\s.born<=1099511627776) && (decide (s.born+1<=s.dl/\s.dl<=1099511627776) &&
 (if s.kind=0 then decide (s.us=0/\s.ub=0) && (s.label.size == 0 && s.depth == 0)
  else decide (s.kind=1\/s.kind=2) && (!decide (s.kind=2/\300<s.dl-s.born) && (decide (0<=s.us/\s.us<=31) && (decide (1<=s.ub/\s.ub<=s.birth-1) && (nameB s.label.data.toList && decide (1<=s.depth/\s.depth<=6)))))))))))
def belowB (s p:Sess):Bool:=s.depth == IntKind.i64.wrap (p.depth+1) && (decide (s.user=p.user) && (decide (s.dl<=p.dl) && (within s.scopes p.scopes && (decide (p.level<s.level) == (s.kind == 2)))))
def loginS (r:Req) (now births:Int) (full:Bool):Sess × Int :=
 if nameB r.user.data.toList=false then (s0,8) else if ¬ (0<=r.level/\r.level<=2) then (s0,13) else if unt now r.life 1099511627776=false then (s0,12)
 else if births<0\/1048576<=births then (s0,18) else if full then (s0,19) else (⟨0,births+1,0,0,0,r.user,ByteArray.empty,r.scopes,r.level,now,untV now r.life 1099511627776,0⟩,0)
def childS (p:Sess) (r:Req) (now births:Int) (full:Bool):Sess × Int :=
 if nameB r.label.data.toList=false then (s0,8) else if unt now r.life p.dl=false then (s0,12) else if p.depth<0\/6<=p.depth then (s0,17) else if within r.scopes p.scopes=false then (s0,11)
 else if births<0\/1048576<=births then (s0,18) else if full then (s0,19) else (⟨0,births+1,p.slot,p.birth,1,p.user,r.label,r.scopes,p.level,now,untV now r.life p.dl,p.depth+1⟩,0)
def canRaise (a b:Int):Bool:=decide (a=0/\b=1) || (decide (a=0/\b=2) || decide (a=1/\b=2))
def raisedS (p:Sess) (r:Req) (now births:Int) (full:Bool):Sess × Int :=
 if nameB r.label.data.toList=false then (s0,8) else if unt now r.life p.dl=false then (s0,12) else if 300<r.life then (s0,12) else if p.depth<0\/6<=p.depth then (s0,17) else if canRaise p.level r.level=false then (s0,13)
 else if births<0\/1048576<=births then (s0,18) else if full then (s0,19) else (⟨0,births+1,p.slot,p.birth,2,p.user,r.label,p.scopes,r.level,now,untV now r.life p.dl,p.depth+1⟩,0)
def holds (S:List Slt) (i b:Int):Bool:=thr i && (decide (1<=b) && ((sl S i).used && (!(sl S i).dead && (sl S i).s.birth == b)))
def livesN (S:List Slt):Nat->Int->Int->Bool
 | 0,_,_ => false
 | n+1,i,b => holds S i b && ((sl S i).s.ub == 0 || livesN S n (sl S i).s.us (sl S i).s.ub)
def lives (S:List Slt) (i b:Int):Bool:=livesN S 7 i b
def goes (S:List Slt) (last:Int):Nat->Int->List Int
 | 0,_ => []
 | n+1,i => if thr i then (if i=last then [i] else i :: goes S last n (sl S i).next) else []
def allL (S:List Slt) (last:Int):List Int:=if thr last then goes S last 32 (sl S last).next else []
def belowN (S:List Slt):Nat->Int->List Int->List Int
 | 0,_,seen => seen
 | n+1,i,seen => if seen.contains i then seen else (allL S (sl S i).kids).foldl (fun sn k => belowN S n k sn) (seen ++ [i])
def underI (S:List Slt) (i:Int):List Int:=if thr i then belowN S 33 i [] else []
structure FS where
 clock:Int
 births:Int
 S:List Slt
 free:List Int
 roots:Int
 garb:Int
 exp:List Ent
def newF:FS:=⟨0,0,List.replicate 32 bare,(List.range 32).map Int.ofNat,-1,-1,[]⟩
def ringOf (st:FS) (us ub:Int):Int:=if ub=0 then st.roots else (sl st.S us).kids
def upOk (S:List Slt) (us ub:Int):Bool:=ub == 0 || (thr us && ((sl S us).used && (sl S us).s.birth == ub))
def turn (st:FS) (us ub last:Int):FS:=if ub=0 then { st with roots:=last } else { st with S:=put st.S us { sl st.S us with kids:=last } }
def cutF (st:FS) (i:Int):Option FS :=
 let us:=(sl st.S i).s.us;let ub:=(sl st.S i).s.ub
 if thr i && ((sl st.S i).used && (upOk st.S us ub && canDrop st.S (ringOf st us ub) i)) then some (turn { st with S:=dropS st.S i } us ub (dropL st.S (ringOf st us ub) i)) else none
def addG (st:FS) (i:Int):Option FS:=if thr i && ((sl st.S i).used && canPush st.S st.garb i) then some { st with S:=pushS st.S st.garb i,garb:=i } else none
def endF (st:FS) (i:Int):Option FS :=
 (cutF st i).bind fun s1 => addG { s1 with S:=put s1.S i { sl s1.S i with dead:=true },exp:=wo s1.exp i } i
def addF (st:FS) (i us ub:Int):Option FS :=
 if thr i && ((sl st.S i).used && (upOk st.S us ub && ((ub == 0 || us != i) && canPush st.S (ringOf st us ub) i))) then
  let S1:=pushS st.S (ringOf st us ub) i
  some (turn { st with S:=put S1 i { sl S1 i with kids:=-1,s:={ (sl S1 i).s with us:=if ub=0 then 0 else us,ub:=ub } } } us ub i)
 else none
def layF (st:FS) (s:Sess):Option (FS × Int) :=
 if st.free.contains s.slot then
  (addF { st with free:=st.free.erase s.slot,S:=put st.S s.slot ⟨true,false,-1,-1,-1,s⟩ } s.slot s.us s.ub).map fun s1 => ({ s1 with exp:=Ex.put (wo s1.exp s.slot) (s.slot,s.birth,s.dl) },0)
 else some (st,9)
def unitF (st:FS):Option (FS × Option Int) :=
 if st.garb = -1 then some (st,none) else
 let f:=(sl st.S st.garb).next
 if thr st.garb && thr f then
  let k:=(sl st.S f).kids
  if k == -1 || canSplice st.S st.garb k then
   let S1:=if k = -1 then st.S else spliceS st.S st.garb k
   let g1:=if k = -1 then st.garb else k
   if canDrop S1 g1 f && !st.free.contains f then some ({ st with S:=put (dropS S1 f) f bare,free:=f :: st.free,garb:=dropL S1 g1 f },some f) else none
  else none
 else none
def mayF (st:FS) (s:Sess):Int:=if s.us=0/\s.ub=0 then 0 else if lives st.S s.us s.ub=false then 16 else if belowB s (sl st.S s.us).s=false then 24 else 0
def bornF (st:FS) (s:Sess):Option (FS × Int) :=
 if mayS s=false\/s.born≠st.clock then some (st,1) else if s.birth≠st.births+1 then some (st,18) else if mayF st s≠0 then some (st,mayF st s) else
 (layF st s).map fun x => if x.2=0 then ({ x.1 with births:=x.1.births+1 },0) else x
def full (st:FS):Bool:=st.free.isEmpty && st.garb == -1
def grantF (st:FS) (kind us ub:Int) (r:Req):Sess × Int :=
 if kind=0 then loginS r st.clock st.births (full st) else if lives st.S us ub=false then (s0,16) else if kind=1 then childS (sl st.S us).s r st.clock st.births (full st) else raisedS (sl st.S us).s r st.clock st.births (full st)
def planF (st:FS) (kind us ub:Int) (r:Req):Option (FS × Sess × Int) :=
 if kind<0\/2<kind then some (st,s0,1) else
 if (grantF st kind us ub r).2≠0 then some (st,s0,(grantF st kind us ub r).2) else
 (if st.free.isEmpty then (unitF st).map Prod.fst else some st).map fun s1 => match s1.free with
  | i :: _ => (s1,{ (grantF st kind us ub r).1 with slot:=i },0)
  | [] => (s1,s0,19)
def sessionF (st:FS) (us ub:Int):Sess × Int:=if lives st.S us ub then ((sl st.S us).s,0) else (s0,16)
def revokeF (st:FS) (us ub:Int):Option (FS × Int):=if lives st.S us ub then (endF st us).map (·,0) else some (st,16)
def dueN:Nat->FS->Option FS
 | 0,st => some st
 | n+1,st => match st.exp with
  | [] => some st
  | e :: _ => if st.clock<e.2.2 then some st else
   (revokeF { st with exp:=wo st.exp e.1 } e.1 e.2.1).bind fun x => dueN n x.1
def tickF (st:FS) (n:Int):Option (FS × Int) :=
 if tm st.clock=false\/n<0\/1073741824<n\/tm (st.clock+n)=false then some (st,12) else (dueN st.exp.length { st with clock:=st.clock+n }).map (·,0)
def unitsN:Nat->FS->Option FS
 | 0,st => some st
 | n+1,st => (unitF st).bind fun x => match x.2 with
  | none => some x.1
  | some _ => unitsN n x.1
def sweepF (st:FS) (n:Int):Option (FS × Int):=if n<0\/65536<n then some (st,20) else (unitsN n.toNat st).map (·,0)
def underF (st:FS) (us ub:Int):List Sess:=if lives st.S us ub then (underI st.S us).map fun i => (sl st.S i).s else []
def insB (x:Sess):List Sess->List Sess
 | [] => [x]
 | y :: r => if x.birth<y.birth then x :: y :: r else y :: insB x r
def sortB (l:List Sess):List Sess:=l.foldl (fun a x => insB x a) []
def stateF (st:FS):List Sess:=sortB ((allL st.S st.roots).flatMap fun i => underF st (sl st.S i).s.slot (sl st.S i).s.birth)
end Fr
end
section
namespace Fr
open Vw (Sess)
open Ex (Ent itm wo)
open Hp (ahd)
inductive Pl where
 | fr
 | rt
 | gb
 | kd (p:Int)
deriving DecidableEq
inductive Lv (pl:Int->Pl):Int->Prop
 | root {i:Int}:pl i = .rt->Lv pl i
 | kid {i p:Int}:pl i = .kd p->Lv pl p->Lv pl i
inductive Sub (pl:Int->Pl) (a:Int):Int->Prop
 | refl:Sub pl a a
 | step {i p:Int}:pl i = .kd p->Sub pl a p->Sub pl a i
def cor (S:List Slt) (i:Int):Bool × Bool × Sess:=((sl S i).used,(sl S i).dead,(sl S i).s)
structure Shape (S:List Slt) (free:List Int) (roots garb:Int) (R G:List Int) (K:Int->List Int) (pl:Int->Pl):Prop where
 len:S.length=32
 fmem:∀ i,i ∈ free↔thr i=true/\pl i = .fr
 fnd:free.Nodup
 rmem:∀ i,i ∈ R↔thr i=true/\pl i = .rt
 rnd:R.Nodup
 gmem:∀ i,i ∈ G↔thr i=true/\pl i = .gb
 gnd:G.Nodup
 kmem:∀ p i,i ∈ K p↔thr i=true/\pl i = .kd p
 knd:∀ p,(K p).Nodup
 kpar:∀ i p,thr i=true->pl i = .kd p->thr p=true/\pl p≠.fr
 rR:RingAt S roots R
 rG:RingAt S garb G
 rK:∀ p,thr p=true->pl p≠.fr->RingAt S (sl S p).kids (K p)
 bareF:∀ i,thr i=true->pl i = .fr->sl S i=bare
structure Core (C:Int->Bool × Bool × Sess) (pl:Int->Pl) (births:Int) (exp:List Ent):Prop where
 used:∀ i,thr i=true->((C i).1=true↔pl i≠.fr)
 may:∀ i,thr i=true->pl i≠.fr->mayS (C i).2.2=true/\(C i).2.2.slot=i/\(C i).2.2.birth<=births
 kid:∀ i p,thr i=true->pl i = .kd p->thr p=true/\pl p≠.fr/\(C i).2.2.us=p/\(C i).2.2.ub=(C p).2.2.birth/\(C i).2.1=false/\belowB (C i).2.2 (C p).2.2=true
 root:∀ i,thr i=true->pl i = .rt->(C i).2.2.us=0/\(C i).2.2.ub=0/\(C i).2.1=false
 garbd:∀ i,thr i=true->pl i = .gb->(C i).2.1=true\/((C i).2.2.ub≠0/\∀ j,thr j=true->pl j≠.fr->(C j).2.2.birth≠(C i).2.2.ub)
 inj:∀ i j,thr i=true->thr j=true->pl i≠.fr->pl j≠.fr->(C i).2.2.birth=(C j).2.2.birth->i=j
 bir:0<=births/\births<=1048576
 exs:∀ i,thr i=true->Lv pl i->(i,(C i).2.2.birth,(C i).2.2.dl) ∈ exp
 exd:∀ e ∈ exp,thr e.1=true/\(pl e.1≠.fr->(C e.1).2.2.birth=e.2.1->e.2.2=(C e.1).2.2.dl)
 exn:(exp.map (·.1)).Nodup
 exo:exp.Pairwise fun x y => ahd (itm y) (itm x)=false
theorem Core.congr {C D:Int->Bool × Bool × Sess} {pl:Int->Pl} {births:Int} {exp:List Ent} (h:Core C pl births exp) (e:∀ i,thr i=true->D i=C i):Core D pl births exp where
 used i hi:=by rw [e i hi];exact h.used i hi
 may i hi hf:=by rw [e i hi];exact h.may i hi hf
 kid i p hi hk:=by
  have:=h.kid i p hi hk
  rw [e i hi,e p this.1];exact this
 root i hi hr:=by rw [e i hi];exact h.root i hi hr
 garbd i hi hg:=by
  rw [e i hi]
  rcases h.garbd i hi hg with h1 | ⟨h1,h2⟩
  ·exact .inl h1
  ·exact .inr ⟨h1,fun j hj hf => by rw [e j hj];exact h2 j hj hf⟩
 inj i j hi hj hf hg:=by rw [e i hi,e j hj];exact h.inj i j hi hj hf hg
 bir:=h.bir
 exs i hi hl:=by rw [e i hi];exact h.exs i hi hl
 exd x hx:=by rw [e x.1 (h.exd x hx).1];exact h.exd x hx
 exn:=h.exn
 exo:=h.exo
structure Wf (st:FS) (R G:List Int) (K:Int->List Int) (pl:Int->Pl):Prop where
 sh:Shape st.S st.free st.roots st.garb R G K pl
 co:Core (cor st.S) pl st.births st.exp
 clk:tm st.clock=true
theorem mayS_iff {s:Sess}:mayS s=true↔(0<=s.slot/\s.slot<=31)/\(1<=s.birth/\s.birth<=1048576)/\nameB s.user.data.toList=true/\(0<=s.level/\s.level<=2)/\(0<=s.born/\s.born<=1099511627776)/\(s.born+1<=s.dl/\s.dl<=1099511627776) /\
  (s.kind=0/\(s.us=0/\s.ub=0)/\s.label.size=0/\s.depth=0\/s.kind≠0/\(s.kind=1\/s.kind=2)/\¬ (s.kind=2/\300<s.dl-s.born)/\(0<=s.us/\s.us<=31)/\(1<=s.ub/\s.ub<=s.birth-1)/\nameB s.label.data.toList=true/\(1<=s.depth/\s.depth<=6)):=by
 unfold mayS
 by_cases h:s.kind=0
 ·rw [if_pos h]
  simp only [Bool.and_eq_true,decide_eq_true_eq,beq_iff_eq]
  simp [h]
 ·rw [if_neg h]
  simp only [Bool.and_eq_true,decide_eq_true_eq,Bool.not_eq_true',decide_eq_false_iff_not]
  simp [h]
theorem Lv.nf {pl:Int->Pl} {i:Int} (h:Lv pl i):pl i≠.fr/\pl i≠.gb:=by
 cases h with
 | root h => rw [h];exact ⟨by simp,by simp⟩
 | kid h _ => rw [h];exact ⟨by simp,by simp⟩
section
variable {S:List Slt} {births:Int} {exp:List Ent} {pl:Int->Pl}
theorem Core.birth1 {C:Int->Bool × Bool × Sess} (h:Core C pl births exp) {i:Int} (hi:thr i=true) (hf:pl i≠.fr):1<=(C i).2.2.birth:=(mayS_iff.1 (h.may i hi hf).1).2.1.1
theorem Core.depth {C:Int->Bool × Bool × Sess} (h:Core C pl births exp) {i:Int} (hi:thr i=true) (hf:pl i≠.fr):0<=(C i).2.2.depth/\(C i).2.2.depth<=6:=by
 have:=(mayS_iff.1 (h.may i hi hf).1).2.2.2.2.2.2
 rcases this with ⟨_,_,_,h⟩ | ⟨_,_,_,_,_,_,h⟩ <;> omega
theorem belowB_iff {s p:Sess}:belowB s p=true↔s.depth=IntKind.i64.wrap (p.depth+1)/\s.user=p.user/\s.dl<=p.dl/\within s.scopes p.scopes=true/\(p.level<s.level↔s.kind=2):=by
 unfold belowB
 have e:∀ a b:Bool,(a == b)=true↔(a=true↔b=true):=by decide
 simp only [Bool.and_eq_true,e]
 simp only [beq_iff_eq,decide_eq_true_eq]
theorem wrap_small {n:Int} (h0:0<=n) (h:n<=100):IntKind.i64.wrap n=n:=IntWalk.i64_in _ (by omega)
theorem Core.kid_depth {C:Int->Bool × Bool × Sess} (h:Core C pl births exp) {i p:Int} (hi:thr i=true) (hk:pl i = .kd p):(C i).2.2.depth=(C p).2.2.depth+1:=by
 obtain ⟨h1,h2,h3,h4,h5,h6⟩:=h.kid i p hi hk
 have:=h.depth h1 h2
 rw [(belowB_iff.1 h6).1,wrap_small (by omega) (by omega)]
theorem holds_iff {S:List Slt} {i b:Int}:holds S i b=true↔thr i=true/\1<=b/\(sl S i).used=true/\(sl S i).dead=false/\(sl S i).s.birth=b:=by
 unfold holds;simp
theorem Core.lives_to (h:Core (cor S) pl births exp):∀ (n:Nat) (i b:Int),livesN S n i b=true->thr i=true/\Lv pl i/\(sl S i).s.birth=b
 | 0,_,_,hl => by simp [livesN] at hl
 | n+1,i,b,hl => by
  unfold livesN at hl
  simp only [Bool.and_eq_true,Bool.or_eq_true,beq_iff_eq] at hl
  obtain ⟨hh,hl⟩:=hl
  obtain ⟨hi,hb,hu,hd,hbb⟩:=holds_iff.1 hh
  have hf:=(h.used i hi).1 hu
  refine ⟨hi,?_,hbb⟩
  cases hp:pl i with
  | fr => exact absurd hp hf
  | rt => exact .root hp
  | gb =>
   exfalso
   rcases h.garbd i hi hp with h1 | ⟨h1,h2⟩
   ·have h1':(sl S i).dead=true:=h1
    rw [hd] at h1';cases h1'
   ·rcases hl with h3 | h3
    ·exact h1 h3
    ·obtain ⟨k1,k2,k3⟩:=Core.lives_to h n _ _ h3
     exact h2 _ k1 k2.nf.1 k3
  | kd p =>
   obtain ⟨k1,k2,k3,k4,k5,k6⟩:=h.kid i p hi hp
   have k3':(sl S i).s.us=p:=k3
   have k4':(sl S i).s.ub=(sl S p).s.birth:=k4
   rcases hl with h3 | h3
   ·have h5:1<=(sl S p).s.birth:=h.birth1 k1 k2
    omega
   ·rw [k3',k4'] at h3
    exact .kid hp (Core.lives_to h n _ _ h3).2.1
theorem Core.lives_of (h:Core (cor S) pl births exp) {i:Int} (hv:Lv pl i):∀ (n:Nat),thr i=true->(sl S i).s.depth<n->livesN S n i (sl S i).s.birth=true:=by
 induction hv with
 | root hp =>
  rename_i i
  intro n hi hn
  have hf:pl i≠.fr:=by rw [hp];simp
  have hd:0<=(sl S i).s.depth:=(h.depth hi hf).1
  obtain ⟨m,rfl⟩:∃ m,n=m+1:=⟨n-1,by omega⟩
  obtain ⟨r1,r2,r3⟩:=h.root i hi hp
  have r2':(sl S i).s.ub=0:=r2
  unfold livesN
  rw [(holds_iff (S:=S) (i:=i) (b:=(sl S i).s.birth)).2 ⟨hi,h.birth1 hi hf,(h.used i hi).2 hf,r3,rfl⟩,r2'];rfl
 | kid hp _ ih =>
  rename_i i p _
  intro n hi hn
  have hf:pl i≠.fr:=by rw [hp];simp
  obtain ⟨k1,k2,k3,k4,k5,k6⟩:=h.kid i p hi hp
  have k3':(sl S i).s.us=p:=k3
  have k4':(sl S i).s.ub=(sl S p).s.birth:=k4
  have hd:(sl S i).s.depth=(sl S p).s.depth+1:=h.kid_depth hi hp
  have hd2:0<=(sl S p).s.depth:=(h.depth k1 k2).1
  obtain ⟨m,rfl⟩:∃ m,n=m+1:=⟨n-1,by omega⟩
  unfold livesN
  rw [(holds_iff (S:=S) (i:=i) (b:=(sl S i).s.birth)).2 ⟨hi,h.birth1 hi hf,(h.used i hi).2 hf,k5,rfl⟩,k3',k4',ih m k1 (by omega)];simp
theorem Core.lives_iff (h:Core (cor S) pl births exp) (i b:Int):lives S i b=true↔thr i=true/\Lv pl i/\(sl S i).s.birth=b:=by
 unfold lives
 constructor
 ·exact h.lives_to 7 i b
 ·rintro ⟨h1,h2,rfl⟩
  exact h.lives_of h2 7 h1 (by have:(sl S i).s.depth<=6:=(h.depth h1 h2.nf.1).2;omega)
end
end Fr
end
section
namespace Fr
open Vw (Sess)
open Ex (Ent itm wo)
open Hp (ahd)
section
variable {C:Int->Bool × Bool × Sess} {pl:Int->Pl} {births:Int} {exp:List Ent}
def plFree (pl:Int->Pl) (f:Int) (i:Int):Pl:=if i=f then .fr else if pl i = .kd f then .gb else pl i
theorem lv_free {f:Int} (hf:pl f = .gb) (i:Int):Lv (plFree pl f) i↔Lv pl i:=by
 constructor
 ·intro h
  induction h with
  | root h =>
   unfold plFree at h
   split at h
   ·cases h
   ·split at h
    ·cases h
    ·exact .root h
  | kid h _ ih =>
   unfold plFree at h
   split at h
   ·cases h
   ·split at h
    ·cases h
    ·exact .kid h ih
 ·intro h
  induction h with
  | root h =>
   rename_i i
   refine .root ?_
   unfold plFree
   rw [if_neg (fun e => by subst e;rw [hf] at h;cases h),if_neg (fun e => by rw [e] at h;cases h),h]
  | kid h hp ih =>
   rename_i i p
   refine .kid (p:=p) ?_ ih
   unfold plFree
   rw [if_neg (fun e => by subst e;rw [hf] at h;cases h),if_neg (fun e => by
    have e2:p=f:=by rw [e] at h;injection h with h;exact h.symm
    subst e2;exact hp.nf.2 hf),h]
theorem free_nf {f i:Int} (h:plFree pl f i≠.fr):i≠f/\pl i≠.fr:=by
 unfold plFree at h
 split at h
 ·exact absurd rfl h
 ·rename_i hn
  split at h
  ·rename_i h2;exact ⟨hn,by rw [h2];simp⟩
  ·exact ⟨hn,h⟩
theorem nf_free {f i:Int} (hn:i≠f) (h:pl i≠.fr):plFree pl f i≠.fr:=by
 unfold plFree
 rw [if_neg hn]
 split
 ·simp
 ·exact h
theorem Core.free (h:Core C pl births exp) {f:Int} (tf:thr f=true) (hf:pl f = .gb):Core (fun i => if i=f then (false,false,s0) else C i) (plFree pl f) births exp where
 used i hi:=by
  show ((if i=f then _ else _:Bool × Bool × Sess)).1=true↔_
  by_cases e:i=f
  ·rw [if_pos e];simp [plFree,e]
  ·rw [if_neg e,h.used i hi]
   exact ⟨nf_free e,fun h2 => (free_nf h2).2⟩
 may i hi hn:=by
  obtain ⟨h1,h2⟩:=free_nf hn
  simp only [if_neg h1];exact h.may i hi h2
 kid i p hi hk:=by
  have h1:i≠f:=fun e => by subst e;simp [plFree] at hk
  have h2:pl i = .kd p/\p≠f:=by
   unfold plFree at hk
   rw [if_neg h1] at hk
   split at hk
   ·cases hk
   ·rename_i h3;exact ⟨hk,fun e => h3 (by rw [hk,e])⟩
  obtain ⟨k1,k2,k3,k4,k5,k6⟩:=h.kid i p hi h2.1
  simp only [if_neg h1,if_neg h2.2]
  exact ⟨k1,nf_free h2.2 k2,k3,k4,k5,k6⟩
 root i hi hr:=by
  have h1:i≠f:=fun e => by subst e;simp [plFree] at hr
  have h2:pl i = .rt:=by
   unfold plFree at hr
   rw [if_neg h1] at hr
   split at hr
   ·cases hr
   ·exact hr
  simp only [if_neg h1];exact h.root i hi h2
 garbd i hi hg:=by
  have h1:i≠f:=fun e => by subst e;simp [plFree] at hg
  simp only [if_neg h1]
  unfold plFree at hg
  rw [if_neg h1] at hg
  split at hg
  ·rename_i hk
   obtain ⟨k1,k2,k3,k4,k5,k6⟩:=h.kid i f hi hk
   have:=h.birth1 k1 k2
   refine .inr ⟨by rw [k4];omega,fun j hj hn => ?_⟩
   obtain ⟨n1,n2⟩:=free_nf hn
   rw [if_neg n1,k4]
   exact fun e => n1 (h.inj j f hj tf n2 k2 e)
  ·rcases h.garbd i hi hg with h2 | ⟨h2,h3⟩
   ·exact .inl h2
   ·refine .inr ⟨h2,fun j hj hn => ?_⟩
    obtain ⟨n1,n2⟩:=free_nf hn
    rw [if_neg n1];exact h3 j hj n2
 inj i j hi hj hn hm he:=by
  obtain ⟨n1,n2⟩:=free_nf hn
  obtain ⟨m1,m2⟩:=free_nf hm
  simp only [if_neg n1,if_neg m1] at he
  exact h.inj i j hi hj n2 m2 he
 bir:=h.bir
 exs i hi hl:=by
  have h2:=(lv_free hf i).1 hl
  have h1:i≠f:=fun e => by subst e;exact h2.nf.2 hf
  simp only [if_neg h1];exact h.exs i hi h2
 exd e he:=by
  refine ⟨(h.exd e he).1,fun hn hb => ?_⟩
  obtain ⟨n1,n2⟩:=free_nf hn
  simp only [if_neg n1] at hb ⊢
  exact (h.exd e he).2 n2 hb
 exn:=h.exn
 exo:=h.exo
def plEnd (pl:Int->Pl) (f:Int) (i:Int):Pl:=if i=f then .gb else pl i
theorem lv_end {f:Int} (hf:Lv pl f) (i:Int):Lv (plEnd pl f) i↔Lv pl i/\¬ Sub pl f i:=by
 constructor
 ·intro h
  induction h with
  | root h =>
   rename_i i
   unfold plEnd at h
   split at h
   ·cases h
   ·rename_i hn
    exact ⟨.root h,fun hs => by
     cases hs with
     | refl => exact hn rfl
     | step h2 _ => rw [h] at h2;cases h2⟩
  | kid h _ ih =>
   rename_i i p _
   unfold plEnd at h
   split at h
   ·cases h
   ·rename_i hn
    refine ⟨.kid h ih.1,fun hs => ?_⟩
    cases hs with
    | refl => exact hn rfl
    | step h2 h3 => rw [h] at h2;injection h2 with h2;subst h2;exact ih.2 h3
 ·rintro ⟨h,hs⟩
  induction h with
  | root h =>
   rename_i i
   refine .root ?_
   unfold plEnd
   rw [if_neg (fun e => by subst e;exact hs .refl),h]
  | kid h _ ih =>
   rename_i i p _
   refine .kid (p:=p) ?_ (ih (fun h2 => hs (.step h h2)))
   unfold plEnd
   rw [if_neg (fun e => by subst e;exact hs .refl),h]
theorem end_nf {f i:Int} (hf:pl f≠.fr):plEnd pl f i≠.fr↔pl i≠.fr:=by
 unfold plEnd
 split
 ·rename_i e;subst e;simp [hf]
 ·exact Iff.rfl
theorem wo_mem {S:List Ent} {s:Int} {e:Ent}:e ∈ wo S s↔e ∈ S/\e.1≠s:=by unfold Ex.wo;simp
theorem wo_nd {S:List Ent} (h:(S.map (·.1)).Nodup) (s:Int):((wo S s).map (·.1)).Nodup:=h.sublist ((List.filter_sublist).map _)
theorem wo_so {S:List Ent} (h:S.Pairwise fun x y => ahd (itm y) (itm x)=false) (s:Int):(wo S s).Pairwise fun x y => ahd (itm y) (itm x)=false:=h.sublist List.filter_sublist
theorem Core.forget (h:Core C pl births exp) {f:Int} (hl:¬ Lv pl f):Core C pl births (wo exp f) where
 used:=h.used
 may:=h.may
 kid:=h.kid
 root:=h.root
 garbd:=h.garbd
 inj:=h.inj
 bir:=h.bir
 exs i hi hv:=wo_mem.2 ⟨h.exs i hi hv,fun e => hl (by subst e;exact hv)⟩
 exd e he:=h.exd e (wo_mem.1 he).1
 exn:=wo_nd h.exn f
 exo:=wo_so h.exo f
theorem Core.ended (h:Core C pl births exp) {f:Int} (hf:Lv pl f):Core (fun i => if i=f then ((C f).1,true,(C f).2.2) else C i) (plEnd pl f) births (wo exp f):=by
 have hs:∀ i,(if i=f then ((C f).1,true,(C f).2.2) else C i).2.2=(C i).2.2:=by
  intro i
  split
  ·rename_i e;rw [e]
  ·rfl
 have hu:∀ i,(if i=f then ((C f).1,true,(C f).2.2) else C i).1=(C i).1:=by
  intro i
  split
  ·rename_i e;rw [e]
  ·rfl
 have nf:=hf.nf.1
 constructor
 case used => intro i hi;rw [hu,end_nf nf];exact h.used i hi
 case may => intro i hi hn;rw [hs];exact h.may i hi ((end_nf nf).1 hn)
 case kid =>
  intro i p hi hk
  have h1:i≠f:=fun e => by subst e;simp [plEnd] at hk
  have h2:pl i = .kd p:=by unfold plEnd at hk;rwa [if_neg h1] at hk
  obtain ⟨k1,k2,k3,k4,k5,k6⟩:=h.kid i p hi h2
  rw [hs,hs]
  simp only [if_neg h1]
  exact ⟨k1,(end_nf nf).2 k2,k3,k4,k5,k6⟩
 case root =>
  intro i hi hr
  have h1:i≠f:=fun e => by subst e;simp [plEnd] at hr
  have h2:pl i = .rt:=by unfold plEnd at hr;rwa [if_neg h1] at hr
  simp only [if_neg h1];exact h.root i hi h2
 case garbd =>
  intro i hi hg
  by_cases e:i=f
  ·simp only [if_pos e];exact .inl trivial
  ·have h2:pl i = .gb:=by unfold plEnd at hg;rwa [if_neg e] at hg
   simp only [if_neg e]
   rcases h.garbd i hi h2 with h3 | ⟨h3,h4⟩
   ·exact .inl h3
   ·refine .inr ⟨h3,fun j hj hn => ?_⟩
    rw [hs];exact h4 j hj ((end_nf nf).1 hn)
 case inj => intro i j hi hj hn hm he;rw [hs,hs] at he;exact h.inj i j hi hj ((end_nf nf).1 hn) ((end_nf nf).1 hm) he
 case bir => exact h.bir
 case exs =>
  intro i hi hv
  obtain ⟨h1,h2⟩:=(lv_end hf i).1 hv
  rw [hs]
  exact wo_mem.2 ⟨h.exs i hi h1,fun e => h2 (by have e2:i=f:=e;subst e2;exact .refl)⟩
 case exd =>
  intro e he
  refine ⟨(h.exd e (wo_mem.1 he).1).1,fun hn hb => ?_⟩
  rw [hs] at hb ⊢
  exact (h.exd e (wo_mem.1 he).1).2 ((end_nf nf).1 hn) hb
 case exn => exact wo_nd h.exn f
 case exo => exact wo_so h.exo f
theorem put_mem {S:List Ent} {x e:Ent}:e ∈ Ex.put S x↔e=x\/e ∈ S:=by rw [(Ex.put_perm S x).mem_iff,List.mem_cons]
theorem ahd_no {a b:Int × Int}:ahd a b=false↔¬ (a.2<b.2\/(a.2=b.2/\a.1<b.1)):=by
 unfold ahd;simp
theorem put_so {S:List Ent} {x:Ent} (h:S.Pairwise fun x y => ahd (itm y) (itm x)=false):(Ex.put S x).Pairwise fun x y => ahd (itm y) (itm x)=false:=by
 induction S with
 | nil => simp [Ex.put]
 | cons e t ih =>
  have h1:=List.pairwise_cons.1 h
  unfold Ex.put
  by_cases hc:ahd (itm x) (itm e)=true
  ·rw [List.takeWhile_cons_of_neg (by simp [hc]),List.dropWhile_cons_of_neg (by simp [hc])]
   refine List.pairwise_cons.2 ⟨fun y hy => ?_,h⟩
   have hc':(itm x).2<(itm e).2\/((itm x).2=(itm e).2/\(itm x).1<(itm e).1):=by
    unfold ahd at hc;simpa using hc
   rcases List.mem_cons.1 hy with rfl | hy
   ·rw [ahd_no];omega
   ·have:=ahd_no.1 (h1.1 y hy)
    rw [ahd_no];omega
  ·have hc2:ahd (itm x) (itm e)=false:=by simpa using hc
   rw [List.takeWhile_cons_of_pos (by simp [hc2]),List.dropWhile_cons_of_pos (by simp [hc2])]
   refine List.pairwise_cons.2 ⟨fun y hy => ?_,ih h1.2⟩
   rcases (put_mem (S:=t)).1 hy with rfl | hy
   ·exact hc2
   ·exact h1.1 y hy
theorem put_nd {S:List Ent} {x:Ent} (h:(S.map (·.1)).Nodup) (hx:∀ e ∈ S,e.1≠x.1):((Ex.put S x).map (·.1)).Nodup:=by
 refine ((Ex.put_perm S x).map (·.1)).nodup_iff.2 ?_
 refine List.nodup_cons.2 ⟨fun hm => ?_,h⟩
 obtain ⟨e,he,h2⟩:=List.mem_map.1 hm
 exact hx e he h2
def plLay (pl:Int->Pl) (f:Int) (x:Pl) (i:Int):Pl:=if i=f then x else pl i
theorem lv_lay (h:Core C pl births exp) {f:Int} {x:Pl} (hf:pl f = .fr) (hx:x = .rt\/∃ p,x = .kd p/\p≠f/\Lv pl p) (i:Int) (hi:thr i=true):Lv (plLay pl f x) i↔i=f\/Lv pl i:=by
 have old:∀ i,Lv pl i->Lv (plLay pl f x) i:=by
  intro i h2
  induction h2 with
  | root h2 => rename_i i;exact .root (by unfold plLay;rw [if_neg (fun e => by subst e;rw [hf] at h2;cases h2),h2])
  | kid h2 _ ih => rename_i i p _;exact .kid (p:=p) (by unfold plLay;rw [if_neg (fun e => by subst e;rw [hf] at h2;cases h2),h2]) ih
 constructor
 ·intro h2
  induction h2 with
  | root h2 =>
   rename_i i
   by_cases e:i=f
   ·exact .inl e
   ·unfold plLay at h2;rw [if_neg e] at h2;exact .inr (.root h2)
  | kid h2 _ ih =>
   rename_i i p _
   by_cases e:i=f
   ·exact .inl e
   ·unfold plLay at h2;rw [if_neg e] at h2
    have h3:=h.kid i p hi h2
    rcases ih h3.1 with e2 | h4
    ·subst e2;exact absurd hf h3.2.1
    ·exact .inr (.kid h2 h4)
 ·rintro (rfl | h2)
  ·rcases hx with rfl | ⟨p,rfl,hp,hl⟩
   ·exact .root (by unfold plLay;rw [if_pos rfl])
   ·exact .kid (p:=p) (by unfold plLay;rw [if_pos rfl]) (old p hl)
  ·exact old i h2
theorem Core.lay (h:Core C pl births exp) {f:Int} {x:Pl} {s:Sess} {births':Int} (tf:thr f=true) (hf:pl f = .fr) (hm:mayS s=true) (hs:s.slot=f) (hb:s.birth<=births') (hb2:births<=births') (hb3:births'<=1048576)
  (hx:x = .rt/\s.us=0/\s.ub=0\/∃ p,x = .kd p/\thr p=true/\Lv pl p/\s.us=p/\s.ub=(C p).2.2.birth/\belowB s (C p).2.2=true) (hn:∀ j,thr j=true->pl j≠.fr->(C j).2.2.birth<s.birth) :
  Core (fun i => if i=f then (true,false,s) else C i) (plLay pl f x) births' (Ex.put (wo exp f) (f,s.birth,s.dl)):=by
 have xnf:x≠.fr:=by rcases hx with ⟨rfl,_⟩ | ⟨p,rfl,_⟩ <;> simp
 have xng:x≠.gb:=by rcases hx with ⟨rfl,_⟩ | ⟨p,rfl,_⟩ <;> simp
 have hx2:x = .rt\/∃ p,x = .kd p/\p≠f/\Lv pl p:=by
  rcases hx with ⟨rfl,_⟩ | ⟨p,rfl,_,h2,_⟩
  ·exact .inl rfl
  ·exact .inr ⟨p,rfl,fun e => by subst e;exact h2.nf.1 hf,h2⟩
 have nf:∀ i,plLay pl f x i≠.fr↔i=f\/pl i≠.fr:=fun i => by
  unfold plLay
  split
  ·rename_i e;simp [e,xnf]
  ·rename_i e;simp [e]
 have off:∀ i,pl i≠.fr->i≠f:=fun i h2 e => h2 (by rw [e,hf])
 constructor
 case used =>
  intro i hi
  rw [nf]
  by_cases e:i=f
  ·simp [e]
  ·simp only [if_neg e,h.used i hi];simp [e]
 case may =>
  intro i hi h2
  by_cases e:i=f
  ·simp only [if_pos e];exact ⟨hm,hs.trans e.symm,hb⟩
  ·simp only [if_neg e]
   rcases (nf i).1 h2 with h3 | h3
   ·exact absurd h3 e
   ·obtain ⟨m1,m2,m3⟩:=h.may i hi h3
    exact ⟨m1,m2,by omega⟩
 case kid =>
  intro i p hi hk
  by_cases e:i=f
  ·have hxk:x = .kd p:=by unfold plLay at hk;rwa [if_pos e] at hk
   rcases hx with ⟨rfl,_⟩ | ⟨q,rfl,q1,q2,q3,q4,q5⟩
   ·cases hxk
   ·injection hxk with hxk;subst hxk
    have qf:=off q q2.nf.1
    simp only [if_pos e,if_neg qf]
    exact ⟨q1,(nf q).2 (.inr q2.nf.1),q3,q4,trivial,q5⟩
  ·have h2:pl i = .kd p:=by unfold plLay at hk;rwa [if_neg e] at hk
   obtain ⟨k1,k2,k3,k4,k5,k6⟩:=h.kid i p hi h2
   simp only [if_neg e,if_neg (off p k2)]
   exact ⟨k1,(nf p).2 (.inr k2),k3,k4,k5,k6⟩
 case root =>
  intro i hi hr
  by_cases e:i=f
  ·have hxk:x = .rt:=by unfold plLay at hr;rwa [if_pos e] at hr
   rcases hx with ⟨_,q1,q2⟩ | ⟨q,h2,_⟩
   ·simp only [if_pos e];exact ⟨q1,q2,trivial⟩
   ·rw [hxk] at h2;cases h2
  ·have h2:pl i = .rt:=by unfold plLay at hr;rwa [if_neg e] at hr
   simp only [if_neg e];exact h.root i hi h2
 case garbd =>
  intro i hi hg
  by_cases e:i=f
  ·unfold plLay at hg;rw [if_pos e] at hg;exact absurd hg xng
  ·have h2:pl i = .gb:=by unfold plLay at hg;rwa [if_neg e] at hg
   simp only [if_neg e]
   rcases h.garbd i hi h2 with h3 | ⟨h3,h4⟩
   ·exact .inl h3
   ·refine .inr ⟨h3,fun j hj hjn => ?_⟩
    by_cases e2:j=f
    ·simp only [if_pos e2]
     have hif:pl i≠.fr:=by rw [h2];simp
     have h5:=hn i hi hif
     have h6:=(mayS_iff.1 (h.may i hi hif).1).2.2.2.2.2.2
     rcases h6 with ⟨_,⟨_,h7⟩,_⟩ | ⟨_,_,_,_,⟨_,h7⟩,_⟩
     ·exact absurd h7 h3
     ·omega
    ·simp only [if_neg e2]
     rcases (nf j).1 hjn with h5 | h5
     ·exact absurd h5 e2
     ·exact h4 j hj h5
 case inj =>
  intro i j hi hj hni hnj he
  by_cases e:i=f
  ·by_cases e2:j=f
   ·rw [e,e2]
   ·simp only [if_pos e,if_neg e2] at he
    rcases (nf j).1 hnj with h5 | h5
    ·exact absurd h5 e2
    ·have:=hn j hj h5;omega
  ·rcases (nf i).1 hni with h4 | h4
   ·exact absurd h4 e
   by_cases e2:j=f
   ·simp only [if_neg e,if_pos e2] at he
    have:=hn i hi h4;omega
   ·simp only [if_neg e,if_neg e2] at he
    rcases (nf j).1 hnj with h5 | h5
    ·exact absurd h5 e2
    ·exact h.inj i j hi hj h4 h5 he
 case bir => have:=h.bir;omega
 case exs =>
  intro i hi hv
  rcases (lv_lay h hf hx2 i hi).1 hv with e | h2
  ·simp only [if_pos e];rw [e];exact put_mem.2 (.inl rfl)
  ·have e:=off i h2.nf.1
   simp only [if_neg e]
   exact put_mem.2 (.inr (wo_mem.2 ⟨h.exs i hi h2,e⟩))
 case exd =>
  intro e he
  rcases put_mem.1 he with rfl | he
  ·exact ⟨tf,fun _ _ => by simp⟩
  ·obtain ⟨h1,h2⟩:=wo_mem.1 he
   refine ⟨(h.exd e h1).1,fun h3 h4 => ?_⟩
   simp only [if_neg h2] at h4 ⊢
   rcases (nf e.1).1 h3 with h5 | h5
   ·exact absurd h5 h2
   ·exact (h.exd e h1).2 h5 h4
 case exn => exact put_nd (wo_nd h.exn f) (fun e he => (wo_mem.1 he).2)
 case exo => exact put_so (wo_so h.exo f)
end
end Fr
end
end Go.Proofs.YtimhglmfckfclaaGreat
