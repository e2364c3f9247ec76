/- Parts of the proof. -/
import Derived.Test.YtimhglmfckfclaaGreatM38
set_option linter.unusedVariables false
set_option linter.unusedSimpArgs false
set_option maxRecDepth 100000
set_option maxHeartbeats 16000000
namespace Go.Proofs.YtimhglmfckfclaaGreat
section
open Go.RowKit Go.Maps
namespace Fr
open Vw (Sess)
open Ex (Ent wo ExpAt)
abbrev Vr:=Nat × Array Value × TypeId
def VrAt (w0:World) (P:Pa) (F:Nat->Prop) (v:Value) (W:World) (x:Vr):Prop:=W.heap[x.1]? = some (.cells x.2.1 x.2.2 (0,0))/\¬ Fo P F x.1/\v.ownBlock≠some x.1/\w0.heap.size<=x.1
structure LawAt (w0:World) (lo:Nat) (P:Pa) (st:FS) (nw:Nat) (F:Nat->Prop) (v:Value) (l:List Kn) (xs:List Vr) (W:World):Prop where
 fa:ForAt lo P st nw F W
 row:W.ownsRow w0.heap.size 31 5 v l.length (allK l)
 ap:∀ b,v.ownBlock=some b->¬ Fo P F b
 bel:Below w0.heap.size w0 W
 lo_:w0.heap.size<=lo
 vrs:∀ x ∈ xs,VrAt w0 P F v W x
section
variable {w0:World} {lo:Nat} {P:Pa} {st st1 st2:FS} {nw c N M:Nat} {F:Nat->Prop} {v v1:Value} {l:List Kn} {xs ys:List Vr} {W W' w1:World}
theorem LawAt.in_ (h:LawAt w0 lo P st nw F v l xs W):KIn W v l:=kIn_own h.row
theorem LawAt.sub (h:LawAt w0 lo P st nw F v l xs W) (hs:∀ x ∈ ys,x ∈ xs):LawAt w0 lo P st nw F v l ys W:=⟨h.fa,h.row,h.ap,h.bel,h.lo_,fun x hx => h.vrs x (hs x hx)⟩
theorem LawAt.only {G:Nat->Prop} (h:LawAt w0 lo P st nw F v l xs W) (ho:Only G W W') (h0:∀ k,k<w0.heap.size->¬ G k) (h1:∀ k,Fo P F k->¬ G k) (h2:∀ b,v.ownBlock=some b->¬ G b) (h3:∀ x ∈ xs,¬ G x.1):LawAt w0 lo P st nw F v l xs W' :=
 ⟨h.fa.only ho h1,own_stay h.row (fun b e => ho.block b (h.row.lt b e).2 (h2 b e)),h.ap,h.bel.trans (ho.below h.bel.size h0),h.lo_,fun x hx => by
  obtain ⟨k1,k2,k3,k4⟩:=h.vrs x hx
  exact ⟨(ho.block _ (zx k1) (h3 x hx)).trans k1,k2,k3,k4⟩⟩
theorem LawAt.below (h:LawAt w0 lo P st nw F v l xs W) (hb:Below W.heap.size W W'):LawAt w0 lo P st nw F v l xs W':=h.only (G:=fun _ => False) (Only.of_below hb) (fun _ _ h => h) (fun _ _ h => h) (fun _ _ h => h) (fun _ _ h => h)
theorem LawAt.to (h:LawAt w0 lo P st nw F v l xs W) (h2:FoTo lo P st2 c nw F W W'):∃ n2 F2,n2<=nw+c/\nw<=n2/\LawAt w0 lo P st2 n2 F2 v l xs W':=by
 obtain ⟨n2,F2,a1,a2,hf,ho,hn⟩:=h2
 have hk:∀ b,b<W.heap.size->¬ Fo P F b->¬ Fo P F2 b:=fun b hb hF => Fo.new hn hF hb
 exact ⟨n2,F2,a2,a1,hf,own_stay h.row (fun b e => ho.block b (h.row.lt b e).2 (h.ap b e)),fun b e => hk b (h.row.lt b e).2 (h.ap b e),h.bel.trans (ho.below h.bel.size (fun i hi hF => by have:=(h.fa.lt hF).1;have:=h.lo_;omega)),h.lo_,fun x hx => by
  obtain ⟨k1,k2,k3,k4⟩:=h.vrs x hx
  have hl:=(zx k1)
  exact ⟨(ho.block _ hl k2).trans k1,hk _ hl k2,k3,k4⟩⟩
theorem LawAt.alloc (h:LawAt w0 lo P st nw F v l xs W) (cs:Array Value) (t:TypeId):LawAt w0 lo P st nw F v l ((W.heap.size,cs,t) :: xs) (W.alloc (.cells cs t)):=by
 have h1:=h.below ((Below.refl W.heap.size W).alloc (Nat.le_refl _) (.cells cs t))
 refine ⟨h1.fa,h1.row,h1.ap,h1.bel,h1.lo_,fun x hx => ?_⟩
 rcases List.mem_cons.1 hx with rfl | hx
 ·exact ⟨World.alloc_heap_new _ _,fun hf => Nat.lt_irrefl _ (h.fa.lt hf).2,fun e => Nat.lt_irrefl _ (h.row.lt _ e).2,h.bel.size⟩
 ·exact h1.vrs x hx
theorem LawAt.set {b:Nat} {Z:Array Value} {t:TypeId} (h:LawAt w0 lo P st nw F v l ((b,Z,t) :: xs) W) (cs:List Value) (hz:Z.size=cs.length) (hx:∀ x ∈ xs,x.1≠b):LawAt w0 lo P st nw F v l ((b,cs.toArray,t) :: xs) (W.setCells b 0 cs):=by
 obtain ⟨k1,k2,k3,k4⟩:=h.vrs (b,Z,t) (List.mem_cons_self ..)
 have ho:Only (fun k => k=b) W (W.setCells b 0 cs):=only_cells _ _ _ (Only.refl _ _)
 have h1:=(h.sub (ys:=xs) (fun x hx => List.mem_cons_of_mem _ hx)).only ho (fun k hk e => by subst e;have:w0.heap.size<=k:=k4;omega) (fun k hk e => by subst e;exact k2 hk) (fun k hk e => by subst e;exact k3 hk) hx
 refine ⟨h1.fa,h1.row,h1.ap,h1.bel,h1.lo_,fun x hx2 => ?_⟩
 rcases List.mem_cons.1 hx2 with rfl | hx2
 ·refine ⟨?_,k2,k3,k4⟩
  have:=Ag.setCells_row b t cs 0 Z W k1
  rwa [Ag.put_all hz] at this
 ·exact h1.vrs x hx2
theorem LawAt.push {k:Kn} {o1:Obj} (h:LawAt w0 lo P st nw F v l xs W) (hown':w1.ownsRow w0.heap.size 31 5 v1 (l.length+1) (allK l ++ k.cells)) (hgrow:(W.alloc o1).grownBy w1 v.ownBlock) (hat:v1.ownBlock=v.ownBlock\/v1.ownBlock=some (W.alloc o1).heap.size) :
  LawAt w0 lo P st nw F v1 (l ++ [k]) xs w1:=by
 have ho:Only (fun b => v.ownBlock=some b) W w1:=((Only.refl _ W).alloc o1).grown hgrow (fun k hk e => e)
 have hnew:∀ b,v1.ownBlock=some b->v.ownBlock=some b\/W.heap.size<=b:=fun b e => by
  rcases hat with h7 | h7
  ·exact .inl (h7.symm.trans e)
  ·have e2:b=(W.alloc o1).heap.size:=Option.some.inj (e.symm.trans h7)
   exact .inr (by rw [e2];simp)
 refine ⟨h.fa.only ho (fun b hf e => h.ap b e hf),by rw [List.length_append,List.length_singleton,allK_snoc];exact hown',fun b e hf => ?_,h.bel.trans (ho.below h.bel.size (fun i hi e => by have:=(h.row.lt i e).1;omega)),h.lo_,fun x hx => ?_⟩
 ·rcases hnew b e with e2 | e2
  ·exact h.ap b e2 hf
  ·have:=(h.fa.lt hf).2;omega
 ·obtain ⟨k1,k2,k3,k4⟩:=h.vrs x hx
  have hl:=(zx k1)
  exact ⟨(ho.block _ hl k3).trans k1,k2,fun e => (hnew _ e).elim k3 (fun e2 => by omega),k4⟩
theorem own_set {base e size n:Nat} {g cap:Nat} {xs:List Value} (h:W.ownsRow base e size (.slice (some ⟨g,0,none⟩) n cap) n xs) (j:Nat) (hj:j<n * size) (u:Value):(W.setCell ⟨g,j,none⟩ u).ownsRow base e size (.slice (some ⟨g,0,none⟩) n cap) n (xs.set j u):=by
 refine ⟨by rw [List.length_set];exact h.1,?_⟩
 rcases h.2 with ⟨h1,_⟩ | ⟨g',cap',cur,h1,h2,h3,h4,h5,h6,h7⟩
 ·cases h1
 ·cases h1
  refine .inr ⟨g,cap,cur.setIfInBounds j u,rfl,h2,heap_setCell_same _ _ _ _ _ _ h3,h4,h5,by simp [h6],?_⟩
  rw [<- h7,Array.toList_setIfInBounds,List.take_set]
theorem allK_end {l:List Kn} {i:Nat} (hi:i<l.length):allK (endK l i)=(allK l).set (i * 5+4) (.bool true):=by
 induction l generalizing i with
 | nil => simp at hi
 | cons a r ih =>
  have hl:(allK (a :: r))=a.cells ++ allK r:=rfl
  have hc:a.cells.length=5:=rfl
  cases i with
  | zero =>
   have e:endK (a :: r) 0={ a with ended:=true } :: r:=rfl
   rw [e,hl,show (0 * 5+4)=4 from rfl,List.set_append_left _ _ (by rw [hc];decide)]
   rfl
  | succ i =>
   have hi':i<r.length:=by simpa using hi
   have e:endK (a :: r) (i+1)=a :: endK r i:=by
    unfold endK
    rw [List.set_cons_succ]
    rfl
   rw [e,hl,List.set_append_right _ _ (by rw [hc];omega),hc,show (i+1) * 5+4-5=i * 5+4 by omega,<- ih hi']
   rfl
theorem LawAt.ended {g cap:Nat} (h:LawAt w0 lo P st nw F (.slice (some ⟨g,0,none⟩) l.length cap) l xs W) {i:Nat} (hi:i<l.length):LawAt w0 lo P st nw F (.slice (some ⟨g,0,none⟩) l.length cap) (endK l i) xs (W.setCell ⟨g,i * 5+4,none⟩ (.bool true)):=by
 have ho:Only (fun b => b=g) W (W.setCell ⟨g,i * 5+4,none⟩ (.bool true)):=(Only.refl (fun b => b=g) W).setCell (p:=⟨g,i * 5+4,none⟩) (fun _ => rfl) _
 have hg:(Value.slice (some ⟨g,0,none⟩) l.length cap).ownBlock=some g:=rfl
 refine ⟨h.fa.only ho (fun b hf e => by subst e;exact h.ap _ hg hf),by rw [endK_len,allK_end hi];exact own_set h.row _ (by omega) _,h.ap,h.bel.trans (ho.below h.bel.size (fun i hi e => by subst e;have:=(h.row.lt _ hg).1;omega)),h.lo_,fun x hx => ?_⟩
 obtain ⟨k1,k2,k3,k4⟩:=h.vrs x hx
 exact ⟨(ho.block _ (zx k1) (fun e => k3 (by rw [hg,e]))).trans k1,k2,k3,k4⟩
end
end Fr
end
section
open Go.RowKit Go.Maps Go.Shelf
namespace Fr
open Vw (Sess)
attribute [local go_sem] Oper.semAt_some
structure Actv where
 kind:Int
 n:Int
 ls:Int
 lb:Int
 r:Req
 s:Sess
def Actv.cells (x:Actv):List Value:=[.int .i64 x.kind,.int .i64 x.n,.int .i64 x.ls,.int .i64 x.lb] ++ x.r.cells ++ x.s.cells
theorem act_one (x:Actv):∀ u ∈ x.cells,u.oneCell'=true:=by
 intro u hu
 simp only [Actv.cells,Req.cells,Vw.Sess.cells,List.mem_append,List.mem_cons,List.not_mem_nil,or_false] at hu
 rcases hu with ((rfl | rfl | rfl | rfl) | (rfl | rfl | rfl | rfl | rfl)) | (rfl | rfl | rfl | rfl | rfl | rfl | rfl | rfl | rfl | rfl | rfl | rfl) <;> rfl
def longA (x:Actv):Bool:=decide (65536<x.r.user.size) || (decide (65536<x.r.label.size) || (decide (65536<x.s.user.size) || decide (65536<x.s.label.size)))
theorem longA_no {x:Actv} (h:longA x=false):x.r.user.size<=65536/\x.r.label.size<=65536/\x.s.user.size<=65536/\x.s.label.size<=65536:=by
 unfold longA at h
 simp only [Bool.or_eq_false_iff,decide_eq_false_iff_not] at h
 omega
def ActIn (W:World) (v:Value) (xs:List Actv):Prop :=
 ∃ p cap,v = .slice p xs.length cap/\∀ (j:Nat) (hj:j<xs.length),∃ g o,p=some ⟨g,o,none⟩/\g<W.heap.size/\W.rangeAt g (o+j * 21) (xs[j]).cells
theorem ActIn.below {w w':World} {v:Value} {xs:List Actv} (h:ActIn w v xs) (hb:Below w.heap.size w w'):ActIn w' v xs:=by
 obtain ⟨p,cap,rfl,h⟩:=h
 refine ⟨p,cap,rfl,fun j hj => ?_⟩
 obtain ⟨g,o,h1,h2,h3⟩:=h j hj
 exact ⟨g,o,h1,Nat.lt_of_lt_of_le h2 hb.size,fun i u hi => (hb.cell (p:=⟨g,o+j * 21+i,none⟩) h2).trans (h3 i u hi)⟩
theorem long_any (x:Actv) (b1:x.r.user.size<=9223372036854775807) (b2:x.r.label.size<=9223372036854775807) (b3:x.s.user.size<=9223372036854775807) (b4:x.s.label.size<=9223372036854775807) (w:World) :
  Calls Tryz.prog 18 #[.agg x.cells.toArray] w fun e w' => e = .returned (.bool (longA x))/\Below w.heap.size w w':=by
 obtain ⟨cs,hcs⟩:∃ cs,cs=x.cells:=⟨_,rfl⟩
 obtain ⟨W1,hW1⟩:∃ W1,W1=w.alloc (.cells cs.toArray 57):=⟨_,rfl⟩
 have HB1:Hid (Below w.heap.size w W1):=by show Below _ _ _;rw [hW1];exact (Below.refl _ _).alloc (Nat.le_refl _) _
 have hr:W1.heap[w.heap.size]? = some (.cells cs.toArray 57 (0,0)):=by rw [hW1];exact World.alloc_heap_new _ _
 obtain ⟨u1,hu1⟩:∃ u,u=x.r.user:=⟨_,rfl⟩
 obtain ⟨u2,hu2⟩:∃ u,u=x.r.label:=⟨_,rfl⟩
 obtain ⟨u3,hu3⟩:∃ u,u=x.s.user:=⟨_,rfl⟩
 obtain ⟨u4,hu4⟩:∃ u,u=x.s.label:=⟨_,rfl⟩
 have c1:W1.cell? ⟨w.heap.size,4,none⟩=some (.string u1):=by rw [zc hr,hcs,hu1];rfl
 have c2:W1.cell? ⟨w.heap.size,5,none⟩=some (.string u2):=by rw [zc hr,hcs,hu2];rfl
 have c3:W1.cell? ⟨w.heap.size,14,none⟩=some (.string u3):=by rw [zc hr,hcs,hu3];rfl
 have c4:W1.cell? ⟨w.heap.size,15,none⟩=some (.string u4):=by rw [zc hr,hcs,hu4];rfl
 obtain ⟨L,hL⟩:∃ L,L=longA x:=⟨_,rfl⟩
 rw [<- hL,<- hcs]
 have HLQ:Hid (L=(decide (65536<u1.size) || (decide (65536<u2.size) || (decide (65536<u3.size) || decide (65536<u4.size))))):=by show _=_;rw [hL,hu1,hu2,hu3,hu4];rfl
 rw [<- hu1] at b1;rw [<- hu2] at b2;rw [<- hu3] at b3;rw [<- hu4] at b4
 have HCL:Hid (cs.length=21):=by show _=_;rw [hcs];rfl
 have HW1:=zh hW1
 clear hcs hW1 hr hu1 hu2 hu3 hu4 hL
 go_enter Tryz.func18,Tryz.ntmps18
 go_upto_region 1 with (refine wpList_box_agg (by rfl) 57 (.tmp 0) (by rfl) cs (by rfl) ?_)
 rw [<- HW1.out]
 by_cases k1:65536<u1.size
 ·have d1:decide (65536<u1.size)=true:=decide_eq_true k1
  have HQ:Hid (L=true):=by show _=_;rw [HLQ.out,d1];rfl
  have e1:(65536:Int)<(u1.size:Int):=by omega
  clear k1
  go_wp2
  go_ret
  exact ⟨by rw [HQ.out];rfl,HB1.out⟩
 have d1:decide (65536<u1.size)=false:=decide_eq_false k1
 have e1:(u1.size:Int)<=(65536:Int):=by omega
 clear k1
 by_cases k2:65536<u2.size
 ·have d2:decide (65536<u2.size)=true:=decide_eq_true k2
  have HQ:Hid (L=true):=by show _=_;rw [HLQ.out,d1,d2];rfl
  have e2:(65536:Int)<(u2.size:Int):=by omega
  clear k2
  go_wp2
  go_ret
  exact ⟨by rw [HQ.out];rfl,HB1.out⟩
 have d2:decide (65536<u2.size)=false:=decide_eq_false k2
 have e2:(u2.size:Int)<=(65536:Int):=by omega
 clear k2
 by_cases k3:65536<u3.size
 ·have d3:decide (65536<u3.size)=true:=decide_eq_true k3
  have HQ:Hid (L=true):=by show _=_;rw [HLQ.out,d1,d2,d3];rfl
  have e3:(65536:Int)<(u3.size:Int):=by omega
  clear k3
  go_wp2
  go_ret
  exact ⟨by rw [HQ.out];rfl,HB1.out⟩
 have d3:decide (65536<u3.size)=false:=decide_eq_false k3
 have e3:(u3.size:Int)<=(65536:Int):=by omega
 clear k3
 by_cases k4:65536<u4.size
 ·have d4:decide (65536<u4.size)=true:=decide_eq_true k4
  have HQ:Hid (L=true):=by show _=_;rw [HLQ.out,d1,d2,d3,d4];rfl
  have e4:(65536:Int)<(u4.size:Int):=by omega
  clear k4
  go_wp2
  go_ret
  exact ⟨by rw [HQ.out];rfl,HB1.out⟩
 ·have d4:decide (65536<u4.size)=false:=decide_eq_false k4
  have HQ:Hid (L=false):=by show _=_;rw [HLQ.out,d1,d2,d3,d4];rfl
  have e4:(u4.size:Int)<=(65536:Int):=by omega
  have f1:decide ((65536:Int)<(u1.size:Int))=false:=decide_eq_false (by omega)
  have f2:decide ((65536:Int)<(u2.size:Int))=false:=decide_eq_false (by omega)
  have f3:decide ((65536:Int)<(u3.size:Int))=false:=decide_eq_false (by omega)
  have f4:decide ((65536:Int)<(u4.size:Int))=false:=decide_eq_false (by omega)
  clear k4
  go_wp2
  go_ret
  exact ⟨by rw [HQ.out];rfl,HB1.out⟩
end Fr
end
end Go.Proofs.YtimhglmfckfclaaGreat
