/- Parts of the proof. -/
import Derived.Test.YtimhglmfckfclaaGreatDoorM5
import Derived.Shelf.Small.Utf8
import Derived.Shelf.Small.Bits
import Derived.Shelf.Small.Strs
import Derived.Shelf.Small.Wraps
import Derived.Shelf.Strconv.Itoa0
import Derived.Shelf.Strings.Search1
import Derived.Shelf.Strings.Runes
import Derived.Shelf.Bits.Mul64
import Derived.Shelf.Slices.Turned
import Derived.Ground.Names2Prog
import Derived.Shelf.Slices.SearchI
import Derived.Ground.SlbCloneProg
import Derived.Shelf.Bytes.SlClone
import Derived.Laws.CopyOwn
set_option linter.unusedVariables false
set_option linter.unusedSimpArgs false
set_option maxRecDepth 100000
set_option maxHeartbeats 16000000
namespace Go.Proofs.YtimhglmfckfclaaGreatDoor
section
open Go.RowKit
namespace Hp
theorem QAt.shorten {lo H hb ga ca gv cap:Nat} {L:List It} {ats:List Int} {w:World} {N:Nat} (hN:L.length=N+1) (hq:QAt lo H hb ga ca (.slice (some ⟨gv,0,none⟩) L.length cap) L ats w) :
  QAt lo H hb ga ca (.slice (some ⟨gv,0,none⟩) N cap) (L.take N) ats (w.setCell ⟨H,0,none⟩ (.slice (some ⟨gv,0,none⟩) N cap)):=by
 obtain ⟨n1,n2,n3,n4,n5,n6,n7,n8,n9,n10⟩:=hq.ne
 have hk:∀ j,j≠H->(w.setCell ⟨H,0,none⟩ (.slice (some ⟨gv,0,none⟩) N cap)).heap[j]? = w.heap[j]?:=fun j hj => Below.heap_setCell _ _ _ _ (by simpa using hj)
 have hgH:gv≠H:=fun e => n4 (by rw [e];rfl)
 have hrow:w.ownsRow lo 320 2 (.slice (some ⟨gv,0,none⟩) N cap) N (encL (L.take N)):=by
  obtain ⟨hl,h2⟩:=hq.row
  refine ⟨by rw [encL_len,List.length_take,hN];omega,?_⟩
  rcases h2 with ⟨h2,_⟩ | ⟨g',c',cur,e,h3,h4,h5,h6,h7,h8⟩
  ·cases h2
  ·obtain ⟨rfl,rfl⟩:gv=g'/\cap=c':=by simpa using e
   refine .inr ⟨gv,cap,cur,rfl,h3,h4,by omega,h6,h7,?_⟩
   rw [encL_take,<- h8,List.take_take,Nat.min_eq_left (by rw [hN];omega)]
 have hlen:(L.take N).length=N:=by rw [List.length_take,hN];omega
 refine ⟨?_,(hk hb (fun e => n1 e.symm)).trans hq.box,?_,?_,hq.loH,hq.loB⟩
 ·rw [heap_setCell_same w H 0 _ _ _ hq.top];rfl
 ·rw [hlen];exact ownsRow_setCell_other (a:=⟨H,0,none⟩) hrow (by simpa [Value.ownBlock] using hgH) _
 ·exact ownsRow_setCell_other (a:=⟨H,0,none⟩) hq.at_ (by simpa [Value.ownBlock] using n2) _
theorem Pos.weaken {ats:List Int} {L:List It} {n c:Nat} (h:Pos ats L n L.length):Pos ats L n c :=
 ⟨h.len,fun k hk _ => h.here k hk (by omega),h.gone⟩
theorem g_take {L:List It} {N k:Nat} (h:k<N):g (L.take N) k=g L k:=by
 unfold g
 rw [List.getD_eq_getElem?_getD,List.getD_eq_getElem?_getD,List.getElem?_take,if_pos h]
theorem Good.tail {x:It} {L:List It} {n:Nat} (h:Good (x :: L) n):Good L n :=
 ⟨(List.nodup_cons.1 (by simpa using h.nodup)).2,fun y hy => h.range y (List.mem_cons_of_mem _ hy)⟩
theorem Pos.cut {ats:List Int} {L:List It} {n a N:Nat} (hN:L.length=N+1) (h:Pos ats L n a) (hG:Good L n) (ha:a<N) (hg:ats.getD (g L a).1.toNat 0 = -1):Pos (ats.set (g L N).1.toNat (a:Int)) (cut L a) n N:=by
 have hr:=hG.range _ (g_mem (L:=L) (k:=N) (by omega))
 have hl:(g L N).1.toNat<ats.length:=by rw [h.len];omega
 have hc:L.length-1=N:=by omega
 have hgc:∀ k,k<N->g (Hp.cut L a) k=if k=a then g L N else g L k:=fun k hk => by
  have:=g_cut (L:=L) (a:=a) (k:=k) (by omega) (by omega)
  rw [hc] at this;exact this
 refine ⟨by simp [h.len],fun k hk _ => ?_,fun i hi hno => ?_⟩
 ·rw [cut_len,hc] at hk
  rw [hgc k hk,getD_set hl]
  by_cases e:k=a
  ·rw [if_pos e,if_pos rfl,e]
  ·rw [if_neg e]
   have hrk:=hG.range _ (g_mem (L:=L) (k:=k) (by omega))
   rw [if_neg (fun e2 => absurd (hG.inj (i:=k) (j:=N) (by omega) (by omega) (by omega)) (by omega))]
   exact h.here k (by omega) e
 ·have hno':∀ k,k<L.length->k≠a->(g L k).1≠(i:Int):=fun k hk hka => by
   by_cases e:k=N
   ·have:=hno a (by rw [cut_len,hc];exact ha)
    rw [hgc a ha,if_pos rfl] at this
    rw [e];exact this
   ·have:=hno k (by rw [cut_len,hc];omega)
    rw [hgc k (by omega),if_neg hka] at this;exact this
  have h1:=hno' N (by omega) (by omega)
  rw [getD_set hl,if_neg (by omega)]
  by_cases e:(g L a).1=(i:Int)
  ·rw [e] at hg;simpa using hg
  ·exact h.gone i hi (fun k hk => by
    by_cases e2:k=a
    ·rw [e2];exact e
    ·exact hno' k hk e2)
theorem Pos.cutLast {ats:List Int} {L:List It} {n N:Nat} (hN:L.length=N+1) (h:Pos ats L n N) (hg:ats.getD (g L N).1.toNat 0 = -1):Pos ats (L.take N) n N:=by
 have hlen:(L.take N).length=N:=by rw [List.length_take,hN];omega
 refine ⟨h.len,fun k hk hk2 => ?_,fun i hi hno => ?_⟩
 ·rw [hlen] at hk
  rw [g_take hk];exact h.here k (by omega) (by omega)
 ·by_cases e:(g L N).1=(i:Int)
  ·rw [e] at hg;simpa using hg
  ·exact h.gone i hi (fun k hk => by
    by_cases e2:k=N
    ·rw [e2];exact e
    ·have:=hno k (by rw [hlen];omega)
     rw [g_take (by omega)] at this;exact this)
def Dropped (lo H hb ga ca:Nat) (v:Value) (L:List It) (a n:Nat) (w:World) (e:Ending) (w':World):Prop :=
 (∃ u,e = .returned u)/\∃ v' L' ats,QAt lo H hb ga ca v' L' ats w'/\List.Perm (g L a :: L') L/\Pos ats L' n L'.length/\(HeapOrd L->HeapOrd L')/\Only (Ft H ga v) w w'/\∀ k,v'.ownBlock=some k->v.ownBlock=some k
theorem drop_any (lo H hb ga ca:Nat) (v:Value) (L:List It) (ats:List Int) (n a:Nat) (w:World) (hq:QAt lo H hb ga ca v L ats w) (hG:Good L n) (hP:Pos ats L n a) (ha:a<L.length) (hgone:ats.getD (g L a).1.toNat 0 = -1) (hl:(L.length:Int)<=1048576) :
  Calls Tryz.prog 266 #[.pointer (some ⟨H,0,none⟩),.int .i64 a] w (Dropped lo H hb ga ca v L a n w):=by
 obtain ⟨gv,cap,rfl,r1,r2,r3,r4,r5,-⟩:=row_cells hq.row rfl (by omega)
 obtain ⟨N,hN⟩:∃ N,L.length=N+1:=⟨L.length-1,by omega⟩
 have c1:=hq.c_l
 obtain ⟨c2,c3⟩:=r4 N (by omega)
 obtain ⟨x,hx⟩:∃ x,x=g L N:=⟨_,rfl⟩
 rw [<- hx] at c2 c3
 have hbl:Below w.heap.size w (w.alloc (.cells #[.int .i64 x.1,.int .i64 x.2] 320)):=(Below.refl _ _).alloc (Nat.le_refl _) _
 have hq2:=hq.below hbl
 have c4:=hq2.c_l
 have c5:=frozen_of_row _ _ 0 _ _ hq2.top
 have hq3:=QAt.shorten hN hq2
 have hne:=hq2.ne
 have hgb:H≠w.heap.size/\gv≠w.heap.size/\ga≠w.heap.size:=by have:=hq.ne.2.2.2.2.2.2;exact ⟨by omega,by omega,by omega⟩
 have k0:((w.alloc (.cells #[.int .i64 x.1,.int .i64 x.2] 320)).setCell ⟨H,0,none⟩ (.slice (some ⟨gv,0,none⟩) N cap)).cell? ⟨w.heap.size,0,none⟩=some (.int .i64 x.1):=by
  refine (World.cell?_of_block (w:=w.alloc (.cells #[.int .i64 x.1,.int .i64 x.2] 320)) (Below.heap_setCell _ _ _ _ (by simpa using fun e => hgb.1 e.symm))).trans (by simp)
 have k1:((w.alloc (.cells #[.int .i64 x.1,.int .i64 x.2] 320)).setCell ⟨H,0,none⟩ (.slice (some ⟨gv,0,none⟩) N cap)).cell? ⟨w.heap.size,1,none⟩=some (.int .i64 x.2):=by
  refine (World.cell?_of_block (w:=w.alloc (.cells #[.int .i64 x.1,.int .i64 x.2] 320)) (Below.heap_setCell _ _ _ _ (by simpa using fun e => hgb.1 e.symm))).trans (by simp)
 have HO:Hid (Only (Ft H ga (.slice (some ⟨gv,0,none⟩) L.length cap)) w ((w.alloc (.cells #[.int .i64 x.1,.int .i64 x.2] 320)).setCell ⟨H,0,none⟩ (.slice (some ⟨gv,0,none⟩) N cap))) :=
  ((Only.refl _ _).alloc _).setCell (p:=⟨H,0,none⟩) (fun _ => .inl rfl) _
 have HF:Hid (∀ M i,Ft H ga (.slice (some ⟨gv,0,none⟩) M cap) i->Ft H ga (.slice (some ⟨gv,0,none⟩) L.length cap) i):=fun M i hi => hi
 have HQ3:=zh hq3
 have HX:=zh hx;have HG:=zh hG;have HP:=zh hP;have HGN:=zh hgone;have HN:=zh hN
 have HK0:=zh k0;have HK1:=zh k1
 rw [hN] at c1 c4 hl
 have b1:(0:Int)<=(N:Int):=by omega
 have b2:(N:Int)<((N+1:Nat):Int):=by omega
 have b3:(N:Int)<=(cap:Int):=by omega
 have v1:IntKind.i64.wrap (N:Int)=(N:Int):=IntWalk.i64_in _ (by omega)
 have b4:(0:Int)<=(a:Int):=by omega
 have HA:Hid (a<N+1):=by show _<_;omega
 have HHL:Hid ((N:Int)<=1048575):=by show _<=_;omega
 clear hq hG hP ha hgone r1 r2 r3 r4 r5 hbl hq2 hq3 hne hgb hx hN hl k0 k1
 by_cases ha:a<N
 ·have b5:(a:Int)<(N:Int):=by omega
  have HAN:=zh ha
  clear ha
  have k0:=HK0.out;have k1:=HK1.out
  go_enter Tryz.func266,Tryz.ntmps266
  go_wp2_with fail
  obtain ⟨W,hW⟩:∃ X,X=(w.alloc (.cells #[.int .i64 x.1,.int .i64 x.2] 320)).setCell ⟨H,0,none⟩ (.slice (some ⟨gv,0,none⟩) N cap):=⟨_,rfl⟩
  rw [<- hW] at HQ3 HO k0 k1 ⊢
  clear hW HK0 HK1
  have hlen:(L.take N).length=N:=by rw [List.length_take,HN.out];omega
  have hcut:(L.take N).set a x=cut L a:=by
   unfold cut
   rw [show L.length-1=N by have:=HN.out;omega,HX.out]
  have hxr:0<=x.1/\x.1<(n:Int):=by rw [HX.out];exact HG.out.range _ (g_mem (by rw [HN.out];omega))
  have hs:=set_any lo H hb ga ca _ _ ats W HQ3.out x hxr.1 (by rw [HP.out.len];exact hxr.2) a (by rw [hlen];exact HAN.out)
  rw [hcut] at hs
  have HS:=zh hs
  have hpc:=Pos.cut HN.out HP.out HG.out HAN.out HGN.out
  rw [<- HX.out] at hpc
  have hcl:(cut L a).length=N:=by rw [cut_len,HN.out];omega
  have hperm:=cut_perm (L:=L) (a:=a) (by rw [HN.out];have:=HAN.out;omega)
  have hgc:Good (cut L a) n:=(HG.out.perm hperm).tail
  have HPC:=zh hpc;have HPERM:=zh hperm;have HGC:=zh hgc;have HCL:=zh hcl
  clear hs hpc hperm hgc hcl hcut hlen hxr
  refine HS.out.mono ?_
  rintro e w3 ⟨⟨u3,rfl⟩,hq3,ho3⟩
  have hpc2:Pos (ats.set x.1.toNat a) (cut L a) n a:=Pos.weaken (by rw [HCL.out];exact HPC.out)
  have HD:=zh (down_any lo H hb ga ca _ _ _ n a w3 hq3 HGC.out hpc2 (by rw [HCL.out];exact HAN.out) (by rw [HCL.out];have:=HHL.out;omega))
  have HO3:=zh (HO.out.trans ho3 (fun i _ h => HF.out _ i h))
  clear hq3 ho3 hpc2 k0 k1
  go_wp2_with fail
  refine HD.out.mono ?_
  rintro e w4 ⟨⟨u4,rfl⟩,L4,az4,hq4,hp4,hpos4,⟨ho4,hst4⟩,hon4⟩
  have hl4:L4.length=N:=by rw [hp4.length_eq,HCL.out]
  have HU:=zh (up_any lo H hb ga ca _ L4 az4 n a w4 hq4 (HGC.out.perm hp4) hpos4.weaken (by rw [hl4];exact HAN.out) (by rw [hl4];have:=HHL.out;omega))
  have HO4:=zh (HO3.out.trans hon4 (fun i _ h => HF.out _ i h))
  have HH4:Hid (HeapOrd L->UpOrd L4 a):=fun h => by
   have hN:=HN.out;have hA:=HAN.out
   have hlast:L.length-1=N:=by omega
   by_cases hc:a=0\/ahd (g L N) (g L (par a))=false
   ·exact UpOrd.of (ho4 (cut_down h (by omega) (by rw [hlast];exact hc))) a (by rw [hl4];exact hA)
   ·have h0:0<a:=by omega
    have h1:ahd (g L (L.length-1)) (g L (par a))=true:=by
     rw [hlast]
     cases hh:ahd (g L N) (g L (par a)) with
     | true => rfl
     | false => exact absurd (.inr hh) hc
    obtain ⟨s1,s2⟩:=cut_still h (by omega) h0 h1
    rw [hst4 s1];exact s2
  have HP4:=zh hp4
  clear hq4 hp4 hpos4 ho4 hst4 hon4 hl4
  go_wp2_with fail
  refine HU.out.mono ?_
  rintro e w5 ⟨⟨u5,rfl⟩,L5,az5,hq5,hp5,hpos5,hord5,hon5⟩
  have HR:Hid (Dropped lo H hb ga ca (.slice (some ⟨gv,0,none⟩) L.length cap) L a n w (.returned (.tuple #[])) w5) :=
   ⟨⟨_,rfl⟩,_,L5,az5,hq5,((hp5.trans HP4.out).cons _).trans HPERM.out,hpos5,fun h => hord5 (HH4.out h),HO4.out.trans hon5 (fun i _ h => HF.out _ i h),fun k hk => hk⟩
  clear hq5 hp5 hpos5 hord5 hon5
  go_wp2
  go_end0
  exact HR.out
 ·have b5:(N:Int)<=(a:Int):=by omega
  have hN2:a=N:=by have:=HA.out;omega
  have HAN:=zh hN2
  clear ha hN2
  go_enter Tryz.func266,Tryz.ntmps266
  have HR:Hid (∀ u,Dropped lo H hb ga ca (.slice (some ⟨gv,0,none⟩) L.length cap) L a n w (.returned u) ((w.alloc (.cells #[.int .i64 x.1,.int .i64 x.2] 320)).setCell ⟨H,0,none⟩ (.slice (some ⟨gv,0,none⟩) N cap))):=fun u => by
   have hlen:(L.take N).length=N:=by rw [List.length_take,HN.out];omega
   have hlast:L.length-1=N:=by have:=HN.out;omega
   have hp:=last_perm (L:=L) (by rw [HN.out];omega)
   rw [hlast] at hp
   have hpos:=HP.out;have hgn:=HGN.out
   rw [HAN.out] at hpos hgn
   exact ⟨⟨_,rfl⟩,_,L.take N,ats,HQ3.out,by rw [HAN.out];exact hp,by rw [hlen];exact Pos.cutLast HN.out hpos hgn,fun h => h.take N,HO.out,fun k hk => hk⟩
  go_wp2
  go_end0
  exact HR.out _
end Hp
end
section
open Go.RowKit
namespace Hp
theorem Good.len {L:List It} {n:Nat} (h:Good L n):L.length<=n:=by
 have h1:(L.map Prod.fst) ⊆ (List.range n).map fun (k:Nat) => (k:Int):=fun i hi => by
  obtain ⟨x,hx,rfl⟩:=List.mem_map.1 hi
  have:=h.range x hx
  exact List.mem_map.2 ⟨x.1.toNat,List.mem_range.2 (by omega),by omega⟩
 have:=List.Nodup.length_le_of_subset h.nodup h1
 simpa using this
def keyOf (L:List It) (i:Int):Option Int:=(L.find? fun x => x.1 == i).map Prod.snd
theorem keyOf_some {L:List It} {n:Nat} (h:Good L n) {x:It} (hx:x ∈ L):keyOf L x.1=some x.2:=by
 unfold keyOf
 cases hf:L.find? fun y => y.1 == x.1 with
 | none => exact absurd (List.find?_eq_none.1 hf x hx) (by simp)
 | some y =>
  have h1:=List.find?_some hf
  have h2:=List.mem_of_find?_eq_some hf
  obtain ⟨i,hi,e1⟩:=g_of_mem h2
  obtain ⟨j,hj,e2⟩:=g_of_mem hx
  have:i=j:=h.inj hi hj (by rw [e1,e2];simpa using h1)
  subst this
  rw [<- e1,e2];rfl
theorem keyOf_none {L:List It} {i:Int} (h:∀ x ∈ L,x.1≠i):keyOf L i=none:=by
 unfold keyOf
 rw [List.find?_eq_none.2 (fun x hx => by simpa using h x hx)];rfl
def without (L:List It) (i:Int):List It:=L.filter fun x => x.1 != i
theorem without_none {L:List It} {i:Int} (h:∀ x ∈ L,x.1≠i):without L i=L:=by
 unfold without
 rw [List.filter_eq_self]
 intro x hx;simpa using h x hx
theorem without_perm {L L':List It} (h:List.Perm L L') (i:Int):List.Perm (without L i) (without L' i):=h.filter _
theorem without_cons {L:List It} {n:Nat} {x:It} (h:Good (x :: L) n):without (x :: L) x.1=L:=by
 have h1:∀ y ∈ L,y.1≠x.1:=fun y hy e => by
  have:=List.nodup_cons.1 (show (x.1 :: L.map Prod.fst).Nodup from h.nodup)
  exact this.1 (List.mem_map.2 ⟨y,hy,e⟩)
 unfold without
 rw [List.filter_cons,if_neg (by simp)]
 exact without_none h1
theorem Good.without {L:List It} {n:Nat} (h:Good L n) (i:Int):Good (without L i) n :=
 ⟨h.nodup.sublist ((List.filter_sublist).map _),fun x hx => h.range x ((List.mem_filter.1 hx).1)⟩
theorem Good.cons {L:List It} {n:Nat} (h:Good L n) {x:It} (h0:0<=x.1) (h1:x.1<(n:Int)) (hn:∀ y ∈ L,y.1≠x.1):Good (x :: L) n :=
 ⟨by rw [List.map_cons,List.nodup_cons];exact ⟨fun hm => by obtain ⟨y,hy,e⟩:=List.mem_map.1 hm;exact hn y hy e,h.nodup⟩,fun y hy => by
  rcases List.mem_cons.1 hy with rfl | hy
  ·exact ⟨h0,h1⟩
  ·exact h.range y hy⟩
def HeapAt (lo H n:Nat) (L:List It) (F:Nat->Prop) (w:World):Prop :=
 ∃ hb ga ca v ats,QAt lo H hb ga ca v L ats w/\Good L n/\Pos ats L n L.length/\HeapOrd L/\∀ k,F k↔(k=hb\/Ft H ga v k)
theorem HeapAt.only {lo H n:Nat} {L:List It} {F G:Nat->Prop} {w w':World} (h:HeapAt lo H n L F w) (ho:Only G w w') (hFG:∀ k,F k->¬ G k):HeapAt lo H n L F w':=by
 obtain ⟨hb,ga,ca,v,ats,h1,h2,h3,h4,h5⟩:=h
 refine ⟨hb,ga,ca,v,ats,h1.only ho (fun k hk => ⟨fun e => ?_,fun e => ?_,fun e => ?_,fun e => ?_⟩),h2,h3,h4,h5⟩
 ·exact hFG k ((h5 k).2 (.inr (.inl e))) hk
 ·exact hFG k ((h5 k).2 (.inl e)) hk
 ·exact hFG k ((h5 k).2 (.inr (.inr (.inl e)))) hk
 ·exact hFG k ((h5 k).2 (.inr (.inr (.inr e)))) hk
theorem HeapAt.below {lo H n:Nat} {L:List It} {F:Nat->Prop} {w w':World} (h:HeapAt lo H n L F w) (hb:Below w.heap.size w w'):HeapAt lo H n L F w' :=
 h.only (Only.of_below (F:=fun _ => False) hb) (fun _ _ h => h)
theorem HeapAt.lt {lo H n:Nat} {L:List It} {F:Nat->Prop} {w:World} (h:HeapAt lo H n L F w) (k:Nat) (hk:F k):lo<=k/\k<w.heap.size:=by
 obtain ⟨hb,ga,ca,v,ats,h1,h2,h3,h4,h5⟩:=h
 obtain ⟨_,_,_,_,_,_,n1,n2,n3,n4⟩:=h1.ne
 rcases (h5 k).1 hk with e | e | e | e
 ·rw [e];exact ⟨h1.loB,n2⟩
 ·rw [e];exact ⟨h1.loH,n1⟩
 ·rw [e];exact ⟨n4,n3⟩
 ·exact h1.row.lt k e
theorem HeapAt.good {lo H n:Nat} {L:List It} {F:Nat->Prop} {w:World} (h:HeapAt lo H n L F w):Good L n:=by
 obtain ⟨hb,ga,ca,v,ats,h1,h2,h3,h4,h5⟩:=h;exact h2
def PlaceIs (L:List It) (i p:Int):Prop:=(∃ k,k<L.length/\(g L k).1=i/\p=(k:Int))\/((∀ x ∈ L,x.1≠i)/\p = -1)
theorem place_any (lo H hb ga ca n:Nat) (v:Value) (L:List It) (ats:List Int) (w:World) (hq:QAt lo H hb ga ca v L ats w) (hG:Good L n) (hP:Pos ats L n L.length) (hn:(n:Int)<=65536) (i:Int) :
  Calls Tryz.prog 265 #[.pointer (some ⟨H,0,none⟩),.int .i64 i] w fun e w' => ∃ p,e = .returned (.int .i64 p)/\PlaceIs L i p/\w=w':=by
 have c1:=hq.c_at
 have hal:=hP.len
 by_cases h0:i<0
 ·have HR:Hid (PlaceIs L i (-1)):=.inr ⟨fun x hx e => by have:=hG.range x hx;omega,rfl⟩
  clear hq hG hP
  go_enter Tryz.func265,Tryz.ntmps265
  go_wp2
  go_ret
  exact ⟨_,rfl,HR.out,rfl⟩
 ·obtain ⟨m,rfl⟩:∃ m:Nat,i=m:=⟨i.toNat,by omega⟩
  by_cases h1:m<ats.length
  ·obtain ⟨u,c2,-⟩:=hq.at_cell h1
   have hu:u=ats[m]:=by
    obtain ⟨g',c',e,q1,q2,q3,q4,q5⟩:=Ut.own_cells hq.at_ (by omega)
    obtain ⟨rfl,rfl⟩:ga=g'/\ca=c':=by simpa using e
    have:=(q5 m h1).symm.trans c2
    simpa [h1,vI] using this.symm
   have HR:Hid (PlaceIs L (m:Int) u):=by
    by_cases hex:∀ k,k<L.length->(g L k).1≠(m:Int)
    ·refine .inr ⟨fun x hx e => ?_,?_⟩
     ·obtain ⟨k,hk,e2⟩:=g_of_mem hx
      exact hex k hk (by rw [e2];exact e)
     ·have:=hP.gone m (by omega) hex
      rw [hu];simpa [h1] using this
    ·obtain ⟨k,hk⟩:=Classical.not_forall.1 hex
     obtain ⟨hk1,hk2⟩:=Classical.not_imp.1 hk
     have e:=Classical.not_not.1 hk2
     refine .inl ⟨k,hk1,e,?_⟩
     have:=hP.here k hk1 (by omega)
     rw [e] at this
     rw [hu];simpa [h1] using this
   have b1:(0:Int)<=(m:Int):=by omega
   have b2:(m:Int)<(ats.length:Int):=by omega
   clear hq hG hP hu hal
   go_enter Tryz.func265,Tryz.ntmps265
   go_wp2
   go_ret
   exact ⟨_,rfl,HR.out,rfl⟩
  ·have HR:Hid (PlaceIs L (m:Int) (-1)):=.inr ⟨fun x hx e => by have:=hG.range x hx;omega,rfl⟩
   have b1:(0:Int)<=(m:Int):=by omega
   have b2:(ats.length:Int)<=(m:Int):=by omega
   clear hq hG hP hal
   go_enter Tryz.func265,Tryz.ntmps265
   go_wp2
   go_ret
   exact ⟨_,rfl,HR.out,rfl⟩
def LeastIs (L:List It) (i k:Int) (b:Bool):Prop:=(L=[]/\i=0/\k=0/\b=false)\/(b=true/\(i,k) ∈ L/\∀ x ∈ L,ahd x (i,k)=false)
theorem least_any (lo H n:Nat) (L:List It) (F:Nat->Prop) (w:World) (h:HeapAt lo H n L F w) :
  Calls Tryz.prog 136 #[.pointer (some ⟨H,0,none⟩)] w fun e w' => (∃ i k b,e = .returned (.tuple #[.int .i64 i,.int .i64 k,.bool b])/\LeastIs L i k b)/\Below w.heap.size w w':=by
 obtain ⟨hb,ga,ca,v,ats,hq,hG,hP,hO,hF⟩:=h
 have c1:=hq.c_l
 by_cases h0:L.length=0
 ·obtain ⟨qv,rv,hv⟩:∃ q r,v = .slice q L.length r:=by
   rcases hq.row.2 with ⟨h1,h2⟩ | ⟨gv,cap,cur,h1,_⟩
   ·exact ⟨none,0,by rw [h1,h2]⟩
   ·exact ⟨_,cap,h1⟩
  subst hv
  have HL:Hid (L=[]):=List.eq_nil_of_length_eq_zero h0
  rw [h0] at c1
  clear hq hG hP hO hF h0
  go_enter Tryz.func136,Tryz.ntmps136
  go_wp2
  go_ret3
  exact ⟨⟨0,0,false,rfl,.inl ⟨HL.out,rfl,rfl,rfl⟩⟩,Below.refl _ _⟩
 ·obtain ⟨gv,cap,rfl,r1,r2,r3,r4,r5,-⟩:=row_cells hq.row rfl (by omega)
  obtain ⟨k1,k2⟩:=r4 0 (by omega)
  have HR:Hid (LeastIs L (g L 0).1 (g L 0).2 true):=.inr ⟨rfl,g_mem (by omega),fun x hx => by
   obtain ⟨k,hk,e⟩:=g_of_mem hx
   rw [<- e];exact hO.least k hk⟩
  obtain ⟨y,hy⟩:∃ y,y=g L 0:=⟨_,rfl⟩
  rw [<- hy] at k1 k2 HR
  have e0:((L.length:Int) == 0)=false:=by rw [beq_eq_false_iff_ne];omega
  have b1:(0:Int)<(L.length:Int):=by omega
  clear hq hG hP hO hF r1 r2 r3 r4 r5 hy h0
  go_enter Tryz.func136,Tryz.ntmps136
  go_wp2
  go_quiet (fail)
  go_wp2
  go_ret3
  exact ⟨⟨_,_,_,rfl,HR.out⟩,Ut.below_drewN (Below.refl _ _) _⟩
end Hp
end
section
open Go.RowKit
namespace Hp
theorem perm_without {L L':List It} {n:Nat} {x:It} (hG:Good L n) (h:List.Perm (x :: L') L):List.Perm L' (without L x.1):=by
 have h1:=without_cons (hG.perm h)
 have h2:=without_perm h x.1
 rw [h1] at h2;exact h2
def DropPost (lo H n:Nat) (L:List It) (F:Nat->Prop) (i:Int) (w:World) (e:Ending) (w':World):Prop :=
 e = .returned (.bool (keyOf L i).isSome)/\∃ L' F',HeapAt lo H n L' F' w'/\List.Perm L' (without L i)/\Only F w w'/\∀ k,F' k->F k\/w.heap.size<=k
theorem hdrop_any (lo H n:Nat) (L:List It) (F:Nat->Prop) (w:World) (h:HeapAt lo H n L F w) (hn:(n:Int)<=65536) (i:Int) :
  Calls Tryz.prog 228 #[.pointer (some ⟨H,0,none⟩),.int .i64 i] w (DropPost lo H n L F i w):=by
 have HH:=zh h
 obtain ⟨hb,ga,ca,v,ats,hq,hG,hP,hO,hF⟩:=h
 have HP:=zh (place_any lo H hb ga ca n v L ats w hq hG hP hn i)
 by_cases hex:∀ x ∈ L,x.1≠i
 ·have HR:Hid (DropPost lo H n L F i w (.returned (.bool false)) w) :=
   ⟨by rw [keyOf_none hex];rfl,L,F,HH.out,by rw [without_none hex],Only.refl _ _,fun k hk => .inl hk⟩
  have HE:=zh hex
  clear hex hq hG hP hO hF
  go_enter Tryz.func228,Tryz.ntmps228
  go_wp2_with fail
  refine HP.out.mono ?_
  rintro e w1 ⟨p,rfl,hp,rfl⟩
  rcases hp with ⟨k,h1,h2,-⟩ | ⟨-,rfl⟩
  ·exact absurd h2 (HE.out _ (g_mem h1))
  ·go_wp2
   go_ret
   exact HR.out
 ·have HE:=zh hex
  have HG:=zh hG;have HPO:=zh hP;have HO:=zh hO;have HF:=zh hF;have HQ:=zh hq
  have c1:=hq.c_at
  clear hex hq hG hP hO hF HH
  go_enter Tryz.func228,Tryz.ntmps228
  go_wp2_with fail
  refine HP.out.mono ?_
  rintro e w1 ⟨p,rfl,hp,rfl⟩
  rcases hp with ⟨k,h1,h2,rfl⟩ | ⟨h,-⟩
  ·have hr:=HG.out.range _ (g_mem h1)
   obtain ⟨m,rfl⟩:∃ m:Nat,i=m:=⟨i.toNat,by omega⟩
   have hal:=HPO.out.len
   have hm:m<ats.length:=by omega
   obtain ⟨u,c2,c3⟩:=HQ.out.at_cell hm
   have hq2:=HQ.out.set_at hm (-1)
   have hgm:(g L k).1.toNat=m:=by omega
   have hlen:=HG.out.len
   have hpos:Pos (ats.set m (-1)) L n k:=⟨by rw [List.length_set];exact hal,fun j hj hjk => by
     have hrj:=HG.out.range _ (g_mem hj)
     rw [getD_set hm,if_neg (fun e => hjk (HG.out.inj hj h1 (by omega)))]
     exact HPO.out.here j hj (by omega),fun j hj hno => by
     have:=hno k h1
     rw [getD_set hm,if_neg (by omega)];exact HPO.out.gone j hj hno⟩
   have hgone:(ats.set m (-1)).getD (g L k).1.toNat 0 = -1:=by rw [hgm,getD_set hm,if_pos rfl]
   have HD:=zh (drop_any lo H hb ga ca v L _ n k _ hq2 HG.out hpos h1 hgone (by omega))
   have HON:Hid (Only F w (w.setCell ⟨ga,m,none⟩ (.int .i64 (-1)))):=(Only.refl _ _).setCell (p:=⟨ga,m,none⟩) (fun _ => (HF.out ga).2 (.inr (.inr (.inl rfl)))) _
   have HKEY:Hid (keyOf L (m:Int)=some (g L k).2):=by
    show _=_
    rw [<- h2];exact keyOf_some HG.out (g_mem h1)
   have HGK:=zh h2
   have b1:(0:Int)<=(m:Int):=by omega
   have b2:(m:Int)<(ats.length:Int):=by omega
   have b3:(0:Int)<=(k:Int):=by omega
   clear hr hal hm hq2 hgm hlen hpos hgone h1 h2
   go_wp2_with fail
   refine HD.out.mono ?_
   rintro e w2 ⟨⟨u2,rfl⟩,v',L',az,hq',hp',hpos',hord',hon',hnew'⟩
   have HR:Hid (DropPost lo H n L F (m:Int) w (.returned (.bool true)) w2):=by
    refine ⟨by rw [HKEY.out];rfl,L',fun j => j=hb\/Ft H ga v' j,⟨hb,ga,ca,v',az,hq',(HG.out.perm hp').tail,hpos',hord' HO.out,fun j => Iff.rfl⟩,?_,HON.out.trans hon' (fun j _ hj => (HF.out j).2 (.inr hj)),fun j hj => .inl ((HF.out j).2 ?_)⟩
    ·have:=perm_without HG.out hp'
     rw [HGK.out] at this;exact this
    ·rcases hj with e | e | e | e
     ·exact .inl e
     ·exact .inr (.inl e)
     ·exact .inr (.inr (.inl e))
     ·exact .inr (.inr (.inr (hnew' j e)))
   clear hq' hp' hpos' hord' hon' hnew'
   go_wp2
   go_ret
   exact HR.out
  ·exact absurd h HE.out
def SetPost (lo H n:Nat) (L:List It) (F:Nat->Prop) (i key:Int) (w:World) (e:Ending) (w':World):Prop :=
 if 0<=i/\i<(n:Int) then e = .returned .nilIface/\∃ L' F',HeapAt lo H n L' F' w'/\List.Perm L' ((i,key) :: without L i)/\Only F w w'/\∀ k,F' k->F k\/w.heap.size<=k
 else e = .returned (.iface 101 (.int .i64 1))/\w=w'
theorem hset_any (lo H n:Nat) (L:List It) (F:Nat->Prop) (w:World) (h:HeapAt lo H n L F w) (hn:(n:Int)<=65536) (hlo:lo<=w.heap.size) (i key:Int) :
  Calls Tryz.prog 186 #[.pointer (some ⟨H,0,none⟩),.int .i64 i,.int .i64 key] w (SetPost lo H n L F i key w):=by
 have HH:=zh h
 have HD:=zh (hdrop_any lo H n L F w h hn i)
 obtain ⟨hb,ga,ca,v,ats,hq,hG,hP,hO,hF⟩:=h
 have c1:=hq.c_at
 have hal:ats.length=n:=hP.len
 rw [hal] at c1
 clear hq hG hP hO hF hal
 by_cases h0:i<0
 ·have HR:Hid (SetPost lo H n L F i key w (.returned (.iface 101 (.int .i64 1))) w):=by
   unfold SetPost;rw [if_neg (by omega)];exact ⟨rfl,rfl⟩
  go_enter Tryz.func186,Tryz.ntmps186
  go_wp2
  go_ret
  exact HR.out
 ·have h0':(0:Int)<=i:=by omega
  by_cases h1:i<(n:Int)
  ·have HI:Hid (0<=i/\i<(n:Int)):=⟨h0',h1⟩
   have HLO:=zh hlo;have HN:=zh hn
   clear hlo hn h0
   go_enter Tryz.func186,Tryz.ntmps186
   go_wp2_with fail
   refine HD.out.mono ?_
   rintro e w1 ⟨rfl,L1,F1,hh1,hp1,ho1,hn1⟩
   have hsz:=ho1.size
   obtain ⟨hb1,ga1,ca1,v1,az1,hq1,hG1,hP1,hO1,hF1⟩:=hh1
   have hne:∀ y ∈ L1,y.1≠i:=fun y hy e => by
    have:=(List.mem_filter.1 (hp1.mem_iff.1 hy)).2
    simp [e] at this
   have hG2:Good (L1 ++ [(i,key)]) n:=(hG1.cons (x:=(i,key)) h0' h1 hne).perm (List.perm_append_comm (l₁:=L1) (l₂:=[(i,key)]))
   have hlen:=hG1.len
   have hP2:Pos az1 (L1 ++ [(i,key)]) n L1.length:=by
    have hg:∀ k,k<L1.length->g (L1 ++ [(i,key)]) k=g L1 k:=fun k hk => by
     unfold g
     rw [List.getD_eq_getElem?_getD,List.getD_eq_getElem?_getD,List.getElem?_append_left hk]
    refine ⟨hP1.len,fun k hk hk2 => ?_,fun j hj hno => hP1.gone j hj (fun k hk => ?_)⟩
    ·rw [List.length_append,List.length_singleton] at hk
     rw [hg k (by omega)];exact hP1.here k (by omega) (by omega)
    ·have:=hno k (by rw [List.length_append];omega)
     rw [hg k hk] at this;exact this
   have HPUT:=zh (put_any lo H hb1 ga1 ca1 v1 L1 az1 (i,key) n w1 hq1 hG2 hP2 (by have:=HN.out;omega) (Nat.le_trans HLO.out hsz))
   have HG2:=zh hG2;have HO1:=zh hO1;have HON1:=zh ho1;have HP1:=zh hp1;have HF1:=zh hF1;have HN1:=zh hn1
   have HSZ:=zh hsz
   clear hq1 hG1 hP1 hO1 hF1 hne hG2 hP2 hlen hp1 ho1 hn1 hsz
   go_wp2_with fail
   refine HPUT.out.mono ?_
   rintro e w2 ⟨⟨u2,rfl⟩,v2,L2,az2,hq2,hp2,hpos2,hord2,hon2,hnew2⟩
   have HR:Hid (SetPost lo H n L F i key w (.returned .nilIface) w2):=by
    show SetPost _ _ _ _ _ _ _ _ _ _
    unfold SetPost
    rw [if_pos HI.out]
    refine ⟨rfl,L2,fun j => j=hb1\/Ft H ga1 v2 j,⟨hb1,ga1,ca1,v2,az2,hq2,HG2.out.perm hp2,hpos2,hord2 HO1.out,fun j => Iff.rfl⟩,?_,?_,?_⟩
    ·refine hp2.trans ((List.perm_append_comm (l₁:=L1) (l₂:=[(i,key)])).trans ?_)
     exact List.Perm.cons _ HP1.out
    ·refine HON1.out.trans hon2 (fun j hj hf => ?_)
     rcases HN1.out j ((HF1.out j).2 (.inr hf)) with e | e
     ·exact e
     ·omega
    ·intro j hj
     have hjj:F1 j\/w1.heap.size<=j:=by
      rcases hj with e | e | e | e
      ·exact .inl ((HF1.out j).2 (.inl e))
      ·exact .inl ((HF1.out j).2 (.inr (.inl e)))
      ·exact .inl ((HF1.out j).2 (.inr (.inr (.inl e))))
      ·rcases hnew2 j e with e | e
       ·exact .inl ((HF1.out j).2 (.inr (.inr (.inr e))))
       ·exact .inr e
     rcases hjj with e | e
     ·exact HN1.out j e
     ·right;have:=HSZ.out;omega
   clear hq2 hp2 hpos2 hord2 hon2 hnew2
   go_wp2
   go_ret
   exact HR.out
  ·have h1':(n:Int)<=i:=by omega
   have HR:Hid (SetPost lo H n L F i key w (.returned (.iface 101 (.int .i64 1))) w):=by
    unfold SetPost;rw [if_neg (by omega)];exact ⟨rfl,rfl⟩
   clear h1 h0
   go_enter Tryz.func186,Tryz.ntmps186
   go_wp2
   go_ret
   exact HR.out
end Hp
end
end Go.Proofs.YtimhglmfckfclaaGreatDoor
namespace Go.Proofs
open Go.Shelf
def Tryz.lays119_ren:Go.Shelf.Ren:=⟨fun | 119 => 290 | n => n,fun | 21 => 21 | 4 => 4 | n => n,fun | n => n⟩
theorem Tryz.lays119:Go.Proofs.Lays.n119 Tryz.prog Tryz.lays119_ren:={
 mixed:=by kernel_rfl
 f119:=Tryz.func290.trans (congrArg some (by kernel_rfl))
 t4:=Tryz.underlying4
 a4:=Tryz.isAgg4
 z4:=Tryz.sizeOf4
 v4:=Tryz.zeroValue4
 t21:=Tryz.underlying21
 a21:=Tryz.isAgg21
 z21:=Tryz.sizeOf21
 v21:=Tryz.zeroValue21 }
theorem Tryz.utf8_ValidRune (r:Int) (w:World) :
  Calls Tryz.prog 290 #[.int .i32 r] w fun e w' => e = .returned (.bool (Lib.validRune r))∧w'=w:=Any.utf8_ValidRune Tryz.lays119 r w
def Tryz.lays137_ren:Go.Shelf.Ren:=⟨fun | 137 => 289 | 217 => 293 | 266 => 294 | n => n,fun | 9 => 9 | 5 => 5 | 3 => 3 | n => n,fun | n => n⟩
theorem Tryz.lays137:Go.Proofs.Lays.n137 Tryz.prog Tryz.lays137_ren:={
 mixed:=by kernel_rfl
 f137:=Tryz.func289.trans (congrArg some (by kernel_rfl))
 f217:=Tryz.func293.trans (congrArg some (by kernel_rfl))
 f266:=Tryz.func294.trans (congrArg some (by kernel_rfl))
 t3:=Tryz.underlying3
 a3:=Tryz.isAgg3
 z3:=Tryz.sizeOf3
 v3:=Tryz.zeroValue3
 t5:=Tryz.underlying5
 a5:=Tryz.isAgg5
 z5:=Tryz.sizeOf5
 v5:=Tryz.zeroValue5
 t9:=Tryz.underlying9
 a9:=Tryz.isAgg9
 z9:=Tryz.sizeOf9
 v9:=Tryz.zeroValue9 }
open Go.RowKit in
theorem Tryz.strings_IndexByte (s:ByteArray) (c:Int) (w:World) :
  Calls Tryz.prog 289 #[.string s,.int .u8 c] w fun e w' => e = .returned (.int .i64 (Lib.indexByte s.data.toList c.toNat.toUInt8))∧w'=w:=Any.strings_IndexByte Tryz.lays137 s c w
open Go.RowKit Go.Lib in
def Tryz.lays151_ren:Go.Shelf.Ren:=⟨fun | 151 => 278 | 152 => 287 | 137 => 289 | 119 => 290 | 224 => 291 | 225 => 292 | 217 => 293 | 266 => 294 | n => n,fun | 9 => 9 | 21 => 21 | 4 => 4 | 3 => 3 | 5 => 5 | 0 => 0 | 46 => 214 | n => n,fun | n => n⟩
theorem Tryz.lays151:Go.Proofs.Lays.n151 Tryz.prog Tryz.lays151_ren:={
 mixed:=by kernel_rfl
 f119:=Tryz.func290.trans (congrArg some (by kernel_rfl))
 f137:=Tryz.func289.trans (congrArg some (by kernel_rfl))
 f151:=Tryz.func278.trans (congrArg some (by kernel_rfl))
 f152:=Tryz.func287.trans (congrArg some (by kernel_rfl))
 f217:=Tryz.func293.trans (congrArg some (by kernel_rfl))
 f224:=Tryz.func291.trans (congrArg some (by kernel_rfl))
 f225:=Tryz.func292.trans (congrArg some (by kernel_rfl))
 f266:=Tryz.func294.trans (congrArg some (by kernel_rfl))
 t0:=Tryz.underlying0
 a0:=Tryz.isAgg0
 z0:=Tryz.sizeOf0
 v0:=Tryz.zeroValue0
 t3:=Tryz.underlying3
 a3:=Tryz.isAgg3
 z3:=Tryz.sizeOf3
 v3:=Tryz.zeroValue3
 t4:=Tryz.underlying4
 a4:=Tryz.isAgg4
 z4:=Tryz.sizeOf4
 v4:=Tryz.zeroValue4
 t5:=Tryz.underlying5
 a5:=Tryz.isAgg5
 z5:=Tryz.sizeOf5
 v5:=Tryz.zeroValue5
 t9:=Tryz.underlying9
 a9:=Tryz.isAgg9
 z9:=Tryz.sizeOf9
 v9:=Tryz.zeroValue9
 t21:=Tryz.underlying21
 a21:=Tryz.isAgg21
 z21:=Tryz.sizeOf21
 v21:=Tryz.zeroValue21
 t46:=Tryz.underlying214
 a46:=Tryz.isAgg214
 z46:=Tryz.sizeOf214
 v46:=Tryz.zeroValue214 }
open Go.RowKit Go.Lib in
theorem Tryz.strings_ContainsRune_ascii (s:ByteArray) (r:Int) (w:World) (h0:0≤r) (h1:r<128) :
  Calls Tryz.prog 278 #[.string s,.int .i32 r] w fun e w' => e = .returned (.bool (decide (0≤Lib.indexByte s.data.toList r.toNat.toUInt8)))∧w'=w:=Any.strings_ContainsRune_ascii Tryz.lays151 s r w h0 h1
open Go.RowKit Go.Lib in
def Tryz.lays212_ren:Go.Shelf.Ren:=⟨fun | 212 => 257 | 263 => 276 | 264 => 277 | n => n,fun | 46 => 214 | 51 => 309 | 146 => 374 | 53 => 27 | 148 => 376 | n => n,fun | n => n⟩
theorem Tryz.lays212:Go.Proofs.Lays.n212 Tryz.prog Tryz.lays212_ren:={
 mixed:=by kernel_rfl
 f212:=Tryz.func257.trans (congrArg some (by kernel_rfl))
 f263:=Tryz.func276.trans (congrArg some (by kernel_rfl))
 f264:=Tryz.func277.trans (congrArg some (by kernel_rfl))
 t46:=Tryz.underlying214
 a46:=Tryz.isAgg214
 z46:=Tryz.sizeOf214
 v46:=Tryz.zeroValue214
 t51:=Tryz.underlying309
 a51:=Tryz.isAgg309
 z51:=Tryz.sizeOf309
 v51:=Tryz.zeroValue309
 t53:=Tryz.underlying27
 a53:=Tryz.isAgg27
 z53:=Tryz.sizeOf27
 v53:=Tryz.zeroValue27
 t146:=Tryz.underlying374
 a146:=Tryz.isAgg374
 z146:=Tryz.sizeOf374
 v146:=Tryz.zeroValue374
 t148:=Tryz.underlying376
 a148:=Tryz.isAgg376
 z148:=Tryz.sizeOf376
 v148:=Tryz.zeroValue376 }
open Go.RowKit Go.Lib in
theorem Tryz.bits_Mul (x y:Nat) (hx:x<18446744073709551616) (hy:y<18446744073709551616) (w:World) :
  Calls Tryz.prog 257 #[.int .u64 x,.int .u64 y] w fun e w' => e = .returned (.tuple #[.int .u64 ((x * y / 18446744073709551616:Nat):Int),.int .u64 ((x * y % 18446744073709551616:Nat):Int)])∧w'=w:=Any.bits_Mul Tryz.lays212 x y hx hy w
open Go.Lib in
def Tryz.lays107_ren:Go.Shelf.Ren:=⟨fun | 107 => 209 | 108 => 259 | n => n,fun | 28 => 43 | 3 => 3 | 4 => 4 | 0 => 0 | n => n,fun | n => n⟩
theorem Tryz.lays107:Go.Proofs.Lays.n107 Tryz.prog Tryz.lays107_ren:={
 mixed:=by kernel_rfl
 f107:=Tryz.func209.trans (congrArg some (by kernel_rfl))
 f108:=Tryz.func259.trans (congrArg some (by kernel_rfl))
 t0:=Tryz.underlying0
 a0:=Tryz.isAgg0
 z0:=Tryz.sizeOf0
 v0:=Tryz.zeroValue0
 t3:=Tryz.underlying3
 a3:=Tryz.isAgg3
 z3:=Tryz.sizeOf3
 v3:=Tryz.zeroValue3
 t4:=Tryz.underlying4
 a4:=Tryz.isAgg4
 z4:=Tryz.sizeOf4
 v4:=Tryz.zeroValue4
 t28:=Tryz.underlying43
 a28:=Tryz.isAgg43
 z28:=Tryz.sizeOf43
 v28:=Tryz.zeroValue43 }
open Go.Lib in
theorem Tryz.slices_Contains_int (b off n c:Nat) (zs:List Int) (x:Int) (w:World) (hz:n≤zs.length) (hbig:n≤9223372036854775807) (hc:∀ j,j<zs.length→w.cell? ⟨b,off+j,none⟩=some (.int .i64 (zs.getD j 0))) :
  Calls Tryz.prog 209 #[.slice (some ⟨b,off,none⟩) n c,.int .i64 x] w fun e w' => e = .returned (.bool ((zs.take n).contains x))∧w'=w:=Any.slices_Contains_int Tryz.lays107 b off n c zs x w hz hbig hc
open Go.Lib in
theorem Tryz.slices_Contains_int_empty (a:Option Addr) (c:Nat) (x:Int) (w:World) :
  Calls Tryz.prog 209 #[.slice a 0 c,.int .i64 x] w fun e w' => e = .returned (.bool false)∧w'=w:=Any.slices_Contains_int_empty Tryz.lays107 a c x w
open Go.RowKit Go.Lib in
def Tryz.laysSlK4_ren:Go.Shelf.Ren:=⟨fun | 4 => 247 | n => n,fun | 22 => 181 | 4 => 4 | 5 => 5 | n => n,fun | n => n⟩
theorem Tryz.laysSlK4:Go.Proofs.SlLaysK.n4 Tryz.prog Tryz.laysSlK4_ren:={
 mixed:=by kernel_rfl
 f4:=Tryz.func247.trans (congrArg some (by kernel_rfl))
 t4:=Tryz.underlying4
 a4:=Tryz.isAgg4
 z4:=Tryz.sizeOf4
 v4:=Tryz.zeroValue4
 t22:=Tryz.underlying181
 a22:=Tryz.isAgg181
 z22:=Tryz.sizeOf181
 v22:=Tryz.zeroValue181
 t5:=Tryz.underlying5
 i5:=by kernel_rfl }
open Go.RowKit Go.Lib in
theorem Tryz.bytes_Clone_at (a:Addr) (n c:Nat) (xs:List Int) (w:World) (hx:xs.length=n) (hbig:n≤140737488355328) (hc:∀ i,i<n→w.cell? (a.add i)=some (.int .u8 (xs.getD i 0))) :
  Calls Tryz.prog 247 #[.slice (some a) n c] w fun e w' => ∃ v',e = .returned v'∧w'.ownsRow w.heap.size 5 1 v' n (xs.map (Value.int .u8))∧v'≠.slice none 0 0∧Below w.heap.size w w':=Any.bytes_Clone_at Tryz.laysSlK4 a n c xs w hx hbig hc
end Go.Proofs
namespace Go.Proofs.YtimhglmfckfclaaGreatDoor
section
open Go.RowKit
namespace Hp
theorem hpi_info:(Tryz.prog.info? 3).map (fun i => (i.zero,i.size,i.bytes))=some (some (.int .i64 0),1,8):=by kernel_rfl
def Neg (g n k:Nat) (w:World):Prop:=∃ cs:List Value,w.heap[g]? = some (.cells cs.toArray 3 (0,0))/\cs.length=n/\∀ j,j<k->cs[j]? = some (.int .i64 (-1))
theorem splice_neg {cs:List Value} {n k c:Nat} (hl:cs.length=n) (h:∀ j,j<k->cs[j]? = some (.int .i64 (-1))) (hk:k+c<=n):(splice cs k (List.replicate c (.int .i64 (-1)))).length=n/\∀ j,j<k+c->(splice cs k (List.replicate c (.int .i64 (-1))))[j]? = some (.int .i64 (-1)):=by
 refine ⟨by rw [length_splice _ _ _ (by simp;omega)];exact hl,fun j hj => ?_⟩
 unfold splice
 by_cases h1:j<k
 ·rw [List.getElem?_append_left (by simp;omega),List.getElem?_take,if_pos h1];exact h j h1
 ·rw [List.getElem?_append_right (by simp;omega),List.getElem?_append_left (by simp;omega),List.getElem?_replicate,if_pos (by simp;omega)]
theorem repeat_any (xb n:Nat) (h0:1<=n) (hn:(n:Int)<=65536) (w:World) (hx:w.cell? ⟨xb,0,none⟩=some (.int .i64 (-1))) :
  Calls Tryz.prog 204 #[.slice (some ⟨xb,0,none⟩) 1 1,.int .i64 n] w fun e w' => e = .returned (.slice (some ⟨w.heap.size,0,none⟩) n n)/\Neg w.heap.size n n w'/\Below w.heap.size w w':=by
 obtain ⟨i0,hi,hz0,hz1,hz2⟩:=info_parts hpi_info
 obtain ⟨w1,hr,hown,hgr⟩:=run_make_full (P:=Tryz.prog) w 0 43 3 i0 (.int .i64 0) 1 Tryz.underlying43 hi hz0 hz1 .i64 .i64 n (by rw [hz2];omega) (by unfold maxLen;omega) (Nat.zero_le _)
 have hb1:Below w.heap.size w w1:=(Below.refl _ _).grown hgr (Nat.le_refl _) (fun k e => by cases e)
 obtain ⟨cs,hcs,hcl⟩:∃ cs:List Value,w1.heap[w.heap.size]? = some (.cells cs.toArray 3 (0,0))/\cs.length=n:=by
  rcases hown.2 with ⟨h,_⟩ | ⟨g',c',cur,e,_,h3,_,_,h6,_⟩
  ·cases h
  ·obtain ⟨rfl,rfl⟩:w.heap.size=g'/\n=c':=by simpa using e
   exact ⟨cur.toList,by simpa using h3,by simpa using h6⟩
 have hx1:w1.cell? ⟨xb,0,none⟩=some (.int .i64 (-1)):=cell_keep hb1 hx
 have hm:=Tryz.bits_Mul 1 n (by omega) (by omega) w
 have e1:1 * n / 18446744073709551616=0:=by omega
 have e2:1 * n % 18446744073709551616=n:=by omega
 rw [e1,e2] at hm
 have HM:=zh (hm.mono (fun e w' h => (⟨h.1,h.2.symm⟩:_/\w=w')))
 have HB1:=zh hb1;have HCS:=zh hcs;have HCL:=zh hcl;have HX:=zh hx1
 have hsz:(Tryz.prog.info? 3).map (·.size)=some 1:=by kernel_rfl
 have b0:(1:Int)<=(n:Int):=by omega
 have u1:IntKind.u64.wrap (n:Int)=(n:Int):=IntWalk.u64_in _ (by omega)
 have u2:IntKind.i64.wrap (n:Int)=(n:Int):=IntWalk.i64_in _ (by omega)
 have f1:decide ((9223372036854775807:Int)<(n:Int))=false:=by rw [decide_eq_false_iff_not];omega
 have f2:decide ((9223372036854775807:Nat)<n)=false:=by rw [decide_eq_false_iff_not];omega
 clear hm hb1 hcs hcl hx1 hown hgr e1 e2 hx
 go_enter Tryz.func204,Tryz.ntmps204
 go_wp2_with fail
 refine HM.out.mono ?_
 rintro e w2 ⟨rfl,rfl⟩
 have HSRC1:Hid (∀ j u,[Value.int .i64 (-1)][j]? = some u->w1.cell? ((⟨xb,0,none⟩:Addr).add j)=some u):=fun j u hu => by
  cases j with
  | zero => simp at hu;subst hu;simpa [Addr.add] using HX.out
  | succ j => simp at hu
 have hmin:[Value.int .i64 (-1)].length=Nat.min 1 n:=by simp only [Nat.min_def,List.length_singleton];split <;> omega
 have hfit:0+[Value.int .i64 (-1)].length<=cs.length:=by rw [HCL.out];simp;omega
 have hone:∀ u ∈ [Value.int .i64 (-1)],u.oneCell'=true:=by intro u hu;simp at hu;subst hu;rfl
 go_wp2_with ((with_reducible show wpList _ _ _ _ _ _);refine wpList_copy_splice (o:=⟨some 33,_,_,_,_,_⟩) rfl (.tmp 31) (.tmp 32) 43 43 rfl 3 Tryz.underlying43 hsz _ _ _ _ _ _ rfl rfl w.heap.size 0 cs 3 HCS.out [.int .i64 (-1)] hmin (fun _ => ⟨rfl,_,rfl,HSRC1.out⟩) hfit hone w.heap.size w HB1.out (Nat.le_refl _) ?_;intro w2 hg2 hb2)
 have HS:Hid (Neg w.heap.size n 1 w2/\Below w.heap.size w w2):=by
  have h:=splice_neg (c:=1) (k:=0) HCL.out (fun j hj => absurd hj (Nat.not_lt_zero _)) (by omega)
  exact ⟨⟨_,hg2.out,h.1,fun j hj => h.2 j (by omega)⟩,hb2⟩
 clear hg2 hb2 HCS HCL HX HB1 hr
 go_wp2
 go_loopw [8] (fun i wr => ∃ k:Nat,1<=k/\k<=n/\i = .int .i64 k/\Neg w.heap.size n k wr/\Below w.heap.size w wr) (fun i _ => n-(intOf i).toNat)
 case atStart => exact ⟨1,Nat.le_refl _,h0,rfl,HS.out.1,HS.out.2⟩
 case round =>
  obtain ⟨k,hk1,hk,rfl,⟨cs2,hg,hcl,hneg⟩,hbl⟩:=hrel
  have HG:=zh hg;have HCL:=zh hcl;have HNEG:=zh hneg;have HBL:=zh hbl
  clear hg hcl hneg hbl
  have b1:(0:Int)<=(k:Int):=by omega
  have b2:(k:Int)<=(n:Int):=by omega
  by_cases h:k<n
  ·have b3:(k:Int)<(n:Int):=by omega
   have HGD:Hid (wr.drew.heap[w.heap.size]? = some (.cells cs2.toArray 3 (0,0))):=HG.out
   have HCELL:Hid (∀ j,j<k->wr.cell? ⟨w.heap.size,j,none⟩=some (.int .i64 (-1))):=fun j hj => by
    rw [cell_of_row wr _ j _ _ _ HG.out];simpa using HNEG.out j hj
   obtain ⟨c,hc⟩:∃ c,c=Nat.min k (n-k):=⟨_,rfl⟩
   have hc1:c<=k:=by rw [hc];exact Nat.min_le_left _ _
   have hc2:c<=n-k:=by rw [hc];exact Nat.min_le_right _ _
   have hc3:1<=c:=by rw [hc];simp only [Nat.min_def];split <;> omega
   have HC:=zh hc
   clear hc
   have HBD:Hid (Below w.heap.size w wr.drew):=HBL.out.drew
   have v1:IntKind.i64.wrap ((k:Int)+(c:Int))=(k:Int)+(c:Int):=IntWalk.i64_in _ (by omega)
   have HSRC:Hid (∀ j u,(List.replicate c (Value.int .i64 (-1)))[j]? = some u->wr.drew.cell? ((⟨w.heap.size,0,none⟩:Addr).add j)=some u):=fun j u hu => by
    rw [List.getElem?_replicate] at hu
    split at hu
    ·cases hu
     rename_i hj
     rw [show (⟨w.heap.size,0,none⟩:Addr).add j=⟨w.heap.size,j,none⟩ by unfold Addr.add;split <;> simp_all]
     exact HCELL.out j (by omega)
    ·cases hu
   have hmin2:(List.replicate c (Value.int .i64 (-1))).length=Nat.min k (n-k):=by rw [List.length_replicate,HC.out]
   have hfit2:k+(List.replicate c (Value.int .i64 (-1))).length<=cs2.length:=by rw [HCL.out,List.length_replicate];omega
   have hone2:∀ u ∈ List.replicate c (Value.int .i64 (-1)),u.oneCell'=true:=by intro u hu;rw [(List.mem_replicate.1 hu).2];rfl
   have HM2:=zh hmin2;have HFIT2:=zh hfit2;have HONE2:=zh hone2
   have hne:¬ n=k:=by omega
   clear hmin2 hfit2 hone2
   go_wp2
   go_region_law (first | (refine step_copy_splice rfl (.tmp 41) (.tmp 44) 43 43 (by rfl) 3 Tryz.underlying43 hsz _ _ _ _ _ _ (by rfl) (by rfl) w.heap.size k cs2 3 HGD.out (List.replicate c (.int .i64 (-1))) HM2.out (fun _ => ⟨rfl,_,rfl,HSRC.out⟩) HFIT2.out HONE2.out w.heap.size w HBD.out (Nat.le_refl _) ?_;intro w4 hg4 hb4))
   have HS4:Hid (Neg w.heap.size n (k+c) w4):=by
    have h:=splice_neg (c:=c) HCL.out HNEG.out (by omega)
    exact ⟨_,hg4.out,h.1,h.2⟩
   have hlr:(List.replicate c (Value.int .i64 (-1))).length=c:=List.length_replicate
   have HB4:=zh hb4
   clear hg4 hb4 hne
   go_simp
   go_wp2
   go_roundw
   case rel => exact ⟨k+c,by omega,by omega,by go_num,HS4.out,HB4.out⟩
   case measure => simp [intOf];omega
  ·have b3:(n:Int)<=(k:Int):=by omega
   have hkn:k=n:=by omega
   have HR:Hid (Neg w.heap.size n n wr):=by
    refine ⟨cs2,HG.out,HCL.out,fun j hj => HNEG.out j (by omega)⟩
   clear hkn
   go_wp2
   go_ret
   exact ⟨rfl,HR.out,HBL.out⟩
end Hp
end
end Go.Proofs.YtimhglmfckfclaaGreatDoor
