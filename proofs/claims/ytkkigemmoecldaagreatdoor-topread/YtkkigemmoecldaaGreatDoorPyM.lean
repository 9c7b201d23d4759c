import Derived.RangeFuncNested
import Derived.RangeFuncBound
import Derived.RangeFuncCalls
import Derived.RangeFuncLeaves
import Derived.RangeFuncBox
import Derived.Shelf.Abstract
import Derived.Shelf.RegionOpen
import Derived.WalkKit
import Derived.OwnWalkIn
import Derived.TacticsInMore
import Derived.LoopNIn
import Derived.LoopIn
import Derived.Test.YtkkigemmoecldaaGreatDoorProg
set_option maxRecDepth 100000
set_option maxHeartbeats 0
set_option linter.unusedVariables false
set_option linter.unusedSimpArgs false
namespace Go.Vm.Pk
open Go Go.Proofs Go.RowKit Go.Shelf
attribute [local go_sem] Oper.semAt_some
structure Nv where
 k:Int
 s:ByteArray
 v:Int
 a:Option Addr
 kl:Nat
 kc:Nat
 f:Int
 e:Int
abbrev Nv.kids (n:Nv):Value:= .slice n.a n.kl n.kc
abbrev Nv.list (n:Nv):List Value:=[.int .i64 n.k,.string n.s,.int .i64 n.v,.slice n.a n.kl n.kc,.int .i64 n.f,.int .i64 n.e]
abbrev Nv.val (n:Nv):Value:= .agg #[.int .i64 n.k,.string n.s,.int .i64 n.v,.slice n.a n.kl n.kc,.int .i64 n.f,.int .i64 n.e]
def xP (W:World) (b off:Nat) (ns:List Nv):Prop:=∀ j n i v,ns[j]? =some n->n.list[i]? =some v->W.cell? ⟨b,off+j*6+i,none⟩=some v
theorem xP.below {n₀ b off:Nat} {A B:World} {ns:List Nv} (h:xP A b off ns) (hb:b < n₀) (x:Below n₀ A B):xP B b off ns:=fun j n i v h1 h2=>(x.cell (p:=⟨b,off+j*6+i,none⟩) hb).trans (h j n i v h1 h2)
def back (len k:Nat):List Nat:=(List.range k).map fun j=>len - 1 - j
theorem Ov (len k:Nat):back len (k+1)=back len k++[len - 1 - k]:=by simp[back,List.range_succ]
theorem zd (len k:Nat):(back len k).length=k:=by simp[back]
def JL (ns:List Nv) (j:Nat):Nv:=ns[j]?.getD ⟨0,⟨#[]⟩,0,none,0,0,0,0⟩
abbrev ZF (ns:List Nv) (j:Nat):Array Value:= #[.int .i64 ((min j (ns.length - 1):Nat):Int),(JL ns (min j (ns.length - 1))).val]
def KB (n₀ Bs:Nat) (A B:World):Prop:=Below n₀ A B/\B.heap[Bs]? =A.heap[Bs]?
theorem KB.refl (n₀ Bs:Nat) (A:World):KB n₀ Bs A A:=⟨Below.refl _ _,rfl⟩
theorem KB.trans {n₀ Bs:Nat} {A B C:World} (h:KB n₀ Bs A B) (k:KB n₀ Bs B C):KB n₀ Bs A C:=⟨h.1.trans k.1,k.2.trans h.2⟩
theorem KB.cell {n₀ Bs:Nat} {A B:World} (h:KB n₀ Bs A B) (i:Nat):B.cell? ⟨Bs,i,none⟩=A.cell? ⟨Bs,i,none⟩:=by
 simp only[World.cell?,h.2]
set_option maxRecDepth 100000 in
theorem S7 (F:Fence) (n:Nat) (h7:F.fn 105) (hro:F.round=none) (hn:1<=n) (l Bs n₀ b off cap:Nat) (ns:List Nv) (hreach:ns.length<=20000000) (hb:b < n₀) (J Jx:List Nat->World->Prop)
 (hY:∀ pre x W,J pre W->pre.length < ns.length->YieldAt F (n - 1) Tryz.prog l (ZF ns x) W fun e W'=>
   (e= .returned (.bool true)/\J (pre++[x]) W'/\KB n₀ Bs W W')\/(e= .returned (.bool false)/\Jx (pre++[x]) W'))
 (W:World) (hBs:W.cell? ⟨Bs,0,none⟩=some (.slice (some ⟨b,off,none⟩) ns.length cap)) (hc:xP W b off ns) (h0:J [] W):
 CallsIn F n Tryz.prog 105 #[.func (.yield l) #[] #[],.pointer (some ⟨Bs,0,none⟩)] W fun e W'=>(∃ v,e= .returned v)/\
   ((∃ ys,ys=back ns.length ns.length/\J ys W')\/(∃ pre,(∃ k,k<=ns.length/\pre=back ns.length k)/\Jx pre W')):=by
 refine callsIn_of_wp Tryz.func105 rfl h7 ?_ hro;simp only[Tryz.ntmps105,List.size_toArray,List.length_cons,List.length_nil,Nat.reduceAdd,Nat.reduceSub,Array.replicate_succ,Array.replicate_zero,List.push_toArray,List.append_toArray,List.nil_append,List.cons_append]
 gi_wp2
 gi_loopw [3] (fun i wr=> ∃ k:Nat,k<=ns.length/\i= .int .i64 ((ns.length:Int) - 1 - k)/\J (back ns.length k) wr/\KB n₀ Bs W wr)
   (fun i _=>(intOf i+1).toNat)
 case atStart=>exact⟨0,Nat.zero_le _,by simp,h0,KB.refl _ _ _⟩
 case round=>
  obtain⟨k,hk,rfl,hJs,hnx⟩:=hrel;by_cases hlt:k < ns.length
  ·obtain⟨j,hj⟩:∃ j,j+k+1=ns.length:=⟨ns.length - 1 - k,by omega⟩;have hjx:ns.length - 1 - k=j:=by omega
   have hbs:back ns.length (k+1)=back ns.length k++[j]:=by rw[Ov,hjx]
   clear hjx;obtain⟨fn,tmps,assign,body,hy,hR⟩:=hY _ j wr hJs (by rw[zd];exact hlt);have hmin:min j (ns.length - 1)=j:=by omega
   rw[ZF,hmin]at hy;clear hmin
   have hji:(ns.length:Int) - 1 - k=(j:Int):=by omega
   have hjl:j < ns.length:=by omega
   have hnj:ns[j]? =some (JL ns j):=by simp[JL,List.getElem?_eq_getElem hjl]
   have hx:=hc.below hb hnx.1;have hc0:=hx j _ 0 _ hnj rfl;have hc1:=hx j _ 1 _ hnj rfl;have hc2:=hx j _ 2 _ hnj rfl;have hc3:=hx j _ 3 _ hnj rfl;have hc4:=hx j _ 4 _ hnj rfl;have hc5:=hx j _ 5 _ hnj rfl;rw[Nat.add_zero]at hc0;rw[hji];have hBr:wr.cell? ⟨Bs,0,none⟩=some (.slice (some ⟨b,off,none⟩) ns.length cap):=(hnx.cell 0).trans hBs
   gi_wp2
   refine hR.mono ?_;rintro e W3 (⟨rfl,hJ3,hk3⟩|⟨rfl,hJx3⟩)
   ·gi_wp2
    go_roundw
    case rel=>exact⟨k+1,by omega,by congr 1;omega,by rw[hbs];exact hJ3,hnx.trans hk3⟩
    case measure=>simp[intOf]
   ·gi_wp2
    refine bodyPost_ret (results_none rfl _ _ _) rfl ?_;exact⟨⟨_,rfl⟩,.inr ⟨_,⟨k+1,by omega,hbs.symm⟩,hJx3⟩⟩
  ·obtain rfl:k=ns.length:=by omega
   gi_wp2
   go_end0
   exact⟨⟨_,rfl⟩,.inl ⟨_,rfl,hJs⟩⟩
set_option maxRecDepth 100000 in
theorem FI (F:Fence) (n:Nat) (h7:F.fn 105) (hro:F.round=none) (l Bs:Nat) (J:List Nat->World->Prop) (W:World) (hBs:W.cell? ⟨Bs,0,none⟩=some (.slice none 0 0)) (h0:J [] W):
 CallsIn F n Tryz.prog 105 #[.func (.yield l) #[] #[],.pointer (some ⟨Bs,0,none⟩)] W fun e W'=>(∃ v,e= .returned v)/\J [] W':=by
 refine callsIn_of_wp Tryz.func105 rfl h7 ?_ hro;simp only[Tryz.ntmps105,List.size_toArray,List.length_cons,List.length_nil,Nat.reduceAdd,Nat.reduceSub,Array.replicate_succ,Array.replicate_zero,List.push_toArray,List.append_toArray,List.nil_append,List.cons_append]
 gi_wp2
 gi_loopw [3] (fun i wr=>i= .int .i64 (-1)/\J [] wr) (fun _ _=>0)
 case atStart=>exact⟨rfl,h0⟩
 case round=>
  obtain⟨rfl,hJs⟩:=hrel
  gi_wp2
  go_end0
  exact⟨⟨_,rfl⟩,hJs⟩
theorem mf (F:Fence) (n:Nat) (h5:F.fn 67) (hro:F.round=none) (a:Option Addr) (len cap:Nat) (w:World):
 CallsIn F n Tryz.prog 67 #[.slice a len cap] w fun e w'=>e= .returned (.func (.func 105) #[] #[.pointer (some ⟨w.heap.size,0,none⟩)])/\w'=w.alloc (.cells #[.slice a len cap] 22):=by
 refine callsIn_of_wp Tryz.func67 rfl h5 ?_ hro;simp only[Tryz.ntmps67,List.size_toArray,List.length_cons,List.length_nil,Nat.reduceAdd,Nat.reduceSub,Array.replicate_succ,Array.replicate_zero,List.push_toArray,List.append_toArray,List.nil_append,List.cons_append]
 gi_wp2
 go_ret
 exact⟨rfl,rfl⟩
def uZ (n₀:Nat) (W:World) (sv:Value) (ns:List Nv):Prop:=(sv= .slice none 0 0/\ns=[])\/∃ b off cap,sv= .slice (some ⟨b,off,none⟩) ns.length cap/\b < n₀/\xP W b off ns
theorem uZ.below {n₀:Nat} {A B:World} (x:Below n₀ A B) {sv:Value} {ns:List Nv}:uZ n₀ A sv ns->uZ n₀ B sv ns
 | .inl e=> .inl e
 | .inr ⟨b,off,cap,e,hb,hc⟩=> .inr ⟨b,off,cap,e,hb,hc.below hb x⟩
theorem KF (F:Fence) (n:Nat) (h8:F.fn 105) (hro:F.round=none) (hn:1<=n) (Bs n₀:Nat) (sv:Value) (ns:List Nv) (hreach:ns.length<=20000000) (w:World) (hBs:Bs < w.heap.size) (hn₀:n₀<=w.heap.size)
 (hc:w.cell? ⟨Bs,0,none⟩=some sv) (hI:uZ n₀ w sv ns):
 SeqStopsK F n Tryz.prog 105 #[.pointer (some ⟨Bs,0,none⟩)] (ZF ns) (KB n₀ Bs) (fun ys=>ys=back ns.length ns.length)
   (fun pre=> ∃ k,k<=ns.length/\pre=back ns.length k) ns.length w:=fun l J Jx W hW _ _ hY h0=>by
 have hc':=(hW.cell (p:=⟨Bs,0,none⟩) hBs).trans hc;rcases hI.below (hW.mono hn₀)with⟨rfl,rfl⟩|⟨b,off,cap,rfl,hb,hcs⟩
 ·exact(FI F n h8 hro l Bs J W hc' h0).mono fun e W' ⟨he,hj⟩=>⟨he,.inl ⟨_,rfl,hj⟩⟩
 ·exact S7 F n h8 hro hn l Bs n₀ b off cap ns hreach hb J Jx hY W hc' hcs h0
end Go.Vm.Pk
namespace Go.Vm.Pk
open Go Go.Proofs Go.RowKit Go.Shelf
attribute [local go_sem] Oper.semAt_some
def KO (W:World) (b off:Nat) (ks:List Nat):Prop:=∀ (i k:Nat),ks[i]? =some k->W.cell? ⟨b,off+i,none⟩=some (.int .i64 (k:Int))
def a0v (n₀:Nat) (W:World) (sv:Value) (ks:List Nat):Prop:=∃ a cap,sv= .slice a ks.length cap/\ks.length<=20000000/\(ks=[]\/∃ b off,a=some ⟨b,off,none⟩/\b < n₀/\KO W b off ks)
def gh (i:Nat) (up:List Nat) (ks:List Nat):List Nat:=ks.foldl (fun up k=>up.set k (up[i]?.getD 0+1)) up
def py (ks:Nat->List Nat) (s:List Nat×Nat) (i:Nat):List Nat×Nat:=(gh i s.1 (ks i),max s.2 (s.1[i]?.getD 0))
def r6 (ks:Nat->List Nat) (len:Nat) (pre:List Nat):List Nat×Nat:=pre.foldl (fun s i=>py ks s (min i (len - 1))) (List.replicate len 0,0)
theorem Og (ks:Nat->List Nat) (len:Nat) (pre:List Nat) (x:Nat):r6 ks len (pre++[x])=py ks (r6 ks len pre) (min x (len - 1)):=by simp[r6]
abbrev kf (k:Nat):Value:= .int .i64 (k:Int)
def mZ (W:World) (U:Nat) (up:List Nat):Prop:=W.heap[U]? =some (.cells (up.map kf).toArray 3 (0,0))
theorem mZ.cell {W:World} {U:Nat} {up:List Nat} (h:mZ W U up) {i:Nat} (hi:i < up.length):W.cell? ⟨U,i,none⟩=some (kf (up[i]?.getD 0)):=by
 simp[World.cell?,show W.heap[U]? =_ from h,hi]
theorem mZ.frozen {W:World} {U:Nat} {up:List Nat} (h:mZ W U up) (i:Nat):W.frozen? ⟨U,i,none⟩=false:=by
 simp[World.frozen?,show W.heap[U]? =_ from h]
theorem mZ.set {W:World} {U:Nat} {up:List Nat} (h:mZ W U up) (i k:Nat):mZ (W.setCell ⟨U,i,none⟩ (kf k)) U (up.set i k):=by
 unfold mZ;rw[heap_setCell_same _ _ _ _ _ _ h];simp[List.map_set]
theorem mZ.other {W:World} {U:Nat} {up:List Nat} (h:mZ W U up) {b i:Nat} (hb:U≠b) (v:Value):mZ (W.setCell ⟨b,i,none⟩ v) U up:=(heap_setCell_other _ _ _ _ hb).trans h
theorem mZ.alloc {W:World} {U:Nat} {up:List Nat} (h:mZ W U up) (o:Obj):mZ (W.alloc o) U up:=(Below.heap_alloc W o U (Array.getElem?_eq_some_iff.1 h).1).trans h
theorem mZ.kept {W W':World} {U:Nat} {up:List Nat} (h:mZ W U up) {row:Option Nat} (hg:W.grownBy W' row) (hne:row≠some U):mZ W' U up:=(hg.block U (Array.getElem?_eq_some_iff.1 h).1 fun e=>hne e.symm).trans h
theorem qn (i:Nat) (ks up:List Nat):(gh i up ks).length=up.length:=by
 unfold gh;induction ks generalizing up with
 |nil=>rfl
 |cons k ks ih=>simp[ih]
theorem H9 (ks:Nat->List Nat) (len:Nat) (pre:List Nat):(r6 ks len pre).1.length=len:=by
 unfold r6
 suffices h:∀ s:List Nat×Nat,s.1.length=len->(pre.foldl (fun s i=>py ks s (min i (len - 1))) s).1.length=len by exact h _ (by simp)
 induction pre with
 |nil=>exact fun s h=>h
 |cons x pre ih=>exact fun s h=>ih _ ((qn _ _ _).trans h)
theorem Hm (i:Nat) (up ks:List Nat) (k:Nat):gh i up (ks++[k])=(gh i up ks).set k ((gh i up ks)[i]?.getD 0+1):=by simp[gh]
theorem J2 {i:Nat} {up ks:List Nat} (h:∀ k∈ks,k < i):(gh i up ks)[i]? =up[i]? :=by
 unfold gh;induction ks generalizing up with
 |nil=>rfl
 |cons k ks ih=>
  rw[List.foldl_cons,ih fun x hx=>h x (List.mem_cons_of_mem _ hx),List.getElem?_set_ne];have:=h k (List.mem_cons_self ..);omega
theorem NW {i:Nat} {up ks:List Nat} {m:Nat} (h:∀ k∈ks,k < i) (hi:up[i]?.getD 0<=m) (hu:∀ v∈up,v<=m+1):∀ v∈gh i up ks,v<=m+1:=by
 unfold gh;induction ks generalizing up with
 |nil=>exact hu
 |cons k ks ih=>
  have hk:=h k (List.mem_cons_self ..);refine ih (fun x hx=>h x (List.mem_cons_of_mem _ hx)) ?_ fun v hv=>?_
  ·rw[List.getElem?_set_ne (by omega)];exact hi
  ·rcases List.mem_or_eq_of_mem_set hv with h1|rfl
   ·exact hu v h1
   ·omega
theorem RP {up:List Nat} {m i:Nat} (h:∀ v∈up,v<=m):up[i]?.getD 0<=m:=by
 cases e:up[i]? with
 |none=>exact Nat.zero_le _
 |some v=>exact h v (List.mem_of_getElem? e)
theorem Mq {ks:Nat->List Nat} {len:Nat} (hk:∀ j,j < len->∀ k∈ks j,k < j) (h0:0 < len) (pre:List Nat):(∀ v∈(r6 ks len pre).1,v<=pre.length)/\(r6 ks len pre).2<=pre.length:=by
 suffices h:∀ (m:Nat) (s:List Nat×Nat),(∀ v∈s.1,v<=m)->s.2<=m->(∀ v∈(pre.foldl (fun s i=>py ks s (min i (len - 1))) s).1,v<=m+pre.length)/\(pre.foldl (fun s i=>py ks s (min i (len - 1))) s).2<=m+pre.length by
   have:=h 0 (List.replicate len 0,0) (fun v hv=>by simp at hv;omega) (Nat.le_refl _);simpa [r6] using this
 induction pre with
 |nil=>exact fun m s h1 h2=>⟨h1,h2⟩
 |cons x pre ih=>
  intro m s h1 h2;have hg:=RP (i:=min x (len - 1)) h1;have:=ih (m+1) (py ks s (min x (len - 1))) (NW (hk _ (by omega)) hg fun v hv=>Nat.le_succ_of_le (h1 v hv)) (by simp only[py];omega);rw[List.foldl_cons,List.length_cons];exact⟨fun v hv=>by have:=this.1 v hv;omega,by have:=this.2;omega⟩
theorem info3:(Tryz.prog.info? 3).map (fun i=>(i.zero,i.size,i.bytes))=some (some (.int .i64 0),1,8):=by kernel_rfl
theorem mk33 (len:Nat) (h:len<=20000000) (w:World):(Instr.makeSlice 49 (.int .i64 len) (.int .i64 len)).run Tryz.prog w= .ok (.slice (some ⟨w.heap.size,0,none⟩) len len) (w.alloc (.cells (Array.replicate len (.int .i64 0)) 3)):=by
 obtain⟨i,hi,hz0,hz1,hz2⟩:=info_parts info3;have:=run_make (P:=Tryz.prog) w 49 3 i (.int .i64 0) (by kernel_rfl) hi hz0 .i64 .i64 len len (by omega) (by omega) (by rw[hz2];omega) (by omega);rw[hz1]at this;have hm:madeCells (Value.cells (.int .i64 0)) ((len:Int).toNat*1)=Array.replicate len (.int .i64 0):=by
  apply Array.toList_inj.1;have h2:Value.cells (.int .i64 0)= #[.int .i64 0]:=rfl;rw[h2,toList_madeCells_one];simp
 rw[hm]at this;exact this
noncomputable def WJ:Code:=match Tryz.f37.body with
 |some (.seq _ (.seq _ (.seq _ (.seq (.seq _ (.block _ (.rangeFunc _ _ _ (.block _ (.seq _ (.seq _ (.block _ c))))))) _))))=>c
 |_=> .skip
set_option maxRecDepth 100000 in
theorem U7 (F:Fence) (m l n₀ U Bu len j kc:Nat) (ka:Option Addr) (ks up:List Nat) (W1:World) (Q:Exit->Act->World->Prop) (hU:n₀<=U) (hne:U≠Bu) (q1:mZ W1 U up) (q2:Boxed W1 Bu 49 (.slice (some ⟨U,0,none⟩) len len)) (hjl:j < len) (hlen:up.length=len) (hmax:len<=20000000)
 (hk2:ks=[]\/∃ b off,ka=some ⟨b,off,none⟩/\b < n₀/\KO W1 b off ks) (hk3:∀ k∈ks,k < j) (hkl:ks.length<=20000000) (hub:up[j]?.getD 0<=len)
 (hQ:∀ a' W2,KeepsOthers W1 W2->Below n₀ W1 W2->(∀ b,b≠U->W2.heap[b]? =W1.heap[b]?)->mZ W2 U (gh j up ks)->Q .normal a' W2)
 (t0 t1 t2 t4 t6 t7 t8 t9 t10 t11 t12 t13 t14 t15 t16 t17 t18 t19 t20 t21 t22 t23 t24 t28 t29 t30 t31 t32 t33 t34 t35 t36 t37 t38 t39 t40:Value):
 WJ.wpIn (F.inRound l) m Tryz.prog (Exit.inBlock 2 Q) {tmps:= #[t0,t1,t2,.pointer (some ⟨Bu,0,none⟩),t4,.int .i64 (j:Int),t6,t7,t8,t9,t10,t11,t12,t13,t14,t15,t16,t17,t18,t19,t20,t21,t22,t23,t24,.slice ka ks.length kc,.int .i64 (ks.length:Int),.int .i64 0,t28,t29,t30,t31,t32,t33,t34,t35,t36,t37,t38,t39,t40],defers:=[]} W1:=by
 have hmx:Tryz.prog.follows .mixedOrders=true:=by kernel_rfl
 delta WJ
 simp only[Tryz.f37]
 gi_loopw [27] (fun i wr=> ∃ q:Nat,q<=ks.length/\i= .int .i64 (q:Int)/\KeepsOthers W1 wr/\Below n₀ W1 wr/\(∀ b,b≠U->wr.heap[b]? =W1.heap[b]?)/\mZ wr U (gh j up (ks.take q))) (fun i _=>ks.length - (intOf i).toNat)
 case atStart=>exact⟨0,Nat.zero_le _,rfl,KeepsOthers.refl _,Below.refl _ _,fun _ _=>rfl,q1⟩
 case round=>
  obtain⟨q,hq,rfl,r1,r2,r3,r4⟩:=hrel;by_cases hlt:q < ks.length
  ·rcases hk2 with rfl|⟨b,off,rfl,hb,hk2⟩
   ·cases hlt
   have hkq:ks[q]? =some ks[q]:=List.getElem?_eq_getElem hlt;have hks:=hk3 _ (List.mem_of_getElem? hkq);have hck:=(r2.cell (p:=⟨b,off+q,none⟩) hb).trans (hk2 _ _ hkq);have htk:ks.take (q+1)=ks.take q++[ks[q]]:=by rw[List.take_add_one,hkq];rfl
   obtain⟨k,hkd⟩:∃ k,ks[q]=k:=⟨_,rfl⟩;rw[hkd]at hkq hks hck htk;have hown:=J2 (up:=up) fun x hx=>hk3 x (List.mem_of_mem_take (i:=q) hx);have hsn:=Hm j up (ks.take q) k;rw[<-htk,hown]at hsn;have hl1:=qn j (ks.take q) up;obtain⟨up1,hup1⟩:∃ u,gh j up (ks.take q)=u:=⟨_,rfl⟩;rw[hup1]at r4 hown hsn hl1;obtain⟨v,hv⟩:∃ v,up[j]?.getD 0=v:=⟨_,rfl⟩;have hcj:=r4.cell (i:=j) (by omega);rw[hown,hv]at hcj;rw[hv]at hsn hub;have hckk:=r4.cell (i:=k) (by omega);have hfk:=r4.frozen k;have hcu:wr.cell? ⟨Bu,0,none⟩=some (.slice (some ⟨U,0,none⟩) len len):=Boxed.cell ((r3 Bu hne.symm).trans q2);have hst:=r4.set k (v+1);rw[<-hsn]at hst
   have hend2:KeepsOthers W1 (wr.setCell ⟨U,k,none⟩ (kf (v+1))).drew/\Below n₀ W1 (wr.setCell ⟨U,k,none⟩ (kf (v+1))).drew/\∀ b,b≠U->(wr.setCell ⟨U,k,none⟩ (kf (v+1))).drew.heap[b]? =W1.heap[b]? :=
    ⟨(r1.trans (KeepsOthers.setCell _ _ _)).trans (KeepsOthers.drew _),(r2.setCell (p:=⟨U,k,none⟩) hU _).drew,fun b' hb'=>(heap_setCell_other _ _ _ _ hb').trans (r3 b' hb')⟩
   gi_wp2
   rename_i Q' K hKK;have hend:∀ s8 s28 s29 s30 s31 s32 s33 s34 s35 s36 s37 s38:Value,Exit.inBlock 3 (Exit.then K Q') .normal {tmps:= #[t0,t1,t2,.pointer (some ⟨Bu,0,none⟩),t4,.int .i64 (j:Int),t6,t7,s8,t9,t10,t11,t12,t13,t14,t15,t16,t17,t18,t19,t20,t21,t22,t23,t24,.slice (some ⟨b,off,none⟩) ks.length kc,.int .i64 (ks.length:Int),.int .i64 (q:Int),s28,s29,s30,s31,s32,s33,s34,s35,s36,s37,s38,u39,t40],defers:=[]} (wr.setCell ⟨U,k,none⟩ (.int .i64 ((v:Int)+1))).drew:=by
    intro s8 s28 s29 s30 s31 s32 s33 s34 s35 s36 s37 s38
    gi_wp2
    exact⟨⟨q+1,hlt,rfl,hend2.1,hend2.2.1,hend2.2.2,hst⟩,by simp[intOf];omega⟩
   gi_region_with_o (fail)
   all_goals exact hend _ _ _ _ _ _ _ _ _ _ _ _
  ·obtain rfl:q=ks.length:=by omega
   gi_wp2
   refine hQ _ _ r1 r2 r3 ?_;rw[List.take_length]at r4;exact r4
end Go.Vm.Pk
namespace Go.Vm.Pk
open Go Go.Proofs Go.RowKit Go.Shelf
attribute [local go_sem] Oper.semAt_some
set_option maxRecDepth 100000 in
theorem SA (F:Fence) (n:Nat) (h4:F.fn 37) (h6:F.fn 67) (h8:F.fn 105) (hro:F.round=none) (hn:3<=n) (a:Option Addr) (cap:Nat) (ns:List Nv) (ks:Nat->List Nat) (hreach:ns.length<=20000000) (w:World) (hI:uZ w.heap.size w (.slice a ns.length cap) ns)
 (hK:∀ j,j < ns.length->a0v w.heap.size w (JL ns j).kids (ks j)/\∀ k∈ks j,k < j):
 CallsIn F n Tryz.prog 37 #[.agg #[.slice a ns.length cap]] w fun e W'=>e= .returned (.int .i64 ((r6 ks ns.length (back ns.length ns.length)).2:Nat))/\Below w.heap.size w W':=by
 have h1:1<=n:=by omega
 refine callsIn_of_wp_marks Tryz.func37 rfl h4 ?_ hro;simp only[Tryz.ntmps37,List.size_toArray,List.length_cons,List.length_nil,Nat.reduceAdd,Nat.reduceSub,Array.replicate_succ,Array.replicate_zero,List.push_toArray,List.append_toArray,List.nil_append,List.cons_append];have hmk:=mk33 ns.length hreach
 gi_wp2_with (gi_at_call 67;refine(mf F (n - 1) h6 hro _ _ _ _).mono ?_;rintro e w' ⟨rfl,rfl⟩)
 have hB5:Below w.heap.size w (((((w.alloc (.cells #[.slice a ns.length cap] 24)).alloc (.cells (Array.replicate ns.length (.int .i64 0)) 3)).alloc (.cells #[.slice (some ⟨w.heap.size+1,0,none⟩) ns.length ns.length] 49)).alloc (.cells #[.int .i64 0] 3)).alloc (.cells #[.slice a ns.length cap] 22)):=
  ((((((Below.refl _ w).alloc (Nat.le_refl _) _).alloc (by simp) _).alloc (by simp;omega) _).alloc (by simp;omega) _).alloc (by simp;omega) _)
 have b1:mZ (w.alloc (.cells #[.slice a ns.length cap] 24)|>.alloc (.cells (Array.replicate ns.length (.int .i64 0)) 3)) (w.heap.size+1) (List.replicate ns.length 0):=by
  have:=World.alloc_heap_new (w.alloc (.cells #[.slice a ns.length cap] 24)) (.cells (Array.replicate ns.length (.int .i64 0)) 3);rw[World.size_alloc]at this;unfold mZ;rw[this];simp
 have b2:=Boxed.new (w.alloc (.cells #[.slice a ns.length cap] 24)|>.alloc (.cells (Array.replicate ns.length (.int .i64 0)) 3)) 49 (.slice (some ⟨w.heap.size+1,0,none⟩) ns.length ns.length);have b3:=Boxed.new ((w.alloc (.cells #[.slice a ns.length cap] 24)|>.alloc (.cells (Array.replicate ns.length (.int .i64 0)) 3)).alloc (.cells #[.slice (some ⟨w.heap.size+1,0,none⟩) ns.length ns.length] 49)) 3 (.int .i64 0);have b4:=Boxed.new (((w.alloc (.cells #[.slice a ns.length cap] 24)|>.alloc (.cells (Array.replicate ns.length (.int .i64 0)) 3)).alloc (.cells #[.slice (some ⟨w.heap.size+1,0,none⟩) ns.length ns.length] 49)).alloc (.cells #[.int .i64 0] 3)) 22 (.slice a ns.length cap);simp only[World.size_alloc]at b2 b3 b4;replace b1:=((b1.alloc (.cells #[.slice (some ⟨w.heap.size+1,0,none⟩) ns.length ns.length] 49)).alloc (.cells #[.int .i64 0] 3)).alloc (.cells #[.slice a ns.length cap] 22);replace b2:=(b2.alloc (.cells #[.int .i64 0] 3)).alloc (.cells #[.slice a ns.length cap] 22);replace b3:=b3.alloc (.cells #[.slice a ns.length cap] 22);obtain⟨W0,hW0⟩:∃ W0,(((((w.alloc (.cells #[.slice a ns.length cap] 24)).alloc (.cells (Array.replicate ns.length (.int .i64 0)) 3)).alloc (.cells #[.slice (some ⟨w.heap.size+1,0,none⟩) ns.length ns.length] 49)).alloc (.cells #[.int .i64 0] 3)).alloc (.cells #[.slice a ns.length cap] 22))=W0:=⟨_,rfl⟩;have hsz:W0.heap.size=w.heap.size+1+1+1+1+1:=by rw[<-hW0];simp
 rw[hW0]at b1 b2 b3 b4 hB5⊢;clear hW0;obtain⟨U,hU⟩:∃ U,w.heap.size+1=U:=⟨_,rfl⟩;rw[hU]at b1 b2 b3 b4⊢;obtain⟨Bu,hBu⟩:∃ Bu,U+1=Bu:=⟨_,rfl⟩;rw[hBu]at b2 b3 b4⊢;obtain⟨Bd,hBd⟩:∃ Bd,Bu+1=Bd:=⟨_,rfl⟩;rw[hBd]at b3 b4⊢;obtain⟨Bs,hBs⟩:∃ Bs,Bd+1=Bs:=⟨_,rfl⟩;rw[hBs]at b4⊢
 refine wpIn_rangeFunc_ownH hro h1 (gf:=105) (lb:= #[.pointer (some ⟨Bs,0,none⟩)]) rfl h8 (enters_of Tryz.func105 (by kernel_rfl) rfl)
   (KF F (n - 1) h8 hro (by omega) Bs w.heap.size _ ns hreach _ (by omega) (by omega) b4.cell (hI.below hB5)) KB.trans ?hkb (Below.refl _ _) (fun _=>rfl)
   (fun pre W=>(mZ W U (r6 ks ns.length pre).1/\Boxed W Bu 49 (.slice (some ⟨U,0,none⟩) ns.length ns.length)/\Boxed W Bd 3 (kf (r6 ks ns.length pre).2)/\Boxed W Bs 22 (.slice a ns.length cap))/\Below w.heap.size w W)
   (fun _ _ _=>False)
   ?own
   (fun _ _ _ _ _ hs _ _=>hs)
   ⟨⟨b1,b2,b3,b4⟩,hB5⟩
   (fun x a' W=> ∃ Bx,Bs < Bx/\W.cell? ⟨Bx,3,none⟩=some (JL ns (min x (ns.length - 1))).kids/\∃ u1 u2 u3 u4 u5 u6 u7 u8 u9:Value,a'={tmps:= #[.agg #[.slice a ns.length cap],.pointer (some ⟨w.heap.size,0,none⟩),.int .i64 0,.pointer (some ⟨Bu,0,none⟩),.pointer (some ⟨Bd,0,none⟩),.int .i64 ((min x (ns.length - 1):Nat):Int),.pointer (some ⟨Bx,0,none⟩),undef,undef,u1,u2,u3,u4,u5,u6,u7,u8,u9,undef,undef,undef,undef,undef,undef,undef,undef,undef,undef,undef,undef,undef,undef,undef,undef,undef,undef,undef,undef,undef,undef,undef],defers:=[]})
   ?ax ?assign ?body ?done ?stop
 case hkb=>
  intro W l o o' hl ho hc hw;exact⟨belowK_b (w:=W0) (by omega) W l o o' hl ho hc hw,World.putObj_heap_other (by omega)⟩
 case own=>
  refine OwnFrom.and (Own.from (fun s A B row hs hg hr=>⟨hs.1.kept hg ?_,boxed_own Bu 49 (fun _=>_) s A B row hs.2.1 hg hr,boxed_own Bd 3 (fun s=>kf (r6 ks ns.length s).2) s A B row hs.2.2.1 hg hr,boxed_own Bs 22 (fun _=>_) s A B row hs.2.2.2 hg hr⟩) _) (ownFrom_below (Nat.le_refl _) (by omega));intro e;obtain⟨o,ho,hc⟩:=hr U e;rw[show A.heap[U]? =_ from hs.1]at ho;cases ho;cases hc
 case ax=>
  intro x a';refine Own.from (fun s A B row hs hg hr=>?_) _;obtain⟨Bx,h1,h2,h3⟩:=hs;exact⟨Bx,h1,cell_kept h2 hg hr,h3⟩
 case stop=>
  rintro D c pre W _ _ h _;exact h.elim
 case assign=>
  intro l pre x W K hi hK'
  gi_wp2
  obtain⟨⟨q1,q2,q3,q4⟩,hB⟩:=hi;have hlt:=q4.lt;refine hK' _ _ ((KeepsOthers.alloc _ _).from _) ⟨(Below.refl _ W).alloc hB.size _,Below.heap_alloc _ _ _ hlt⟩ ⟨⟨q1.alloc _,q2.alloc _,q3.alloc _,q4.alloc _⟩,hB.alloc hB.size _⟩ ⟨W.heap.size,hlt,?_,_,_,_,_,_,_,_,_,_,rfl⟩;simp only[World.cell?,World.alloc_heap_new];rfl
 case body=>
  rintro l pre x a' W hl - ⟨⟨q1,q2,q3,q4⟩,hB⟩ ⟨Bx,hBx,hcx,u1,u2,u3,u4,u5,u6,u7,u8,u9,rfl⟩ hpre;obtain⟨j,hj⟩:∃ j,min x (ns.length - 1)=j:=⟨_,rfl⟩;have hjl:j < ns.length:=by omega
  obtain⟨⟨ka,kc,hk1,hkl,hk2⟩,hk3⟩:=hK j hjl;obtain⟨hbd1,hbd2⟩:=Mq (fun j hj=>(hK j hj).2) (by omega:0 < ns.length) pre;have hlen:=H9 ks ns.length pre;have hsn:=Og ks ns.length pre x;rw[hj]at hcx hsn⊢;rw[hk1]at hcx;obtain⟨s,hs⟩:∃ s,r6 ks ns.length pre=s:=⟨_,rfl⟩;rw[hs]at q1 q3 hbd1 hbd2 hlen hsn;obtain⟨up,dp⟩:=s;obtain⟨up1,hup1⟩:∃ m,up[j]?.getD 0=m:=⟨_,rfl⟩;have hu:=q1.cell (i:=j) (by omega);dsimp only at hu hbd2 hlen hsn;rw[hup1]at hu;have hub:up1<=pre.length:=by rw[<-hup1];exact RP hbd1
  have c2:=q2.cell;have c3:=q3.cell;have f3:=q3.frozen;dsimp only at c3;have hmx:Tryz.prog.follows .mixedOrders=true:=by kernel_rfl
  have hfin:∀ d:Nat,d=max dp up1->mZ (W.setCell ⟨Bd,0,none⟩ (kf d)).drew U up/\Boxed (W.setCell ⟨Bd,0,none⟩ (kf d)).drew Bu 49 (.slice (some ⟨U,0,none⟩) ns.length ns.length)/\(ks j=[]\/∃ b off,ka=some ⟨b,off,none⟩/\b < w.heap.size/\KO (W.setCell ⟨Bd,0,none⟩ (kf d)).drew b off (ks j))/\
   ∀ W2,KeepsOthers (W.setCell ⟨Bd,0,none⟩ (kf d)).drew W2->Below w.heap.size (W.setCell ⟨Bd,0,none⟩ (kf d)).drew W2->(∀ b,b≠U->W2.heap[b]? =(W.setCell ⟨Bd,0,none⟩ (kf d)).drew.heap[b]?)->mZ W2 U (gh j up (ks j))->
    KeepsFrom W0.heap.size W W2/\KB w.heap.size Bs W W2/\((mZ W2 U (r6 ks ns.length (pre++[x])).1/\Boxed W2 Bu 49 (.slice (some ⟨U,0,none⟩) ns.length ns.length)/\Boxed W2 Bd 3 (kf (r6 ks ns.length (pre++[x])).2)/\Boxed W2 Bs 22 (.slice a ns.length cap))/\Below w.heap.size w W2):=by
   intro d hd;have x1:mZ (W.setCell ⟨Bd,0,none⟩ (kf d)).drew U up:=q1.other (by omega) _;have x2:Boxed (W.setCell ⟨Bd,0,none⟩ (kf d)).drew Bu 49 (.slice (some ⟨U,0,none⟩) ns.length ns.length):=q2.other (by omega) _;have x3:Boxed (W.setCell ⟨Bd,0,none⟩ (kf d)).drew Bd 3 (kf d):=q3.set _;have x4:Boxed (W.setCell ⟨Bd,0,none⟩ (kf d)).drew Bs 22 (.slice a ns.length cap):=q4.other (by omega) _;have x5:Below w.heap.size W (W.setCell ⟨Bd,0,none⟩ (kf d)).drew:=((Below.refl w.heap.size W).setCell (p:=⟨Bd,0,none⟩) (show w.heap.size<=Bd by omega) _).drew;have x6:KeepsOthers W (W.setCell ⟨Bd,0,none⟩ (kf d)).drew:=(KeepsOthers.setCell _ _ _).trans (KeepsOthers.drew _);refine⟨x1,x2,hk2.imp id fun⟨b,off,e1,e2,e3⟩=>⟨b,off,e1,e2,fun i k hi=>((hB.trans x5).cell (p:=⟨b,off+i,none⟩) e2).trans (e3 i k hi)⟩,fun W2 y1 y2 y3 y4=>?_⟩;have z4:Boxed W2 Bs 22 (.slice a ns.length cap):=(y3 Bs (by omega)).trans x4;refine⟨(x6.trans y1).from _,⟨x5.trans y2,z4.trans q4.symm⟩,⟨?_,(y3 Bu (by omega)).trans x2,?_,z4⟩,hB.trans (x5.trans y2)⟩
   ·rw[hsn];exact y4
   ·have:(r6 ks ns.length (pre++[x])).2=d:=by
     rw[hsn,hd,<-hup1];rfl
    rw[this];exact(y3 Bd (by omega)).trans x3
  gi_wp2
  gi_region_with_o (fail)
  all_goals gi_wp2
  all_goals(try go_bits)
  all_goals
   obtain⟨d,hd,hdd⟩:∃ d:Nat,d=max dp up1/\(d=up1\/d=dp):=⟨_,rfl,by omega⟩;have hf:=hfin d hd
   first
    |(have e:d=up1:=by(first|omega|fail)
      rw[e]at hf)
    |(have e:d=dp:=by omega
      rw[e]at hf)
   refine U7 F (n - 1 - 1) l w.heap.size U Bu ns.length j kc ka (ks j) up _ _ (by omega) (by omega) ?_ ?_ hjl hlen hreach ?_ hk3 hkl (by omega) ?_ _ _ _ _ _ _ _ _ _ _ _ _ _ _ _ _ _ _ _ _ _ _ _ _ _ _ _ _ _ _ _ _ _ _ _ _
  all_goals first
    |exact hf.1
    |exact hf.2.1
    |exact hf.2.2.1
    |exact fun a' W2 y1 y2 y3 y4=>hf.2.2.2 W2 y1 y2 y3 y4
 case done=>
  rintro D ys W hD rfl ⟨⟨q1,q2,q3,_⟩,hB⟩ hK';have q4:=q3.cell
  gi_wp2
  refine⟨by simp,.inl ⟨_,_,rfl,run_takeDeferred hK',?_⟩⟩;exact⟨_,results_tmp rfl _ _ _,rfl,hB.trans (belowK_b (w:=w) (Nat.le_refl _) W D _ _ (by omega) hK' rfl rfl)⟩
end Go.Vm.Pk
