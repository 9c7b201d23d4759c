import Derived.Tactics
import Derived.Tactics2
import Derived.StillTactics
import Derived.Laws.AppendOwn
import Derived.Laws.Runes
import Derived.Laws.CopyRow
import Derived.Laws.Shifts
import Derived.Laws.Rows
import Derived.Laws.BitsLemmas
import Derived.Laws.Tables
import Derived.Laws.NewBlocks
import Derived.Laws.Unary
import Derived.Laws.Strings
import Derived.Laws.NewFold
import Derived.Laws.ShiftsVarLaws
import Derived.Laws.Bits
import Derived.Laws.Alloc2
import Derived.Laws.Bits128
import Derived.Laws.Strings2
import Derived.Laws.Wrap64
import Derived.Laws.ShiftsVar
import Derived.Laws.Closers25
import Derived.Laws.RangeString
import Derived.Laws.Concat
import Derived.Laws.Cells
import Derived.Laws.NewDeep
import Derived.Laws.Pointers
import Derived.Laws.StructEq
import Derived.Laws.Closers25b
import Derived.Laws.StandIn
import Derived.Laws.Bits64b
import Derived.Laws.LoneSync
import Derived.Laws.ByValue
import Derived.Laws.MathBits
import Derived.Laws.Externs
import Derived.Laws.BitsAll
import Derived.Laws.BitsAllLaws
import Derived.Laws.Bits64
import Derived.Laws.OwnMore
import Derived.Laws.Build
import Derived.Laws.ResultCell
import Derived.Laws.Entries
import Derived.Laws.Append
import Derived.Laws.RangeAny
import Derived.Laws.World
import Derived.Laws.Strings3
import Derived.Laws.Sem
import Derived.Laws.Slices
import Derived.Laws.MakeOwn
import Derived.Laws.Small
import Derived.Laws.BytesString
import Derived.Scope
import Derived.FnLit
import Derived.LoopTactic
import Derived.Deep.LoopGhost
import Derived.Test.YtkedogplneaaiaaGreatDoorParShelf
import Derived.Test.YtkedogplneaaiaaGreatDoorVmNum
import Derived.Lib.OthersKept
import Derived.Lib.TrimU
import Derived.Below
import Derived.Test.YtkedogplneaaiaaGreatDoorProg
import Derived.WalkKit
import Derived.LaidEql
import Derived.Stop.Asserts
import Derived.RowKitTokens
import Derived.Test.YtkedogplneaaiaaGreatDoorVmOps9
import Derived.Test.YtkedogplneaaiaaGreatDoorVmOps2
import Derived.Lib.IndexMore
import Derived.Test.YtkedogplneaaiaaGreatDoorPlW3
set_option maxRecDepth 100000
set_option linter.unusedVariables false
set_option linter.unusedSimpArgs false
namespace Go.Proofs.LexUtf
open Go.Vm (c1w)
open Go.RowKit
theorem g7l (s:ByteArray) (f pos:Nat) (h:¬ pos < s.size):c1w s f pos= -1:=by
 cases f with
 |zero=>rfl
 |succ f=>simp[c1w,h]
theorem f6l (s:ByteArray) (pos:Nat) (h:pos < s.size):Lib.decodeGo (s.extract pos s.size)=Utf8.decode s pos:=by
 have hg:∀ k,(s.extract pos s.size).get! (0+k)=s.get! (pos+k):=by
  intro k
  show(s.extract pos s.size).data[0+k]! =s.data[pos+k]!
  rw[getElem!_def,getElem!_def]
  have:(s.extract pos s.size).data[0+k]? =s.data[pos+k]? :=by
   rw[ByteArray.data_extract,Array.getElem?_extract]
   rw[Nat.zero_add]
   by_cases hk:k < s.data.size - pos
   ·rw[if_pos (by show k < min s.size s.data.size - pos;have:s.size=s.data.size:=rfl;omega)]
   ·rw[if_neg (by show ¬ k < min s.size s.data.size - pos;have:s.size=s.data.size:=rfl;omega),Array.getElem?_eq_none om]
  rw[this]
 have hsz:(s.extract pos s.size).size=s.size - pos:=by simp
 have hne:¬ (s.extract pos s.size).size=0:=om
 unfold Lib.decodeGo
 rw[if_neg hne,Lib.decode_at,Lib.decode_at,hsz]
 have h0:=hg 0
 simp only[Nat.add_zero,Nat.sub_zero]at h0⊢
 rw[h0,hg 1,hg 2,hg 3]
set_option maxHeartbeats 2000000 in
set_option maxRecDepth 1000000 in
theorem walk (s:ByteArray) (w:World) (hT:Lib.Utf8Tabs 1 2 w):
 Calls Tryz.prog 70 #[.string s] w fun e w'=>e= .returned (.int .i64 (c1w s s.size 0))/\Below w.heap.size w w':=by
 go_enter Tryz.func70,Tryz.ntmps70
 go_wp2
 go_loopg [] s.size (fun gf wx=> ∃ pos:Nat,wx.heap[w.heap.size]? =some (.stringIter s pos)/\Below w.heap.size w wx/\c1w s gf pos=c1w s s.size 0/\s.size<=pos+gf)
 case atStart=>exact⟨0,World.iter_heap w s 0,(Below.refl _ w).alloc (Nat.le_refl _) _,rfl,om⟩
 case round=>
  obtain⟨pos,hit,hbw,hleft,hfu⟩:=hrel
  by_cases hps:pos < s.size
  ·obtain⟨g',rfl⟩:∃ g',gk=g'+1:=⟨gk - 1,om⟩
   have hnx:∀ ty,(Instr.next (.pointer (some ⟨w.heap.size,0,none⟩)) true ty).run Tryz.prog wr=_:=fun ty=>Lib.run_next_any_at wr w.heap.size s pos ty hit hps
   have hwd:=Lib.width_pos s pos
   have hdt:=f6l s pos hps
   have hun:c1w s (g'+1) pos=if Utf8.decode s pos=(65533,1) then(pos:Int) else c1w s g' (pos+(Utf8.decode s pos).2):=by
    show(if pos < s.size then _ else _)=_
    rw[if_pos hps]
   rw[hun]at hleft
   clear hun
   obtain⟨R,hR⟩:∃ R,(Utf8.decode s pos).1=R:=⟨_,rfl⟩
   obtain⟨K,hK⟩:∃ K,(Utf8.decode s pos).2=K:=⟨_,rfl⟩
   have hRK:Utf8.decode s pos=(R,K):=by rw[<-hR,<-hK]
   rw[hRK]at hnx hwd hdt hleft
   clear hR hK hRK
   simp only at hwd hleft
   have hit2:=Lib.iterAt_heap wr w.heap.size s pos (pos+K) hit
   have hbw2:=Lib.below_iterAt hbw (k:=w.heap.size) (Nat.le_refl _) s (pos+K)
   obtain⟨W,hWd⟩:∃ W,wr.iterAt w.heap.size s (pos+K)=W:=⟨_,rfl⟩
   simp only at hnx
   rw[hWd]at hnx hit2 hbw2
   have hltW:w.heap.size < W.heap.size:=(Array.getElem?_eq_some_iff.1 hit2).1
   have hTW:Lib.Utf8Tabs 1 2 W:=by
    exact Utf8Tabs_below hT hbw2
   have cS:=Tryz.utf8_DecodeRuneInString (s.extract pos s.size) W hTW
   rw[hdt]at cS
   clear hdt hTW hT hWd
   go_wp2_with (go_at_call 99;refine cS.mono ?_;rintro e W' ⟨rfl,hbc⟩)
   ·have e:(R,K)=(65533,1):=by
     have h1:(R:Int)=65533:=by simpa using(show((R:Int)==65533)=true by assumption)
     have h2:(K:Int)=1:=by simpa using(show((K:Int)==1)=true by assumption)
     rw[Prod.mk.injEq];omega
    rw[if_pos e]at hleft
    go_ret
    exact⟨by rw[<-hleft]<;>rfl,hbw2.trans (hbc.mono hbw2.size)⟩
   ·have e:¬ (R,K)=(65533,1):=by
     have h2:¬ (K:Int)=1:=by simpa using(show((K:Int)==1)=false by assumption)
     rw[Prod.mk.injEq];omega
    rw[if_neg e]at hleft
    go_roundg g'
    case measure=>omega
    case rel=>exact⟨pos+K,(hbc.block _ hltW).trans hit2,hbw2.trans (hbc.mono hbw2.size),hleft,om⟩
   ·have e:¬ (R,K)=(65533,1):=by
     have h1:¬ (R:Int)=65533:=by simpa using(show((R:Int)==65533)=false by assumption)
     rw[Prod.mk.injEq];omega
    rw[if_neg e]at hleft
    go_roundg g'
    case measure=>omega
    case rel=>exact⟨pos+K,hit2,hbw2,hleft,om⟩
  ·have hnx:∀ ty,(Instr.next (.pointer (some ⟨w.heap.size,0,none⟩)) true ty).run Tryz.prog wr=_:=fun ty=>Lib.run_next_end_at wr w.heap.size s pos ty hit hps
   rw[g7l s gk pos hps]at hleft
   go_wp2
   go_ret
   exact⟨by rw[<-hleft]<;>rfl,hbw⟩
end Go.Proofs.LexUtf
namespace Go.Vm.Pj
open Go Go.Proofs Go.RowKit Go.Extern.Stop Go.Stop Go.Extern
theorem g9r (t:Value) (w:World):
 Calls Tryz.prog 42 #[.nilIface,t] w fun e w'=>e= .returned (.bool false)/\w'=w:=by
 go_enter Tryz.func42,Tryz.ntmps42
 go_wp2
 go_ret
 exact⟨rfl,rfl⟩
abbrev h8i (c f e:Int):Value:= .agg #[.int .i64 c,.int .i64 f,.int .i64 e]
abbrev cells3 (c f e:Int):Array Value:= #[.int .i64 c,.int .i64 f,.int .i64 e]
theorem e7n (t:Addr) (w:World):(ReflectliteValue.unpack (.iface 69 (.pointer (some t)))).run Tryz.prog w
 = .ok (.agg #[.pointer (some ⟨9,69,none⟩),.pointer (some ⟨w.heap.size,0,none⟩),.int .u64 150]) (w.alloc (.cells #[.pointer (some t)] 69)):=kr
theorem h5k (a:Addr) (w:World):(ReflectliteValue.methodAny (ReflectliteValue.valueError "reflectlite.Value.Type" 0) (fun t _ _ _=>ReflectliteType.toType t) #[.agg #[.pointer (some ⟨9,69,none⟩),.pointer (some a),.int .u64 150]]).run Tryz.prog w
    = .ok (.iface 122 (.agg #[.pointer (some ⟨9,69,none⟩)])) w:=kr
theorem e5z (h:Value) (w:World):(Go.method 304 122 (.agg #[h]) "Kind").run Tryz.prog w= .ok (194,h) w:=kr
theorem h6o (w:World):((ReflectliteType.abiMethod fun t=>(fun a:Nat=>Value.int IntKind.u8 (a:Int)) <$> Rtype.kind t) #[.pointer (some ⟨9,69,none⟩)]).run Tryz.prog w= .ok (.int .u8 22) w:=kr
theorem h2m (w:World):((ReflectliteType.abiMethod fun t=>(fun a:Nat=>Value.int IntKind.u8 (a:Int)) <$> Rtype.kind t) #[.pointer (some ⟨9,64,none⟩)]).run Tryz.prog w= .ok (.int .u8 25) w:=kr
theorem rlm (z:Sem Value) (f:TypeId->Addr->Nat->Nat->Sem Value) (v:Value):
 ReflectliteValue.method z f #[v]=(do match<-ReflectliteValue.parts v with|none=>z|some (t,a,fl)=>f t a fl (fl % 32)):=rfl
theorem e8l (a:Addr) (w:World):(ReflectliteValue.parts (.agg #[.pointer (some ⟨9,69,none⟩),.pointer (some a),.int .u64 150])).run Tryz.prog w= .ok (some (69,a,150)) w:=kr
theorem g6m (a p:Addr) (W:World) (ha:W.cell? a=some (.pointer (some p))):
 (ReflectliteValue.method (ReflectliteValue.valueError "reflectlite.Value.IsNil" 0) ReflectliteValue.isNil #[.agg #[.pointer (some ⟨9,69,none⟩),.pointer (some a),.int .u64 150]]).run Tryz.prog W= .ok (.bool false) W:=by
 rw[rlm]
 simp only[Sem.run_bind,e8l,Result.andThen]
 simp[ReflectliteValue.isNil,loadVar,isAgg,underlying,Tryz.underlying69,ha,Result.andThen]
theorem e6m (h:Value) (w:World):(Go.method 304 122 (.agg #[h]) "Elem").run Tryz.prog w= .ok (206,.agg #[h]) w:=kr
theorem c5l (h:Value) (w:World):(Go.method 304 122 (.agg #[h]) "Implements").run Tryz.prog w= .ok (207,.agg #[h]) w:=kr
theorem c1b (h:Value) (w:World):(Go.method 304 122 (.agg #[h]) "AssignableTo").run Tryz.prog w= .ok (204,.agg #[h]) w:=kr
theorem h0t (w:World):(ReflectliteType.method ReflectliteType.elem #[.agg #[.pointer (some ⟨9,69,none⟩)]]).run Tryz.prog w= .ok (.iface 122 (.agg #[.pointer (some ⟨9,64,none⟩)])) w:=kr
theorem d5v (w:World):(ReflectliteType.relation "Implements" ReflectliteType.implements_ #[.agg #[.pointer (some ⟨9,64,none⟩)],.iface 122 (.agg #[.pointer (some ⟨9,67,none⟩)])]).run Tryz.prog w= .ok (.bool true) w:=kr
theorem f6s (v:Value) (w:World):(ReflectliteType.typeOf #[.iface 64 v]).run Tryz.prog w= .ok (.iface 122 (.agg #[.pointer (some ⟨9,64,none⟩)])) w:=kr
theorem d4y (w:World):(ReflectliteType.relation "AssignableTo" ReflectliteType.assignableTo #[.agg #[.pointer (some ⟨9,64,none⟩)],.iface 122 (.agg #[.pointer (some ⟨9,64,none⟩)])]).run Tryz.prog w= .ok (.bool true) w:=kr
theorem e7p (c f e:Int) (w:World):(ReflectliteValue.unpack (.iface 64 (h8i c f e))).run Tryz.prog w
 = .ok (.agg #[.pointer (some ⟨9,64,none⟩),.pointer (some ⟨w.heap.size,0,none⟩),.int .u64 153]) (w.alloc (.cells (cells3 c f e) 64)):=kr
theorem f5u (w:World):(Rtype.elem? 69).run Tryz.prog w= .ok (some 64) w:=kr
theorem mk64 (p:Addr) (w:World):(ReflectliteValue.mk 64 p ReflectliteValue.flagAddr).run Tryz.prog w= .ok (.agg #[.pointer (some ⟨9,64,none⟩),.pointer (some p),.int .u64 409]) w:=kr
theorem g4b (a p:Addr) (W:World) (ha:W.cell? a=some (.pointer (some p))):
 (ReflectliteValue.method (ReflectliteValue.valueError "reflectlite.Value.Elem" 0) ReflectliteValue.elem #[.agg #[.pointer (some ⟨9,69,none⟩),.pointer (some a),.int .u64 150]]).run Tryz.prog W
  = .ok (.agg #[.pointer (some ⟨9,64,none⟩),.pointer (some p),.int .u64 409]) W:=by
 rw[rlm]
 simp only[Sem.run_bind,e8l,Result.andThen]
 simp[ReflectliteValue.elem,loadVar,isAgg,underlying,Tryz.underlying69,ha,Result.andThen,f5u,mk64]
theorem f5a (a:Addr) (w:World):(ReflectliteValue.parts (.agg #[.pointer (some ⟨9,64,none⟩),.pointer (some a),.int .u64 409])).run Tryz.prog w= .ok (some (64,a,409)) w:=kr
theorem g3v (a:Addr) (w:World):(ReflectliteValue.parts (.agg #[.pointer (some ⟨9,64,none⟩),.pointer (some a),.int .u64 153])).run Tryz.prog w= .ok (some (64,a,153)) w:=kr
theorem f8b (w:World):(Rtype.directlyAssignable 64 64).run Tryz.prog w= .ok true w:=kr
theorem g0k (w:World):(sizeOf 64).run Tryz.prog w= .ok 3 w:=kr
theorem h4b (b:Nat) (c f e:Int) (t:TypeId) (fz:Nat×Nat) (W:World) (hb:W.heap[b]? =some (.cells (cells3 c f e) t fz)):(loadVar 64 ⟨b,0,none⟩).run Tryz.prog W= .ok (h8i c f e) W:=by
 have hload:(loadCells ⟨b,0,none⟩ 3).run Tryz.prog W= .ok (cells3 c f e) W:=by
  have:=run_loadCells_list (P:=Tryz.prog) W ⟨b,0,none⟩ [.int .i64 c,.int .i64 f,.int .i64 e] (fun j v hj=>by
    have hadd:(⟨b,0,none⟩:Addr).add j=⟨b,j,none⟩:=by unfold Addr.add;split<;>simp_all
    have hcell:W.cell? ⟨b,j,none⟩=(cells3 c f e)[j]? :=by
     simp[World.cell?,hb]
    rw[hadd,hcell]
    simpa using hj)
  exact this
 have ha:(isAgg 64).run Tryz.prog W= .ok true W:=kr
 simp[loadVar,ha,g0k,hload,Result.andThen]
theorem g7s (b:Nat) (c f e:Int) (cur:Array Value) (t:TypeId) (W:World) (hb:W.heap[b]? =some (.cells cur t (0,0))) (hc:cur.size=3):(storeVar 64 ⟨b,0,none⟩ (h8i c f e)).run Tryz.prog W= .ok () (W.setRow b (cells3 c f e)):=by
 have hst:=run_storeCells_at Tryz.prog b 0 t [.int .i64 c,.int .i64 f,.int .i64 e] 0 cur W hb (by simp[hc]) (by simp;exact⟨rfl,rfl,rfl⟩)
 simp only[storeVar,Sem.run_bind,g0k,Result.andThen]
 rw[if_neg (by show ¬ 3≠3;simp)]
 have hd:List.drop (0+0+[Value.int .i64 c,Value.int .i64 f,Value.int .i64 e].length) cur.toList=[]:=List.drop_eq_nil_of_le (by simp[hc])
 rw[hd]at hst
 exact hst
theorem rls (v x:Value):ReflectliteValue.set #[v,x]=(do
    let(some (dst,a,fl),some (src,b,_)):=(<-ReflectliteValue.parts v,<-ReflectliteValue.parts x)
     |unsupported (.noEntry "extern/(internal/reflectlite.Value).Set.zeroValue")
    if fl / ReflectliteValue.flagAddr % 2==0 then unsupported (.noEntry "extern/(internal/reflectlite.Value).Set.unaddressable")
    let val<-loadVar src b
    if<-Rtype.directlyAssignable dst src then storeVar dst a val
    else if<-Rtype.implements dst src then
     if(<-Rtype.kind src)==20 then
      match val with
      | .nilIface=>unsupported (.noEntry "extern/reflectlite: a nil value of one interface type handed on as a value of another")
      |_=>storeVar dst a val
     else storeVar dst a (.iface src val)
    else panicString ("reflectlite.Set: value of type " ++(<-Rtype.spelt src)++ " is not assignable to type " ++(<-Rtype.spelt dst))
    pure (.tuple #[])):=rfl
theorem i1a (tb b:Nat) (c f e:Int) (cur:Array Value) (t t2:TypeId) (fz:Nat×Nat) (W:World) (hb:W.heap[b]? =some (.cells (cells3 c f e) t2 fz)) (ht:W.heap[tb]? =some (.cells cur t (0,0))) (hc:cur.size=3):
 (ReflectliteValue.set #[.agg #[.pointer (some ⟨9,64,none⟩),.pointer (some ⟨tb,0,none⟩),.int .u64 409],.agg #[.pointer (some ⟨9,64,none⟩),.pointer (some ⟨b,0,none⟩),.int .u64 153]]).run Tryz.prog W
  = .ok (.tuple #[]) (W.setRow tb (cells3 c f e)):=by
 rw[rls]
 simp only[Sem.run_bind,f5a,g3v,Result.andThen]
 simp[ReflectliteValue.flagAddr,h4b b c f e t2 fz W hb,Result.andThen,f8b,g7s tb c f e cur t W ht hc]
set_option maxHeartbeats 4000000 in
theorem h3u (c f e:Int) (tb:Nat) (cur:Array Value) (tt:TypeId) (w:World) (hg:w.cell? ⟨0,0,none⟩=some (.iface 122 (.agg #[.pointer (some ⟨9,67,none⟩)]))) (ht0:w.heap[tb]? =some (.cells cur tt (0,0))) (hcs:cur.size=3):
 Calls Tryz.prog 42 #[.iface 64 (h8i c f e),.iface 69 (.pointer (some ⟨tb,0,none⟩))] w fun ev w'=>ev= .returned (.bool true)/\w'=((((w.alloc (.cells #[.pointer (some ⟨tb,0,none⟩)] 69)).alloc (.cells #[.pointer (some ⟨9,69,none⟩),.pointer (some ⟨w.heap.size,0,none⟩),.int .u64 150] 94)).alloc (.cells #[.pointer (some ⟨9,69,none⟩),.pointer (some ⟨w.heap.size,0,none⟩),.int .u64 150] 94)).alloc (.cells (cells3 c f e) 64)).setRow tb (cells3 c f e):=by
 have h6:= @run_callFunc_extern Tryz.prog 73 _ (fun args=>ReflectliteValue.unpack (args.getD 0 (.tuple #[]))) Tryz.func73 kr kr kr kr
 have h7:= @run_callFunc_extern Tryz.prog 74 _ (ReflectliteValue.methodAny (ReflectliteValue.valueError "reflectlite.Value.Type" 0) (fun t _ _ _=>ReflectliteType.toType t)) Tryz.func74 kr kr kr kr
 have h8:= @run_callFunc_extern Tryz.prog 75 _ (ReflectliteValue.method (ReflectliteValue.valueError "reflectlite.Value.IsNil" 0) ReflectliteValue.isNil) Tryz.func75 kr kr kr kr
 have h27:= @run_callFunc_extern Tryz.prog 194 _ (ReflectliteType.abiMethod fun t=>do pure (.int .u8 (<-Rtype.kind t))) Tryz.func194 kr kr kr kr
 have h37:= @run_callFunc_extern Tryz.prog 206 _ (ReflectliteType.method ReflectliteType.elem) Tryz.func206 kr kr kr kr
 have h38:= @run_callFunc_extern Tryz.prog 207 _ (ReflectliteType.relation "Implements" ReflectliteType.implements_) Tryz.func207 kr kr kr kr
 have h10:= @run_callFunc_extern Tryz.prog 107 _ ReflectliteType.typeOf Tryz.func107 kr kr kr kr
 have h35:= @run_callFunc_extern Tryz.prog 204 _ (ReflectliteType.relation "AssignableTo" ReflectliteType.assignableTo) Tryz.func204 kr kr kr kr
 have h11:= @run_callFunc_extern Tryz.prog 108 _ (ReflectliteValue.method (ReflectliteValue.valueError "reflectlite.Value.Elem" 0) ReflectliteValue.elem) Tryz.func108 kr kr kr kr
 have h12:= @run_callFunc_extern Tryz.prog 109 _ ReflectliteValue.set Tryz.func109 kr kr kr kr
 have tO:=f6s
 have mA:=c1b
 have a64:=d4y
 have v64:=e7p
 have f6:=e7n
 have f7:=h5k
 have mK:=e5z
 have mE:=e6m
 have mI:=c5l
 have k69:=h6o
 have k64:=h2m
 have e69:=h0t
 have i64:=d5v
 have n8:=g6m ⟨w.heap.size,0,none⟩ ⟨tb,0,none⟩ ((w.alloc (.cells #[.pointer (some ⟨tb,0,none⟩)] 69)).alloc (.cells #[.pointer (some ⟨9,69,none⟩),.pointer (some ⟨w.heap.size,0,none⟩),.int .u64 150] 94)) (by simp)
 have hlt:0 < w.heap.size:=by
  rcases Nat.eq_zero_or_pos w.heap.size with h0|h
  ·simp[World.cell?,h0]at hg
  ·exact h
 have hg2:((w.alloc (.cells #[.pointer (some ⟨tb,0,none⟩)] 69)).alloc (.cells #[.pointer (some ⟨9,69,none⟩),.pointer (some ⟨w.heap.size,0,none⟩),.int .u64 150] 94)).cell? ⟨0,0,none⟩=some (.iface 122 (.agg #[.pointer (some ⟨9,67,none⟩)])):=by
  rw[World.cell?_alloc_lt _ _ ⟨0,0,none⟩ (by simp),World.cell?_alloc_lt _ _ ⟨0,0,none⟩ hlt];exact hg
 have htl:tb < w.heap.size:=by
  rcases Nat.lt_or_ge tb w.heap.size with h|h
  ·exact h
  ·rw[Array.getElem?_eq_none h]at ht0;cases ht0
 have el:=g4b ⟨w.heap.size,0,none⟩ ⟨tb,0,none⟩ (((w.alloc (.cells #[.pointer (some ⟨tb,0,none⟩)] 69)).alloc (.cells #[.pointer (some ⟨9,69,none⟩),.pointer (some ⟨w.heap.size,0,none⟩),.int .u64 150] 94)).alloc (.cells #[.pointer (some ⟨9,69,none⟩),.pointer (some ⟨w.heap.size,0,none⟩),.int .u64 150] 94)) (by rw[World.cell?_alloc_lt _ _ ⟨w.heap.size,0,none⟩ (by simp;omega)];simp)
 have st:=i1a tb (w.heap.size+1+1+1) c f e cur tt 64 (0,0) ((((w.alloc (.cells #[.pointer (some ⟨tb,0,none⟩)] 69)).alloc (.cells #[.pointer (some ⟨9,69,none⟩),.pointer (some ⟨w.heap.size,0,none⟩),.int .u64 150] 94)).alloc (.cells #[.pointer (some ⟨9,69,none⟩),.pointer (some ⟨w.heap.size,0,none⟩),.int .u64 150] 94)).alloc (.cells (cells3 c f e) 64))
  (by
    have:=heap_alloc_new (((w.alloc (.cells #[.pointer (some ⟨tb,0,none⟩)] 69)).alloc (.cells #[.pointer (some ⟨9,69,none⟩),.pointer (some ⟨w.heap.size,0,none⟩),.int .u64 150] 94)).alloc (.cells #[.pointer (some ⟨9,69,none⟩),.pointer (some ⟨w.heap.size,0,none⟩),.int .u64 150] 94)) (.cells (cells3 c f e) 64)
    simpa using this)
  (by rw[heap_alloc_old _ _ (by simp;omega),heap_alloc_old _ _ (by simp;omega),heap_alloc_old _ _ (by simp;omega),heap_alloc_old _ _ htl];exact ht0) hcs
 go_enter Tryz.func42,Tryz.ntmps42
 go_wp2
 refine wp_loop_rounds 1 ?_
 rw[rounds_succ]
 go_wp2
 go_ret
 exact⟨rfl,rfl⟩
end Go.Vm.Pj
namespace Go.Vm.Tp
open Go.Vm.Lex
structure Nd where
 k:Int
 t:List UInt8
 v:Int
 kids:List Int
 f:Int
 e:Int
def Nd.D (x:Nd):D:= .agg [.int .i64 x.k,.str x.t,.int .i64 x.v,.sl (x.kids.map (D.int .i64)),.int .i64 x.f,.int .i64 x.e]
def a6q (t:List Nd):D:= .agg [.sl (t.map Nd.D)]
instance:Inhabited Nd:=⟨⟨0,[],0,[],0,0⟩⟩
def I64 (n:Int):Prop:= -9223372036854775808<=n/\n<=9223372036854775807
def params (ks:List Int):Int:=(ks.filter fun k=>decide (k=7)).length
end Go.Vm.Tp
namespace Go.Vm.Pa
open Go.Vm.Lex (TokQ)
abbrev S:=List UInt8
instance:Inhabited TokQ:=⟨⟨0,[],0,0,0⟩⟩
abbrev w (n:Int):Int:=IntKind.i64.wrap n
def b2k (x:TokQ):D:= .agg [.int .i64 x.k,.str x.t,.int .i64 x.v,.int .i64 (x.f:Int),.int .i64 (x.e:Int)]
structure N where
 k:Int
 t:S
 v:Int
 ks:List D
def N.D (n:N) (f e:Int):D:= .agg [.int .i64 n.k,.str n.t,.int .i64 n.v,.sl n.ks,.int .i64 f,.int .i64 e]
structure PS where
 at_:Int
 deep:Int
 ns:List D
 n:Nat
 bc:Int
 bf:Int
 be:Int
structure K where
 l:List D
 n:Nat
def K.o:K:=⟨[],0⟩
def okK (k:K):Bool:=decide (k.l.length=k.n) && decide (k.n < 1000000)
def push (k:K) (i:Int):K:=⟨k.l++[.int .i64 i],k.n+1⟩
structure R where
 i:Int
 b:Bool
 ks:K
 v:Int
abbrev rI (i:Int):R:=⟨i,false,K.o,0⟩
abbrev rK (ks:K):R:=⟨0,false,ks,0⟩
section
variable (l:List TokQ)
def now (s:PS):TokQ:=l.getD s.at_.toNat default
def okS (s:PS):Bool:=decide (0<=s.at_) && decide (s.at_ < l.length)
def okF (fr:Int):Bool:=decide (0<=fr) && decide (fr < l.length)
def isS (s:PS) (x:S):Bool:=(decide ((now l s).k=2)||decide ((now l s).k=4)) && decide ((now l s).t=x)
def okB (s:PS):Bool:=decide (s.bc=0)
def a2h (c:Int) (s:PS):PS:=if okB s then{s with bc:=c,bf:=(now l s).f,be:=(now l s).e } else s
def adv (s:PS):PS:={s with at_:=w (s.at_+1)}
def down (s:PS):PS:={s with deep:=w (s.deep - 1)}
def a1o (x:S) (s:PS):Bool×PS:=if okB s && isS l s x then(true,adv s) else(false,s)
def a2i (x:S) (s:PS):Bool×PS:=if okB s && isS l s x then(true,adv s) else(false,a2h l 120 s)
def a3j (s:PS):S×PS:=if okB s && decide ((now l s).k=1) then((now l s).t,adv s) else([],a2h l 120 s)
def anyS (s:PS) (xs:List S):Bool:=xs.any (isS l s)
def f8o:List S:=[[105,54,52],[98,111,111,108],[40],[38],[66,111,120]]
def f9i:List S:=[[116,114,117,101],[102,97,108,115,101],[40],[66,111,120],[105,102],[109,97,116,99,104],[123],[45],[33],[42],[38]]
def h3q:List S:=[[95],[116,114,117,101],[102,97,108,115,101],[45]]
def a1w (c:Int) (s:PS):Bool:=
 if c=116 then decide ((now l s).k=1)||anyS l s f8o
 else if c=101 then decide ((now l s).k=1)||decide ((now l s).k=3)||anyS l s f9i
 else if c=112 then decide ((now l s).k=1)||decide ((now l s).k=3)||anyS l s h3q
 else isS l s [123]
def a8r (c:Int) (s:PS):PS:=if okB s && !a1w l c s then a2h l 120 s else s
def b2f (s:PS):PS:=if okB s && decide (100<=s.deep) then a2h l 121 s else s
def a3t (s:PS):PS:={s with deep:=w (s.deep+1)}
def b3k (c:Int) (s:PS):Bool×PS:=(okB (a3t (b2f l (a8r l c s))),a3t (b2f l (a8r l c s)))
def a2y (fr:Int) (n:N) (s:PS):Option (Int×PS):=
 if s.ns.length=s.n/\s.n < 1000000/\okF l fr/\(fr < s.at_->okF l (w (s.at_ - 1))) then
  some (w (((s.n+1:Nat):Int) - 1),{s with n:=s.n+1,ns:=s.ns++[n.D (l.getD fr.toNat default).f (if fr < s.at_ then((l.getD (w (s.at_ - 1)).toNat default).e:Int) else 0)]})
 else none
def b1k (r:Int):List S:=if r=0 then[[124,124]] else if r=1 then[[38,38]] else if r=2 then[[60],[60,61],[62],[62,61],[61,61],[33,61]] else if r=3 then[[43],[45]] else[[42],[47],[37]]
def b7v (r:Int) (s:PS):S:=((b1k r).find? fun x=>okB s && isS l s x).getD []
end
inductive Q where
 |typ|typed (fr:Int)|param|field|variant
 |params (ks:K) (v:Int)|function|fields (k:Int) (ks:K)|parts (k:Int)
 |item|items (ks:K)
 |stmts (ks:K)|block|stmt|let_ (fr:Int)|blocky (fr:Int)|branch|cond|match_|arms (ks:K)|arm
 |pattern|patterned (fr:Int)
 |expr (bare:Bool)|row (r:Int) (bare:Bool)|rows (r:Int) (bare:Bool) (fr:Int) (a:Int)
 |operand (bare:Bool)|prefix_ (bare:Bool)|postfix_ (bare:Bool)|gets (fr:Int) (a:Int)
 |primary (bare:Bool)|named (fr:Int) (bare:Bool)|args (ks:K)|inits (ks:K)|init
abbrev M:=Option (R×PS)
def one (i:Int):List D:=[.int .i64 i]
def two (i j:Int):List D:=[.int .i64 i,.int .i64 j]
section
variable (l:List TokQ) (go:Q->PS->M)
def cl (q:Q) (s:PS):M:=match go q s with|some (r,s1)=>if okS l s1 then some (r,s1) else none|none=>none
def ret (x:Option (Int×PS)):M:=match x with|some (i,s)=>some (rI i,s)|none=>none
def b1i (fr:Int) (n:N) (s:PS):M:=match a2y l fr n s with
 |none=>none
 |some (i,s1)=>match a2i l [59] s1 with|(_,s2)=>some (rI i,s2)
def b4n (fr:Int) (n:N) (s:PS):M:=match b1i l fr n s with
 |none=>none
 |some (r,s1)=>some (rI r.i,s1)
def mk (fr:Int) (k:Int) (t:S) (v:Int) (ks:List D) (s:PS):M:=ret (a2y l fr ⟨k,t,v,ks⟩ s)
def deeper (c:Int) (q:Q) (s:PS):M:=match b3k l c s with
 |(false,s1)=>some (rI 0,down s1)
 |(true,s1)=>match cl l go q s1 with|none=>none|some (a,s2)=>some (rI a.i,down s2)
def step:Q->PS->M
 | .typ,s=>deeper l go 116 (.typed s.at_) s
 | .typed fr,s=>match a1o l [105,54,52] s with
   |(true,s1)=>mk l fr 10 [] 0 [] s1
   |(false,s1)=>match a1o l [98,111,111,108] s1 with
   |(true,s2)=>mk l fr 11 [] 0 [] s2
   |(false,s2)=>match a1o l [40] s2 with
   |(true,s3)=>(match a2i l [41] s3 with|(_,s4)=>mk l fr 12 [] 0 [] s4)
   |(false,s3)=>match a1o l [38] s3 with
   |(true,s4)=>(match a1o l [109,117,116] s4 with
    |(true,s5)=>(match cl l go .typ s5 with|none=>none|some (r,s6)=>mk l fr 15 [] 0 (one r.i) s6)
    |(false,s5)=>match cl l go .typ s5 with|none=>none|some (r,s6)=>mk l fr 14 [] 0 (one r.i) s6)
   |(false,s4)=>match a1o l [66,111,120] s4 with
   |(true,s5)=>(match a2i l [60] s5 with|(_,s6)=>match cl l go .typ s6 with|none=>none|some (r,s7)=>match a2i l [62] s7 with|(_,s8)=>mk l fr 16 [] 0 (one r.i) s8)
   |(false,s5)=>match a3j l s5 with|(t,s6)=>mk l fr 13 t 0 [] s6
 | .param,s=>match a1o l [109,117,116] s with
   |(m,s1)=>match a3j l s1 with
   |(t,s2)=>match a2i l [58] s2 with
   |(_,s3)=>match cl l go .typ s3 with
   |none=>none
   |some (r,s4)=>match m with
    |true=>mk l s.at_ 7 t 1 (one r.i) s4
    |false=>mk l s.at_ 7 t 0 (one r.i) s4
 | .field,s=>match a3j l s with
   |(t,s2)=>match a2i l [58] s2 with
   |(_,s3)=>match cl l go .typ s3 with
   |none=>none
   |some (r,s4)=>mk l s.at_ 5 t 0 (one r.i) s4
 | .variant,s=>match a3j l s with
   |(t,s2)=>match a1o l [40] s2 with
   |(true,s3)=>(match cl l go .typ s3 with
    |none=>none
    |some (r,s4)=>match a2i l [41] s4 with|(_,s5)=>mk l s.at_ 6 t 0 (one r.i) s5)
   |(false,s3)=>mk l s.at_ 6 t 0 [] s3
 | .params ks v,s=>match okB s with
   |false=>some (⟨0,false,ks,v⟩,s)
   |true=>match isS l s [41] with
   |true=>some (⟨0,false,ks,v⟩,s)
   |false=>match cl l go .param s with
   |none=>none
   |some (r,s1)=>match okK ks with
   |false=>none
   |true=>match a1o l [44] s1 with
   |(true,s2)=>go (.params (push ks r.i) (w (v+1))) s2
   |(false,s2)=>some (⟨0,false,(push ks r.i),w (v+1)⟩,s2)
 | .function,s0=>match a2i l [102,110] s0 with
   |(_,s1)=>match a3j l s1 with
   |(t,s2)=>match a2i l [40] s2 with
   |(_,s3)=>match cl l go (.params K.o 0) s3 with
   |none=>none
   |some (p,s4)=>match a2i l [41] s4 with
   |(_,s5)=>match a1o l [45,62] s5 with
   |(true,s6)=>(match cl l go .typ s6 with
    |none=>none
    |some (r,s7)=>match okK p.ks with
    |false=>none
    |true=>match cl l go .block s7 with
    |none=>none
    |some (q,s8)=>match okK (push p.ks r.i)with
    |false=>none
    |true=>match okK (push (push p.ks r.i) q.i)with|false=>none|true=>mk l s0.at_ 2 t p.v (push (push p.ks r.i) q.i).l s8)
   |(false,s6)=>match okB s6 with
    |true=>(if s6.ns.length=s6.n/\s6.n < 1000000/\okF l (w (s6.at_ - 1)) then match okK p.ks with
     |false=>none
     |true=>match cl l go .block {s6 with n:=s6.n+1,ns:=s6.ns++[N.D ⟨12,[],0,[]⟩ (l.getD (w (s6.at_ - 1)).toNat default).e (l.getD (w (s6.at_ - 1)).toNat default).e]}with
     |none=>none
     |some (q,s8)=>match okK (push p.ks (w (((s6.n+1:Nat):Int) - 1)))with
     |false=>none
     |true=>match okK (push (push p.ks (w (((s6.n+1:Nat):Int) - 1))) q.i)with|false=>none|true=>mk l s0.at_ 2 t p.v (push (push p.ks (w (((s6.n+1:Nat):Int) - 1))) q.i).l s8
     else none)
    |false=>match cl l go .block s6 with
     |none=>none
     |some (q,s8)=>match okK p.ks with
     |false=>none
     |true=>match okK (push p.ks q.i)with|false=>none|true=>mk l s0.at_ 2 t p.v (push p.ks q.i).l s8
 | .fields k ks,s=>match okB s with
   |false=>some (rK ks,s)
   |true=>match isS l s [125] with
   |true=>some (rK ks,s)
   |false=>match decide (k=3)with
   |true=>(match cl l go .field s with
    |none=>none
    |some (r,s1)=>match okK ks with
    |false=>none
    |true=>match a1o l [44] s1 with
    |(true,s2)=>go (.fields k (push ks r.i)) s2
    |(false,s2)=>some (rK (push ks r.i),s2))
   |false=>match cl l go .variant s with
    |none=>none
    |some (r,s1)=>match okK ks with
    |false=>none
    |true=>match a1o l [44] s1 with
    |(true,s2)=>go (.fields k (push ks r.i)) s2
    |(false,s2)=>some (rK (push ks r.i),s2)
 | .parts k,s0=>match okS l (adv s0)with
   |false=>none
   |true=>match a3j l (adv s0)with
   |(t,s1)=>match a2i l [123] s1 with
   |(_,s2)=>match cl l go (.fields k K.o) s2 with
   |none=>none
   |some (p,s3)=>match a2i l [125] s3 with
   |(_,s4)=>match okK p.ks with|false=>none|true=>mk l s0.at_ k t 0 p.ks.l s4
 | .item,s=>match isS l s [115,116,114,117,99,116] with
   |true=>cl l go (.parts 3) s
   |false=>match isS l s [101,110,117,109] with
   |true=>cl l go (.parts 4) s
   |false=>cl l go .function s
 | .items ks,s=>match okB s with
   |false=>some (rK ks,s)
   |true=>match(!decide ((now l s).k=5))with
   |false=>some (rK ks,s)
   |true=>match cl l go .item s with
   |none=>none
   |some (r,s1)=>match okK ks with
   |false=>none
   |true=>go (.items (push ks r.i)) s1
 | .stmts ks,s=>match okB s with
   |false=>some (rK ks,s)
   |true=>match isS l s [125] with
   |true=>some (rK ks,s)
   |false=>match cl l go .stmt s with
   |none=>none
   |some (r,s1)=>match okK ks with
   |false=>none
   |true=>match r.b with
   |true=>some (⟨0,true,(push ks r.i),1⟩,s1)
   |false=>go (.stmts (push ks r.i)) s1
 | .block,s0=>match b3k l 98 s0 with
   |(false,s1)=>mk l s0.at_ 20 [] 0 [] (down s1)
   |(true,s1)=>match a2i l [123] s1 with
   |(_,s2)=>match cl l go (.stmts K.o) s2 with
   |none=>none
   |some (p,s3)=>match a2i l [125] s3 with
   |(_,s4)=>match okK p.ks with|false=>none|true=>mk l s0.at_ 20 [] p.v p.ks.l (down s4)
 | .stmt,s0=>match isS l s0 [108,101,116] with
   |true=>(match cl l go (.let_ s0.at_) s0 with|none=>none|some (r,s1)=>some (rI r.i,s1))
   |false=>match a1o l [119,104,105,108,101] s0 with
   |(true,s1)=>(match cl l go (.expr true) s1 with
    |none=>none
    |some (x,s2)=>match cl l go .block s2 with
    |none=>none
    |some (y,s3)=>mk l s0.at_ 24 [] 0 (two x.i y.i) s3)
   |(false,s1)=>match a1o l [114,101,116,117,114,110] s1 with
   |(true,s2)=>(match isS l s2 [59] with
    |true=>b4n l s0.at_ ⟨25,[],0,[]⟩ s2
    |false=>match cl l go (.expr false) s2 with
     |none=>none
     |some (x,s3)=>b4n l s0.at_ ⟨25,[],0,one x.i⟩ s3)
   |(false,s2)=>match a1o l [98,114,101,97,107] s2 with
   |(true,s3)=>b4n l s0.at_ ⟨26,[],0,[]⟩ s3
   |(false,s3)=>match a1o l [99,111,110,116,105,110,117,101] s3 with
   |(true,s4)=>b4n l s0.at_ ⟨27,[],0,[]⟩ s4
   |(false,s4)=>match isS l s4 [105,102] with
   |true=>cl l go (.blocky s0.at_) s4
   |false=>match isS l s4 [109,97,116,99,104] with
   |true=>cl l go (.blocky s0.at_) s4
   |false=>match isS l s4 [123] with
   |true=>cl l go (.blocky s0.at_) s4
   |false=>match cl l go (.expr false) s4 with
   |none=>none
   |some (x,s5)=>match a1o l [61] s5 with
   |(true,s6)=>(match cl l go (.expr false) s6 with
    |none=>none
    |some (y,s7)=>b4n l s0.at_ ⟨23,[],0,two x.i y.i⟩ s7)
   |(false,s6)=>match isS l s6 [125] with
   |true=>some (⟨x.i,true,K.o,0⟩,s6)
   |false=>b4n l s0.at_ ⟨22,[],0,one x.i⟩ s6
 | .let_ fr,s0=>match a2i l [108,101,116] s0 with
   |(_,s1)=>match a1o l [109,117,116] s1 with
   |(m,s2)=>match a3j l s2 with
   |(t,s3)=>match a1o l [58] s3 with
   |(true,s4)=>(match cl l go .typ s4 with
    |none=>none
    |some (x,s5)=>match a2i l [61] s5 with
    |(_,s6)=>match cl l go (.expr false) s6 with
    |none=>none
    |some (y,s7)=>match m with
     |true=>b1i l fr ⟨21,t,1,two x.i y.i⟩ s7
     |false=>b1i l fr ⟨21,t,0,two x.i y.i⟩ s7)
   |(false,s4)=>match a2i l [61] s4 with
    |(_,s6)=>match cl l go (.expr false) s6 with
    |none=>none
    |some (y,s7)=>match m with
     |true=>b1i l fr ⟨21,t,1,one y.i⟩ s7
     |false=>b1i l fr ⟨21,t,0,one y.i⟩ s7
 | .blocky fr,s0=>match cl l go .branch s0 with
   |none=>none
   |some (k,s1)=>match isS l s1 [125] with
   |true=>some (⟨k.i,true,K.o,0⟩,s1)
   |false=>match a2y l fr ⟨22,[],0,one k.i⟩ s1 with
   |none=>none
   |some (i,s2)=>match a1o l [59] s2 with
   |(_,s3)=>some (rI i,s3)
 | .branch,s=>match isS l s [105,102] with
   |true=>cl l go .cond s
   |false=>match isS l s [109,97,116,99,104] with
   |true=>cl l go .match_ s
   |false=>cl l go .block s
 | .cond,s0=>match a2i l [105,102] s0 with
   |(_,s1)=>match cl l go (.expr true) s1 with
   |none=>none
   |some (x,s2)=>match cl l go .block s2 with
   |none=>none
   |some (y,s3)=>match a1o l [101,108,115,101] s3 with
   |(false,s4)=>mk l s0.at_ 45 [] 0 (two x.i y.i) s4
   |(true,s4)=>match isS l s4 [105,102] with
    |false=>(match cl l go .block s4 with
     |none=>none
     |some (z,s5)=>mk l s0.at_ 45 [] 0 [.int .i64 x.i,.int .i64 y.i,.int .i64 z.i] s5)
    |true=>match b3k l 101 s4 with
     |(false,s5)=>mk l s0.at_ 45 [] 0 [.int .i64 x.i,.int .i64 y.i,.int .i64 0] (down s5)
     |(true,s5)=>match cl l go .cond s5 with
      |none=>none
      |some (z,s6)=>mk l s0.at_ 45 [] 0 [.int .i64 x.i,.int .i64 y.i,.int .i64 z.i] (down s6)
 | .match_,s0=>match a2i l [109,97,116,99,104] s0 with
   |(_,s1)=>match cl l go (.expr true) s1 with
   |none=>none
   |some (x,s2)=>match a2i l [123] s2 with
   |(_,s3)=>match cl l go (.arms ⟨one x.i,1⟩) s3 with
   |none=>none
   |some (p,s4)=>match a2i l [125] s4 with
   |(_,s5)=>match okK p.ks with|false=>none|true=>mk l s0.at_ 46 [] 0 p.ks.l s5
 | .arms ks,s=>match okB s with
   |false=>some (rK ks,s)
   |true=>match isS l s [125] with
   |true=>some (rK ks,s)
   |false=>match cl l go .arm s with
   |none=>none
   |some (r,s1)=>match okK ks with
   |false=>none
   |true=>go (.arms (push ks r.i)) s1
 | .arm,s0=>match cl l go .pattern s0 with
   |none=>none
   |some (x,s1)=>match a2i l [61,62] s1 with
   |(_,s2)=>match isS l s2 [123] with
   |true=>(match cl l go .block s2 with
    |none=>none
    |some (y,s3)=>match a2y l s0.at_ ⟨47,[],0,two x.i y.i⟩ s3 with
    |none=>none
    |some (i,s4)=>match a1o l [44] s4 with
    |(_,s5)=>some (rI i,s5))
   |false=>match cl l go (.expr false) s2 with
    |none=>none
    |some (y,s3)=>match a2y l s0.at_ ⟨47,[],0,two x.i y.i⟩ s3 with
    |none=>none
    |some (i,s4)=>match isS l s4 [125] with
    |true=>some (rI i,s4)
    |false=>match a2i l [44] s4 with
    |(_,s5)=>some (rI i,s5)
 | .pattern,s=>deeper l go 112 (.patterned s.at_) s
 | .patterned fr,s=>match a1o l [95] s with
   |(true,s1)=>mk l fr 50 [] 0 [] s1
   |(false,s1)=>match a1o l [116,114,117,101] s1 with
   |(true,s2)=>mk l fr 53 [] 1 [] s2
   |(false,s2)=>match a1o l [102,97,108,115,101] s2 with
   |(true,s3)=>mk l fr 53 [] 0 [] s3
   |(false,s3)=>match isS l s3 [45] with
   |true=>numS fr s3
   |false=>match decide ((now l s3).k=3)with
   |true=>numS fr s3
   |false=>match a3j l s3 with
   |(t,s4)=>match a1o l [58,58] s4 with
   |(false,s5)=>mk l fr 51 t 0 [] s5
   |(true,s5)=>match a3j l s5 with
   |(u,s6)=>match a1o l [40] s6 with
   |(false,s7)=>mk l fr 54 (t++[58,58]++u) 0 [] s7
   |(true,s7)=>match cl l go .pattern s7 with
   |none=>none
   |some (r,s8)=>match a2i l [41] s8 with
   |(_,s9)=>mk l fr 54 (t++[58,58]++u) 0 (one r.i) s9
 | .expr bare,s=>deeper l go 101 (.row 0 bare) s
 | .row r bare,s=>match decide (r=5)with
   |true=>cl l go (.prefix_ bare) s
   |false=>match cl l go (.row (w (r+1)) bare) s with
   |none=>none
   |some (a,s1)=>match cl l go (.rows r bare s.at_ a.i) s1 with
   |none=>none
   |some (a,s2)=>some (rI a.i,s2)
 | .rows r bare fr a,s=>match okB s with
   |false=>some (rI a,s)
   |true=>match(!decide (b7v l r s=[]))with
   |false=>some (rI a,s)
   |true=>match okS l (adv s)with
   |false=>none
   |true=>match cl l go (.row (w (r+1)) bare) (adv s)with
   |none=>none
   |some (b,s1)=>match a2y l fr ⟨38,b7v l r s,0,two a b.i⟩ s1 with
   |none=>none
   |some (i,s2)=>match decide (r=2)with
   |true=>some (rI i,s2)
   |false=>go (.rows r bare fr i) s2
 | .operand bare,s=>deeper l go 101 (.prefix_ bare) s
 | .prefix_ bare,s=>match a1o l [45] s with
   |(true,s1)=>(match cl l go (.operand bare) s1 with|none=>none|some (r,s2)=>mk l s.at_ 39 [] 0 (one r.i) s2)
   |(false,s1)=>match a1o l [33] s1 with
   |(true,s2)=>(match cl l go (.operand bare) s2 with|none=>none|some (r,s3)=>mk l s.at_ 40 [] 0 (one r.i) s3)
   |(false,s2)=>match a1o l [42] s2 with
   |(true,s3)=>(match cl l go (.operand bare) s3 with|none=>none|some (r,s4)=>mk l s.at_ 42 [] 0 (one r.i) s4)
   |(false,s3)=>match a1o l [38] s3 with
   |(true,s4)=>(match a1o l [109,117,116] s4 with
    |(true,s5)=>(match cl l go (.operand bare) s5 with|none=>none|some (r,s6)=>mk l s.at_ 43 [] 1 (one r.i) s6)
    |(false,s5)=>match cl l go (.operand bare) s5 with|none=>none|some (r,s6)=>mk l s.at_ 43 [] 0 (one r.i) s6)
   |(false,s4)=>cl l go (.postfix_ bare) s4
 | .postfix_ bare,s=>match cl l go (.primary bare) s with
   |none=>none
   |some (a,s1)=>match cl l go (.gets s.at_ a.i) s1 with
   |none=>none
   |some (a,s2)=>some (rI a.i,s2)
 | .gets fr a,s=>match a1o l [46] s with
   |(false,s1)=>some (rI a,s1)
   |(true,s1)=>match a3j l s1 with
   |(t,s2)=>match a2y l fr ⟨41,t,0,one a⟩ s2 with
   |none=>none
   |some (i,s3)=>go (.gets fr i) s3
 | .primary bare,s=>match okB s with
   |false=>none
   |true=>match decide ((now l s).k=3)with
   |true=>(match okS l (adv s)with|false=>none|true=>mk l s.at_ 30 [] (now l s).v [] (adv s))
   |false=>match a1o l [116,114,117,101] s with
   |(true,s1)=>mk l s.at_ 31 [] 1 [] s1
   |(false,s1)=>match a1o l [102,97,108,115,101] s1 with
   |(true,s2)=>mk l s.at_ 31 [] 0 [] s2
   |(false,s2)=>match a1o l [40] s2 with
   |(true,s3)=>(match a1o l [41] s3 with
    |(true,s4)=>mk l s.at_ 32 [] 0 [] s4
    |(false,s4)=>match cl l go (.expr false) s4 with
     |none=>none
     |some (r,s5)=>match a2i l [41] s5 with|(_,s6)=>some (rI r.i,s6))
   |(false,s3)=>match a1o l [66,111,120] s3 with
   |(true,s4)=>(match a2i l [58,58] s4 with
    |(_,s5)=>match okB s5 with
     |true=>(match(!decide ((now l s5).k=1))with
      |true=>newS s.at_ (a2h l 120 s5)
      |false=>match(!decide ((now l s5).t=[110,101,119]))with
       |true=>newS s.at_ (a2h l 120 s5)
       |false=>newS s.at_ s5)
     |false=>newS s.at_ s5)
   |(false,s4)=>match isS l s4 [105,102] with
   |true=>cl l go .branch s4
   |false=>match isS l s4 [109,97,116,99,104] with
   |true=>cl l go .branch s4
   |false=>match isS l s4 [123] with
   |true=>cl l go .branch s4
   |false=>cl l go (.named s.at_ bare) s4
 | .named fr bare,s=>match a3j l s with
   |(t,s1)=>match a1o l [40] s1 with
   |(true,s2)=>(match cl l go (.args K.o) s2 with
    |none=>none
    |some (p,s3)=>match a2i l [41] s3 with
    |(_,s4)=>match okK p.ks with|false=>none|true=>mk l fr 34 t 0 p.ks.l s4)
   |(false,s2)=>match bare with
    |true=>pickS fr t s2
    |false=>match a1o l [123] s2 with
     |(true,s3)=>(match cl l go (.inits K.o) s3 with
      |none=>none
      |some (p,s4)=>match a2i l [125] s4 with
      |(_,s5)=>match okK p.ks with|false=>none|true=>mk l fr 35 t 0 p.ks.l s5)
     |(false,s3)=>pickS fr t s3
 | .args ks,s=>match okB s with
   |false=>some (rK ks,s)
   |true=>match isS l s [41] with
   |true=>some (rK ks,s)
   |false=>match cl l go (.expr false) s with
   |none=>none
   |some (r,s1)=>match okK ks with
   |false=>none
   |true=>match a1o l [44] s1 with
   |(true,s2)=>go (.args (push ks r.i)) s2
   |(false,s2)=>some (rK (push ks r.i),s2)
 | .inits ks,s=>match okB s with
   |false=>some (rK ks,s)
   |true=>match isS l s [125] with
   |true=>some (rK ks,s)
   |false=>match cl l go .init s with
   |none=>none
   |some (r,s1)=>match okK ks with
   |false=>none
   |true=>match a1o l [44] s1 with
   |(true,s2)=>go (.inits (push ks r.i)) s2
   |(false,s2)=>some (rK (push ks r.i),s2)
 | .init,s=>match a3j l s with
   |(t,s1)=>match a2i l [58] s1 with
   |(_,s2)=>match cl l go (.expr false) s2 with
   |none=>none
   |some (r,s3)=>mk l s.at_ 36 t 0 (one r.i) s3
where
 numS (fr:Int) (s3:PS):M:=match a1o l [45] s3 with
  |(m,s4)=>match(!decide ((now l s4).k=3))with
  |true=>some (rI 0,a2h l 120 s4)
  |false=>match okS l (adv s4)with
  |false=>none
  |true=>match m with
   |true=>mk l fr 52 [] (w (0 - (now l s4).v)) [] (adv s4)
   |false=>mk l fr 52 [] (now l s4).v [] (adv s4)
 newS (fr:Int) (s5:PS):M:=match a3j l s5 with
  |(_,s6)=>match a2i l [40] s6 with
  |(_,s7)=>match cl l go (.expr false) s7 with
  |none=>none
  |some (r,s8)=>match a2i l [41] s8 with
  |(_,s9)=>mk l fr 44 [] 0 (one r.i) s9
 pickS (fr:Int) (t:S) (s2:PS):M:=match a1o l [58,58] s2 with
  |(false,s3)=>mk l fr 33 t 0 [] s3
  |(true,s3)=>match a3j l s3 with
  |(u,s4)=>match a1o l [40] s4 with
  |(false,s5)=>mk l fr 37 (t++[58,58]++u) 0 [] s5
  |(true,s5)=>match cl l go (.expr false) s5 with
  |none=>none
  |some (r,s6)=>match a2i l [41] s6 with
  |(_,s7)=>mk l fr 37 (t++[58,58]++u) 0 (one r.i) s7
end
def go (l:List TokQ):Nat->Q->PS->M
 |0=>fun _ _=>none
 |n+1=>step l (go l n)
end Go.Vm.Pa
namespace Go.Vm.Ite
open Go.Vm.Lex (TokQ)
open Go.Vm.Pa hiding go
def PB (l:List TokQ) (s:PS):Ob:= .box [.d (.sl (l.map b2k)),.d (.int .i64 s.at_),.d (.int .i64 s.deep),.row 1 s.n,.d (.int .i64 s.bc),.d (.int .i64 s.bf),.d (.int .i64 s.be)]
def PR (s:PS):Ob:= .row 6 s.ns
theorem a7l {l:List TokQ} {s:PS} (h:okS l s=true):0<=s.at_/\s.at_ < l.length:=by simpa [okS] using h
theorem g6y {l:List TokQ} {n:Int} (h:okF l n=true):0<=n/\n < l.length:=by simpa [okF] using h
theorem c8j {l:List TokQ} {n:Int} (h:0<=n/\n < l.length):0<=n/\(l.map b2k)[n.toNat]? =some (b2k (l.getD n.toNat default)):=by
 refine⟨h.1,?_⟩
 have:n.toNat < l.length:=om
 rw[List.getElem?_map,List.getElem?_eq_getElem this]
 simp[List.getD_eq_getElem?_getD,List.getElem?_eq_getElem this]
section
variable {fx:Nat->Option Obj} {F:Nat->Option a0v} {l:List TokQ} {s s1:PS} {X:Hp}
theorem lift {f:Nat} {a:List V} {s':PS} {r:V} (h:evF (pgL fx F0) f a [PB l s,PR s]=some (r,[PB l s',PR s'])) (ha:a0z 2 a=true) (hr:r.und 2=true):evF (pgL fx F) f a (PB l s::PR s::X)=some (r,PB l s'::PR s'::X):=by
 apply up
 exact e9y (mv fx) h ha rfl rfl rfl hr
theorem c0t (h:okS l s=true):evF (pgL fx F) c2t [.ptr 0 0] (PB l s::PR s::X)=some (.d (b2k (now l s)),PB l s::PR s::X):=by
 refine lift ?_ rfl rfl
 have hg:=c8j (a7l h)
 refine a0h (c1h (F:=F0)) rfl rfl rfl ?_
 repeat' (first|refine run ⟨?_⟩|refine b5n hg ?_|fail)
 exact rfl
theorem b2c {b:Bool} (e:okB s=b):evF (pgL fx F) b2t [.ptr 0 0] (PB l s::PR s::X)=some (boo b,PB l s::PR s::X):=by
 subst e
 refine lift ?_ rfl rfl
 refine a0h (c2z (F:=F0)) rfl rfl rfl ?_
 refine run ⟨?_⟩
 exact rfl
theorem h0c (h:okS l s=true) (c:Int):evF (pgL fx F0) b1b [.ptr 0 0,.d (.int .i64 c)] [PB l s,PR s]=some (.tup [],[PB l (a2h l c s),PR (a2h l c s)]):=by
 refine a0h (b8j (F:=F0)) rfl rfl rfl ?_
 unfold a2h
 cases e:okB s with
 |true=>
  repeat' (first|refine run ⟨?_⟩|refine ca (b2c e) ?_|refine ca (c0t h) ?_|fail)
  exact rfl
 |false=>
  repeat' (first|refine run ⟨?_⟩|refine ca (b2c e) ?_|refine ca (c0t h) ?_|fail)
  exact rfl
theorem c5c (h:okS l s=true) {c:Int}:evF (pgL fx F) b1b [.ptr 0 0,.d (.int .i64 c)] (PB l s::PR s::X)=some (.tup [],PB l (a2h l c s)::PR (a2h l c s)::X):=lift (h0c h c) rfl rfl
theorem is_s (h:okS l s=true) (x:S):evF (pgL fx F0) b2v [.ptr 0 0,str x] [PB l s,PR s]=some (boo (isS l s x),[PB l s,PR s]):=by
 refine a0h (c4k (F:=F0)) rfl rfl rfl ?_
 cases c2:decide ((now l s).k=2)<;>cases c4:decide ((now l s).k=4)<;>unfold isS<;>rw[c2,c4]
 all_goals
  repeat' (first|refine run ⟨?_⟩|refine ca (c0t h) ?_|fail)
  exact rfl
theorem c2c (h:okS l s=true) {x:S} {b:Bool} (e:isS l s x=b):evF (pgL fx F) b2v [.ptr 0 0,.d (.str x)] (PB l s::PR s::X)=some (.d (.bool b),PB l s::PR s::X):=by
 subst e;exact lift (is_s h x) rfl rfl
theorem h3d (h:okS l s=true) (x:S):evF (pgL fx F0) a5z [.ptr 0 0,str x] [PB l s,PR s]=some (boo (a1o l x s).1,[PB l (a1o l x s).2,PR (a1o l x s).2]):=by
 refine a0h (b9n (F:=F0)) rfl rfl rfl ?_
 unfold a1o
 cases e:okB s with
 |false=>
  repeat' (first|refine run ⟨?_⟩|refine ca (b2c e) ?_|fail)
  exact rfl
 |true=>
  cases e2:isS l s x with
  |true=>
   repeat' (first|refine run ⟨?_⟩|refine ca (b2c e) ?_|refine ca (c2c h e2) ?_|fail)
   exact rfl
  |false=>
   repeat' (first|refine run ⟨?_⟩|refine ca (b2c e) ?_|refine ca (c2c h e2) ?_|fail)
   exact rfl
theorem a4q (h:okS l s=true) {x:S} {b:Bool} (e:a1o l x s=(b,s1)):evF (pgL fx F) a5z [.ptr 0 0,.d (.str x)] (PB l s::PR s::X)=some (.d (.bool b),PB l s1::PR s1::X):=by
 have:=lift (F:=F) (X:=X) (h3d (fx:=fx) h x) rfl rfl
 rw[e]at this;exact this
theorem h2q (h:okS l s=true) (x:S):evF (pgL fx F0) a5s [.ptr 0 0,str x] [PB l s,PR s]=some (.tup [],[PB l (a2i l x s).2,PR (a2i l x s).2]):=by
 refine a0h (b8t (F:=F0)) rfl rfl rfl ?_
 cases e:okB s && isS l s x with
 |true=>
  have et:a1o l x s=(true,adv s):=by unfold a1o;rw[e];rfl
  have en:a2i l x s=(true,adv s):=by unfold a2i;rw[e];rfl
  rw[en]
  repeat' (first|refine run ⟨?_⟩|refine ca (a4q h et) ?_|fail)
  exact rfl
 |false=>
  have et:a1o l x s=(false,s):=by unfold a1o;rw[e];rfl
  have en:a2i l x s=(false,a2h l 120 s):=by unfold a2i;rw[e];rfl
  rw[en]
  repeat' (first|refine run ⟨?_⟩|refine ca (a4q h et) ?_|refine ca (c5c h) ?_|fail)
  exact rfl
theorem a4g (h:okS l s=true) {x:S} {b:Bool} (e:a2i l x s=(b,s1)):evF (pgL fx F) a5s [.ptr 0 0,.d (.str x)] (PB l s::PR s::X)=some (.tup [],PB l s1::PR s1::X):=by
 have:=lift (F:=F) (X:=X) (h2q (fx:=fx) h x) rfl rfl
 rw[e]at this;exact this
theorem h2c (h:okS l s=true) (hl:l.length<=1000000):evF (pgL fx F0) a5o [.ptr 0 0] [PB l s,PR s]=some (str (a3j l s).1,[PB l (a3j l s).2,PR (a3j l s).2]):=by
 refine a0h (b9z (F:=F0)) rfl rfl rfl ?_
 unfold a3j
 cases e:okB s with
 |false=>
  repeat' (first|refine run ⟨?_⟩|refine ca (b2c e) ?_|refine ca (c5c h) ?_|fail)
  exact rfl
 |true=>
  cases e2:decide ((now l s).k=1)with
  |true=>
   have hr:=a7l h
   have hw:IntKind.i64.wrap (IntKind.i64.wrap (s.at_+1) - 1)=s.at_:=by rw[a3z (n:=s.at_+1) om,a3z om];omega
   have hg:=c8j hr
   rw[<-hw]at hg
   have hn:l.getD (IntKind.i64.wrap (IntKind.i64.wrap (s.at_+1) - 1)).toNat default=now l s:=by rw[hw];rfl
   rw[hn]at hg
   repeat' (first|refine run ⟨?_⟩|refine ca (b2c e) ?_|refine ca (c0t h) ?_|refine b5n hg ?_|fail)
   exact rfl
  |false=>
   repeat' (first|refine run ⟨?_⟩|refine ca (b2c e) ?_|refine ca (c0t h) ?_|refine ca (c5c h) ?_|fail)
   exact rfl
theorem a8n (h:okS l s=true) (hl:l.length<=1000000) {t:S} (e:a3j l s=(t,s1)):evF (pgL fx F) a5o [.ptr 0 0] (PB l s::PR s::X)=some (.d (.str t),PB l s1::PR s1::X):=by
 have:=lift (F:=F) (X:=X) (h2c (fx:=fx) h hl) rfl rfl
 rw[e]at this;exact this
end
end Go.Vm.Ite
