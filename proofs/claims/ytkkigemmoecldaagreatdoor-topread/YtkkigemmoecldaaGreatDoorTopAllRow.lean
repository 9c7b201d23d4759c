/- What is printed is read again as the same tree but for places (trees small enough for strings.Cut: the upto form); a source says what its printed form says (no condition). -/
import Derived.Test.YtkkigemmoecldaaGreatDoorTypP11
import Derived.Lib.LaidU8
import Derived.LaidLaws
import Derived.LaidHandle
import Derived.Test.YtkkigemmoecldaaGreatDoorCards
import Derived.Test.YtkkigemmoecldaaGreatDoorTie
import Derived.SevenTiedAt
import Derived.Lay
import Derived.OpenShut
import Derived.Deep.DeepHandedRow
set_option maxRecDepth 100000
set_option maxHeartbeats 0
set_option linter.unusedVariables false
set_option linter.unusedSimpArgs false
namespace Go.Vm.Ip
open Go.Vm.Lex (de)
def flM (x:Its) (s:S):List Xc:=if known (nS x) s then(nam x.ss s).fs else if known (nE x) s then(nam x.es s).fs else[]
theorem Vh (x:Its) (s:S):xc x s=if known (nS x) s then((flM x s).map Xc.t,false) else if known (nE x) s then(Wn (flM x s),true) else([],false):=by
 unfold xc flM nam known;rw[show x.ss.map TA.n=nS x from rfl,show x.es.map TA.n=nE x from rfl];cases pos (nS x) s with
 |some i=>rfl
 |none=>
  cases pos (nE x) s with
  |some i=>rfl
  |none=>rfl
theorem Zk {x:Its} {s:S} (h:known (nS x) s=false) (h2:known (nE x) s=false):xc x s=([],false):=by
 rw[Vh,h,h2];rfl
structure b0u (x:Its) (s:S) (seen todo:List S):Prop where
 a1:∀ y∈seen,y=s\/Gets x s y
 a2:∀ y∈todo,kn x y=true->y=s\/Gets x s y
 a3:s∈seen\/s∈todo
 c1:∀ y∈seen,∀ z∈(xc x y).1,z≠s/\(z∈seen\/z∈todo\/kn x z=false)
theorem NU {x:Its} {s:S} (h:kn x s=false):(xc x s).1=[]:=by
 unfold kn at h;rw[Bool.or_eq_false_iff]at h;rw[Zk h.1 h.2]
theorem b0u.end {x:Its} {s:S} {seen:List S} (h:b0u x s seen []):¬ Gets x s s:=by
 have h0:s∈seen:=h.a3.resolve_right (by simp);have key:∀ y,Gets x s y->y≠s/\(y∈seen\/kn x y=false):=by
  intro y hy;induction hy with
  |one hz=>
   obtain⟨a,b⟩:=h.c1 s h0 _ hz;exact⟨a,b.imp id fun q=>q.resolve_left (by simp)⟩
  |step _ hz ih=>
   rcases ih.2 with q|q
   ·obtain⟨a,b⟩:=h.c1 _ q _ hz;exact⟨a,b.imp id fun q=>q.resolve_left (by simp)⟩
   ·rw[NU q]at hz;cases hz
 exact fun hr=>(key s hr).1 rfl
end Go.Vm.Ip







namespace Go.Proofs.YtkkigemmoecldaaGreatDoor
open Go Go.Vm Go.ChangeShapes Go.WideShapes Go.ChangeAt Go.RowKit Go.Vm.Px Go.Vm.Tp
theorem own:ownKnob Tryz.prog.godebug=none:=kr
theorem laidOut:laidOutB Tryz.prog=true:=kr
theorem mixed:Tryz.prog.follows .mixedOrders=true:=kr
def jq:List (String×DataW Unit):=[("math/bits.deBruijn32tab",Rows.laid_math_bits_deBruijn32tab),("math/bits.deBruijn64tab",Rows.laid_math_bits_deBruijn64tab),("internal/strconv.uint64pow10",Rows.laid_internal_strconv_uint64pow10),("unicode/utf8.acceptRanges",Rows.laid_unicode_utf8_acceptRanges),("strconv.ErrRange",Rows.laid_strconv_ErrRange),("strconv.ErrSyntax",Rows.laid_strconv_ErrSyntax),("unicode/utf8.first",Rows.laid_unicode_utf8_first)]
def vq:List (String×DataW Unit):=[("math/bits.deBruijn32tab",Rows.laid_math_bits_deBruijn32tab),("math/bits.deBruijn64tab",Rows.laid_math_bits_deBruijn64tab),("internal/strconv.uint64pow10",Rows.laid_internal_strconv_uint64pow10),("unicode/utf8.acceptRanges",Rows.laid_unicode_utf8_acceptRanges),("errors.errorType",Rows.laid_errors_errorType),("strconv.ErrRange",Rows.laid_strconv_ErrRange),("strconv.ErrSyntax",Rows.laid_strconv_ErrSyntax),("unicode/utf8.first",Rows.laid_unicode_utf8_first)]
theorem Qv {W:World} (h:laidMetH Tryz.prog vq W):laidMet Tryz.prog jq W/\handlesMet Tryz.prog [("errors.errorType",Rows.laid_errors_errorType)] W:=h
def a8c (W:World):Nat->Option Obj:=oD W [0,1,2,3,4,7,8]
theorem RX:Rows.laid_unicode_utf8_first=Lib.firstData:=kr
theorem OA:Rows.laid_unicode_utf8_acceptRanges (H:=Unit)=Lib.acceptData:=kr
theorem gErr:Tryz.prog.globalNamed "errors.errorType" =some 0:=kr
theorem Zo:Tryz.prog.globalNamed "unicode/utf8.first" =some 3:=kr
theorem gAcc:Tryz.prog.globalNamed "unicode/utf8.acceptRanges" =some 4:=kr
theorem gSyn:Tryz.prog.globalNamed "strconv.ErrSyntax" =some 7:=kr
theorem gRan:Tryz.prog.globalNamed "strconv.ErrRange" =some 8:=kr
theorem vV {w:World} {n:String} {d:DataW Unit} (h:Lib.VarReads Tryz.prog w n d) {g:Nat} (hg:Tryz.prog.globalNamed n=some g):∃ cs t fz fuel p ty,w.heap[g]? =some (.cells cs t fz)/\(Tryz.prog.globals[g]?).map (·.type)=some ty/\DataW.trod (fun _=>()) Tryz.prog w 0 (fun _=>true) false fuel ty cs.toList=some (d,p):=by
  obtain⟨g',t,cs,fuel,p,h1,h2,h3,h4⟩:=h;obtain rfl:=Option.some.inj (hg.symm.trans h1);unfold World.var? at h3;rw[hg]at h3;simp only[aP]at h3;split at h3
  ·rename_i c' t' f' hc;cases h3;exact⟨_,_,_,fuel,p,t,hc,h2,h4⟩
  ·cases h3
theorem Sg {W:World} {n nm:String} {d:DataW Unit} {g:Nat} (ty:Nat) {l:List Nat} (h:Lib.VarReads Tryz.prog W n (.iface nm d)) (hg:Tryz.prog.globalNamed n=some g) (hty:(Tryz.prog.globals[g]?).map (·.type)=some ty) (hu:(match Tryz.prog.underlying ty with|some (.interface _)=>true|_=>false)=true) (hm:g∈l):B9 ⟨fun _=>[],oD W l⟩ g:=by
  obtain⟨cs,t,fz,fuel,p,ty',h1,h2,h3⟩:=vV h hg;obtain rfl:=Option.some.inj (hty.symm.trans h2);obtain⟨ms,hms⟩:∃ ms,Tryz.prog.underlying ty=some (.interface ms):=by
   cases hh:Tryz.prog.underlying ty with
   |none=>rw[hh]at hu;cases hu
   |some t=>rw[hh]at hu;cases t<;>first|exact⟨_,rfl⟩|cases hu
  obtain⟨f',u,v,h4,_,_⟩:=iface_of_trod hms h3;refine⟨.iface u v,t,fz,?_,.inr ⟨u,v,rfl⟩⟩;show oD W l g=_;unfold oD;rw[ay hm,h1];congr 2;apply eT.1;exact h4
theorem I0 {W w:World} (h:Lib.Utf8Tabs 3 4 W) (h1:w.heap[3]? =W.heap[3]?) (h2:w.heap[4]? =W.heap[4]?):Lib.Utf8Tabs 3 4 w:=
 ⟨fun c hc=>by rw[World.cell?_of_block (w:=W) (a:=⟨3,c,none⟩) h1];exact h.1 c hc,fun i hi=>⟨by rw[World.cell?_of_block (w:=W) (a:=⟨4,2*i,none⟩) h2];exact(h.2 i hi).1,by rw[World.cell?_of_block (w:=W) (a:=⟨4,2*i+1,none⟩) h2];exact(h.2 i hi).2⟩⟩
theorem Xt {W:World} (h:laidMet Tryz.prog jq W) {g:Gh} {H:Hp} {w:World} (hI:Inv ⟨fun _=>[],a8c W⟩ g H w):Lib.Utf8Tabs 3 4 w:=by
  have r1:Lib.VarReads Tryz.prog W "unicode/utf8.first" Lib.firstData:=by rw[<-RX];exact Lib.laidMet.reads h (by simp[jq])
  have r2:Lib.VarReads Tryz.prog W "unicode/utf8.acceptRanges" Lib.acceptData:=by rw[<-OA];exact Lib.laidMet.reads h (by simp[jq])
  have hU:Lib.Utf8Tabs 3 4 W:=utf8Tabs_of_reads (ρ:=Tryz.yU) {Tryz.LZ with } ⟨kr,kr,kr,kr,kr,kr,kr⟩ r1 r2;obtain⟨c1,t1,z1,_,_,_,b1,_⟩:=vV r1 Zo;obtain⟨c2,t2,z2,_,_,_,b2,_⟩:=vV r2 gAcc;have k1:=(hI.fix 3 _ (by show oD W [0,1,2,3,4,7,8] 3=_;unfold oD;rw[ay (by decide)];exact b1)).1;have k2:=(hI.fix 4 _ (by show oD W [0,1,2,3,4,7,8] 4=_;unfold oD;rw[ay (by decide)];exact b2)).1;exact I0 hU (k1.trans b1.symm) (k2.trans b2.symm)
theorem rtT:(Tryz.prog.cutTypes.find? (·.1== "internal/reflectlite.rtype")).map (·.2)=some 145:=kr
theorem YK:((List.range Tryz.prog.types.size).filter fun t=>Tryz.prog.rowNamed t [101,114,114,111,114])=[68]:=kr
theorem NV {W:World} (h:handlesMet Tryz.prog [("errors.errorType",Rows.laid_errors_errorType)] W):∃ tt fz,W.heap[0]? =some (.cells #[.iface 145 (.agg #[.pointer (some ⟨9,68,none⟩)])] tt fz):=by
 obtain⟨name,u,ty,e1,e2,e3,e4,e5⟩:=h _ (cW.2 rfl);have en:name=[101,114,114,111,114]:=(Option.some.inj e1).symm;subst en;obtain rfl:=Option.some.inj (rtT.symm.trans e2);have hm:ty∈(List.range Tryz.prog.types.size).filter fun t=>Tryz.prog.rowNamed t [101,114,114,111,114]:=List.mem_filter.2 ⟨fD.2 e3,e4⟩;rw[YK]at hm;obtain rfl:=cW.1 hm;have hh:typeHandle Tryz.prog 68= .pointer (some ⟨9,68,none⟩):=kr;rw[hh]at e5;unfold World.var? at e5;rw[gErr]at e5;simp only[aP]at e5;split at e5
 ·rename_i c' t' f' hc;cases e5;exact⟨t',f',hc⟩
 ·cases e5
theorem Vp {W:World} (h:laidMetH Tryz.prog vq W):zo (a8c W):=by
 obtain⟨h1,h2⟩:=Qv h;have rS:Lib.VarReads Tryz.prog W "strconv.ErrSyntax" (Rows.laid_strconv_ErrSyntax (H:=Unit)):=Lib.laidMet.reads h1 (by simp[jq]);have rR:Lib.VarReads Tryz.prog W "strconv.ErrRange" (Rows.laid_strconv_ErrRange (H:=Unit)):=Lib.laidMet.reads h1 (by simp[jq]);obtain⟨tt,fz,b⟩:=NV h2;exact⟨fun g H w hI=>Xt h1 hI,Sg 68 rS gSyn kr kr (by decide),Sg 68 rR gRan kr kr (by decide),tt,fz,by show oD W [0,1,2,3,4,7,8] 0=_;unfold oD;rw[ay (by decide)];exact b⟩
noncomputable def a1p {W:World} (h:laidMetH Tryz.prog vq W):Pg:=Go.Vm.Ite.b9 (a8c W) (FT (Vp h))
theorem a8b:Tryz.prog.globalNamed "internal/strconv.uint64pow10" =some 2:=kr
theorem tPow:(Tryz.prog.globals[2]?).map (·.type)=some 178:=kr
theorem Qs:lQ Tryz.prog 8 178=true:=kr
theorem pow_eq:(lI (Rows.laid_internal_strconv_uint64pow10 (H:=Unit))).cells=Lib.pow10Tab.map (D.int .u64):=kr
theorem Q0 {W:World} (h:W.ShapedOpen Tryz.prog) {g:Gh} {H:Hp} {w:World} (hI:Inv ⟨fun _=>[],a8c W⟩ g H w):∃ m:Int,w.cell? ⟨1,0,none⟩=some (.int .i64 m):=by
  obtain⟨m,hm⟩:∃ m:Int,W.cell? ⟨1,0,none⟩=some (.int .i64 m):=Go.Proofs.cell_of_shapedOpen_int (zero:= #[.int .i64 0]) (t:=3) h (af kr) kr rfl kr kr Tryz.underlying3;obtain⟨o,ho⟩:∃ o,W.heap[1]? =some o:=by
   cases hb:W.heap[1]? with
   |none=>unfold World.cell? at hm;simp[hb]at hm
   |some o=>exact⟨o,rfl⟩
  have k:=(hI.fix 1 o (by show oD W [0,1,2,3,4,7,8] 1=_;unfold oD;rw[ay (by decide)];exact ho)).1;exact⟨m,by rw[World.cell?_of_block (w:=W) (a:=⟨1,0,none⟩) (k.trans ho.symm)];exact hm⟩
theorem fxT {W:World} (h:laidMetH Tryz.prog vq W) (hs:W.ShapedOpen Tryz.prog):FxT (a8c W):=
 ⟨XO rfl (by decide) a8b (Ru (Qv h).1 (by simp[jq]) a8b tPow Qs pow_eq),fun g H w hI=>Q0 hs hI⟩
theorem tOk {W:World} (h:laidMetH Tryz.prog vq W) (hs:W.ShapedOpen Tryz.prog):eS Tryz.prog (a1p h):=tblT (Vp h) (fxT h hs)
theorem RO {W:World} (h:laidMetH Tryz.prog vq W):B8 (a1p h).toCx W:=NX [] (RV W _) fun p hp=>by cases hp
noncomputable def hand0 (os:Os):World:=
 {World.holding Tryz.prog os ⟨#[],#[],[]⟩with heap:=(World.holding Tryz.prog os ⟨#[],#[],[]⟩).heap.modify 0 fun
     | .cells _ t frozen=> .cells #[.iface 145 (.agg #[.pointer (some ⟨9,68,none⟩)])] t frozen
     |o=>o }
noncomputable def w8 (os:Os):World:=(hand0 os).layVars Tryz.prog jq
theorem Wh (os:Os):(w8 os).os=os:=(World.layVars_os _ _ _).trans rfl
theorem QZ {os:Os} (hf:(hand0 os).layFits Tryz.prog jq []=true) (hi:(hand0 os).layIfaces Tryz.prog jq (w8 os)=true):laidMet Tryz.prog jq (w8 os):=by
 have e1:(jq.filter fun x=>(jq.map (·.1)).contains x.1)=jq:=List.filter_eq_self.2 fun x hx=>jz.2 (e9.2 ⟨x,hx,rfl⟩);have e2:(jq.filter fun x=> !(jq.map (·.1)).contains x.1)=[]:=List.filter_eq_nil_iff.2 fun x hx=>by rw[jz.2 (e9.2 ⟨x,hx,rfl⟩)];simp
 exact laidMet_layVars (w0:=hand0 os) (jq.map (·.1)) [] (by rw[e1];rfl) (by rw[e1];exact hf) (by rw[e1];exact hi) (by rw[e2];exact LaidIn.none)
theorem HV (os:Os) (args:Array Value):laidMetH Tryz.prog vq ((w8 os).forCall (fun _ _=>0) ⟨#[],args,[]⟩).memory:=by
  refine laidMetH_of_parts ?_ kr;have e:(vq.filter fun x=>x.2.handleName?.isNone)=jq:=kr;rw[e];exact(QZ (os:=os) kr kr).of_heap (by simp[World.memory,World.forCall,Input.heap])
theorem CE (os:Os):(w8 os).Shaped Tryz.prog:=World.shaped_of_ZipB kr kr
theorem Xx:Tryz.prog.underlying 3=some (.int .i64):=kr
theorem Vv:fieldsOf Tryz.prog 24=some [22]:=kr
theorem Xw:Tryz.prog.underlying 22=some (.slice 51):=kr
theorem Vw:(fieldsOf Tryz.prog 51).map (·.map Tryz.prog.underlying)=some [some (.int .i64),some .string,some (.int .i64),some (.slice 3),some (.int .i64),some (.int .i64)]:=kr
theorem Pc {d:D} (h:kF Tryz.prog 8 24 d):∃ t:List Nd,d=gD t/\t.length<=9223372036854775807/\∀ x∈t,WN x:=TP (m:=3) Vv Xw Vw Xx h
mutual
theorem Fj {H:Type}:∀ d:DataW H,iD (lI d)<=Rows.uptoBulk d
 | .lit (.bool _)=>by simp[lI,iD,Rows.uptoBulk]
 | .lit (.int _ _)=>by simp[lI,iD,Rows.uptoBulk]
 | .lit (.string _)=>by simp[lI,iD,Rows.uptoBulk]
 | .lit (.float _ _)=>by simp[lI,iD,eZ,Rows.uptoBulk]
 | .lit .nil=>by simp[lI,iD,eZ,Rows.uptoBulk]
 | .agg l=>by have:=HQ l;simp only[lI,iD,Rows.uptoBulk];omega
 | .slice l s=>by have:=HS l;simp only[lI,iD,Rows.uptoBulk];omega
 | .nil=>by simp[lI,iD,eZ,Rows.uptoBulk]
 | .ptr _=>by simp[lI,iD,eZ,Rows.uptoBulk]
 | .iface _ _=>by simp[lI,iD,eZ,Rows.uptoBulk]
 | .map _=>by simp[lI,iD,eZ,Rows.uptoBulk]
 | .held _=>by simp[lI,iD,eZ,Rows.uptoBulk]
theorem HQ {H:Type}:∀ l:List (DataW H),eZ (j7 l)<=Rows.uptoBulkAll l
 |[]=>by simp[j7,eZ,Rows.uptoBulkAll]
 |x::r=>by
  have h1:=Fj x;have h2:=HQ r;have h3:=Fy (lI x);simp only[j7,Rows.uptoBulkAll,vr];omega
theorem HS {H:Type}:∀ l:List (DataW H),eZ (ZI l)<=Rows.uptoBulkAll l
 |[]=>by simp[ZI,eZ,Rows.uptoBulkAll]
 |x::r=>by
  have h1:=Fj x;have h2:=HS r;simp only[ZI,Rows.uptoBulkAll,eZ];omega
end
theorem Ky {H:Type} {l:List (DataW H)} (hk:Rows.uptoSmall H l=true):Rows.uptoBulkAll l<=1048576:=af hk
theorem VK {H:Type} {l:List (DataW H)} {d:DataW H} (hk:Rows.uptoSmall H l=true) (hd:d∈l):iD (lI d)<=1048576:=by
 have h1:=Ky hk;have h2:=Fj d;have h3:∀ l:List (DataW H),d∈l->Rows.uptoBulk d<=Rows.uptoBulkAll l:=by
  intro l;induction l with
  |nil=>intro h;cases h
  |cons x r ih=>
   intro h;simp only[Rows.uptoBulkAll];rcases bs.1 h with rfl|h
   ·omega
   ·have:=ih h;omega
 have:=h3 l hd;omega
theorem sN {H:Type} {enc:TypeId×Value->H} {C:Checked} {os:Os} {f:FuncId} {fn:Func} {s:OpenSpec} {conds:List PathCond} {apart:Bool} {laid:List (String×DataW Unit)} (modest:Bool) (w0:World) (args:Array Value) (hos:w0.os=os)
 (hsh:(w0.forCall (fun _ _=>0) ⟨#[],args,[]⟩).Shaped C.prog)
 (hok:Input.okWideB C.prog (w0.forCall (fun _ _=>0) ⟨#[],args,[]⟩) f ⟨#[],args,[]⟩=true)
 (hrow:s.preRow enc C.prog fn conds apart laid (w0.forCall (fun _ _=>0) ⟨#[],args,[]⟩).memory args):
 ∃ (w:World) (tape:Tape) (i:Input),w.os=os/\(w.forCall tape i).Shaped C.prog/\i.vars=[]/\Input.okWide C.prog (w.forCall tape i) .any w.heap.size f i/\
  s.preRow enc C.prog fn conds apart laid (w.forCall tape i).memory i.args/\({modest:=modest }:Assume).holds C.prog (lone (Frame.enter C.prog f i.args .normal) [] (w.forCall tape i)):=
 ⟨w0,fun _ _=>0,⟨#[],args,[]⟩,hos,hsh,(Input.okWide_of_okWideB (base:=0) hok).1,(Input.okWide_of_okWideB hok).2,hrow,by
   simp only[Assume.holds];exact⟨by simp,by simp,fun _=>Modest.zero,by simp,by simp⟩⟩
theorem zi {H:Type} {W:World} (hW:laidMetH Tryz.prog vq W) (ds:List (DataW H)) (h1:ds.length=Tryz.f3.params.size) (h2:∀ (i:Nat) t x,Tryz.f3.params[i]? =some t->ds[i]? =some x->kF Tryz.prog 8 t (lI x)) (hk:Rows.uptoSmall H ds=true):∃ H',cv (a1p hW) 3 ((ds.map lI).map V.d) []=some (.d (.bool true),H'):=by
 have hp:Tryz.f3.params= #[24]:=Tryz.params3;match ds,h1 with
 |[d0],_=>
  have hd0:=h2 0 24 d0 (by rw[hp];rfl) rfl;have hk0:=VK (d:=d0) hk (by simp);obtain⟨t,e,_,w1⟩:=Pc hd0;rw[e]at hk0;exact⟨[],by show cv _ 3 [.d (lI d0)] []=_;rw[e];exact Go.Vm.Tz.I5 (Go.Proofs.YtkkigemmoecldaaGreatDoor.Vp hW) t (Vu hk0 w1) []⟩
theorem vC (os:Os) (started:os.Started) (H:Type) (enc:TypeId×Value->H) (F:Stop.Interp):
 ReturnsInHanded {} Tryz.checked os 3 .any ((Rows.OpenSpec.upto Rows.topBackSpec).preRow enc Tryz.prog Tryz.f3 Rows.topBackUptoRow.domain false Rows.topBackUptoRow.laid) (((Rows.OpenSpec.upto Rows.topBackSpec).at F).post enc Tryz.prog Tryz.f3 false true false false):=by
 refine returnsInHanded_of_row (C:=Tryz.checked) (s:=Rows.OpenSpec.upto Rows.topBackSpec) own started kr Tryz.func3
   (sN (enc:=enc) (C:=Tryz.checked) false (w8 os) #[.agg #[.slice none 0 0]] (Wh _) (CE os) kr
     (OpenSpec.preRow_of_cond 8 (x:=([.agg [.nil]],[],[])) kr kr (fun k hk=>by cases hk;kernel_rfl) kr (HV os _))) ?_
 intro W base args ds gs before hval hW _ hcond _ hL hsh _;have hgs:gs=[]:=(trodVars_none hW.choose_spec.choose_spec.2.1).1;refine wK (s:=Rows.topBackSpec) (m:=8) (tb:=4) (pg:=a1p hL) (tOk hL hsh) mixed laidOut rfl (fun ds h=>?_) (fun t ht=>?_) kr Tryz.underlying4 hval hW (RO hL) (fun h1 h2=>zi hL ds h1 h2 (by have:=hcond _ rfl;rw[hgs,bC]at this;exact this))
 ·match ds,h with
  |[d0],_=>rfl
 ·rw[Tryz.params3]at ht;simp only[bs,cK,gR]at ht;subst ht
  ·exact⟨⟨kr,af kr⟩,kr⟩
theorem zh:Rows.TopBackUptoSaid:=
 OpenClaim.holds_of_cond 3 Tryz.f3 rfl rfl rfl rfl rfl rfl rfl ⟨rfl,rfl,rfl,rfl,rfl⟩ rfl rfl rfl rfl rfl kr Tryz.func3 kr
   (af (by kernel_rfl)) (by unfold Func.isWrapper;first|(rw[ay (by decide+kernel)];kernel_rfl)|(rw[aA (by decide+kernel)];exact⟨rfl,rfl⟩))
   (fun os started H enc _ F=>by rw[OpenClaim.pre_eq_preRow];exact vC os started H enc F)
theorem wC (f:FuncId) (fn:Func) (hf:Tryz.pinned.checked.prog.funcNamed "patina/patinatop.TopBack" =some f) (hfn:Tryz.pinned.checked.prog.funcs[f]? =some fn):
 true=Tryz.pinned.checked.prog.looks []/\∀ (j:Nat) t,fn.params[j]? =some t->Tryz.pinned.checked.prog.wantsStandIn t=false:=by
 obtain rfl:f=3:=Option.some.inj ((show Tryz.prog.funcNamed "patina/patinatop.TopBack" =some 3 by kernel_rfl).symm.trans hf)|>.symm;obtain rfl:fn=Tryz.f3:=(Option.some.inj (Tryz.func3.symm.trans hfn)).symm;refine⟨kr,fun j t ht=>?_⟩;rw[Tryz.params3]at ht;have ht:=Array.mem_of_getElem? ht;simp only[List.mem_toArray,bs,cK,gR]at ht;subst ht
 ·exact(show Tryz.prog.wantsStandIn 24=false by kernel_rfl)
theorem topBackUpto_holds:Rows.TopBackUptoCardSaid:=
 Claim7.holds_tied_plain_at .later [] [.data,.data,.data,.data,.handle,.sentinel,.sentinel,.pinned] true (true, "a46a7351bfef0cb816c1f85aa1c9ea916f4be6cf6a9d00ae81b094e67771b6af") true
  zh (fun _ h=>by cases h) kr (fun _ h=>by cases h) topBackUpto_row_tie rfl ⟨rfl,rfl⟩ kr rfl wC kr
end Go.Proofs.YtkkigemmoecldaaGreatDoor
#print axioms Go.Proofs.YtkkigemmoecldaaGreatDoor.topBackUpto_holds
namespace Go.Proofs.YtkkigemmoecldaaGreatDoor
open Go Go.Vm Go.ChangeShapes Go.WideShapes Go.ChangeAt Go.RowKit Go.Vm.Tp
theorem F5 {H:Type} {W:World} (hW:laidMetH Tryz.prog vq W) (ds:List (DataW H)) (h1:ds.length=Tryz.f4.params.size) (h2:∀ (i:Nat) t x,Tryz.f4.params[i]? =some t->ds[i]? =some x->kF Tryz.prog 8 t (lI x)):∃ H',cv (a1p hW) 4 ((ds.map lI).map V.d) []=some (.d (.bool true),H'):=by
 have hp:Tryz.f4.params= #[9]:=Tryz.params4;match ds,h1 with
 |[d0],_=>
  have hd0:=h2 0 9 d0 (by rw[hp];rfl) rfl;obtain⟨s,e,_⟩:=Hl Tryz.underlying9 hd0;exact⟨[],by show cv _ 4 [.d (lI d0)] []=_;rw[e];exact Go.Vm.Tz.I4 (Go.Proofs.YtkkigemmoecldaaGreatDoor.Vp hW) s []⟩
theorem Ad (os:Os) (started:os.Started) (H:Type) (enc:TypeId×Value->H) (F:Stop.Interp):
 ReturnsInHanded {} Tryz.checked os 4 .any ((OpenSpec.ofChange Rows.topReadSpec).preRow enc Tryz.prog Tryz.f4 Rows.topReadRow.domain false Rows.topReadRow.laid) (((OpenSpec.ofChange Rows.topReadSpec).at F).post enc Tryz.prog Tryz.f4 false true false false):=by
 refine returnsInHanded_of_row (C:=Tryz.checked) (s:=OpenSpec.ofChange Rows.topReadSpec) own started kr Tryz.func4
   (sN (enc:=enc) (C:=Tryz.checked) false (w8 os) #[.string ⟨#[]⟩] (Wh _) (CE os) kr
     (OpenSpec.preRow_of_cond 8 (x:=([.lit (.string [])],[],[])) kr kr (fun k hk=>by cases hk) kr (HV os _))) ?_
 intro W base args ds gs before hval hW _ _ _ hL hsh _;refine wK (s:=Rows.topReadSpec) (m:=8) (tb:=4) (pg:=a1p hL) (tOk hL hsh) mixed laidOut rfl (fun ds h=>?_) (fun t ht=>?_) kr Tryz.underlying4 hval hW (RO hL) (F5 hL ds)
 ·match ds,h with
  |[d0],_=>rfl
 ·rw[Tryz.params4]at ht;simp only[bs,cK,gR]at ht;subst ht
  ·exact⟨⟨kr,af kr⟩,kr⟩
theorem F4:Rows.TopReadSaid:=
 OpenClaim.holds_of_cond 4 Tryz.f4 rfl rfl rfl rfl rfl rfl rfl ⟨rfl,rfl,rfl,rfl,rfl⟩ rfl rfl rfl rfl rfl kr Tryz.func4 kr
   (af (by kernel_rfl)) (by unfold Func.isWrapper;first|(rw[ay (by decide+kernel)];kernel_rfl)|(rw[aA (by decide+kernel)];exact⟨rfl,rfl⟩))
   (fun os started H enc _ F=>by rw[OpenClaim.pre_eq_preRow];exact Ad os started H enc F)
theorem Cg (f:FuncId) (fn:Func) (hf:Tryz.pinned.checked.prog.funcNamed "patina/patinatop.TopRead" =some f) (hfn:Tryz.pinned.checked.prog.funcs[f]? =some fn):
 true=Tryz.pinned.checked.prog.looks []/\∀ (j:Nat) t,fn.params[j]? =some t->Tryz.pinned.checked.prog.wantsStandIn t=false:=by
 obtain rfl:f=4:=Option.some.inj ((show Tryz.prog.funcNamed "patina/patinatop.TopRead" =some 4 by kernel_rfl).symm.trans hf)|>.symm;obtain rfl:fn=Tryz.f4:=(Option.some.inj (Tryz.func4.symm.trans hfn)).symm;refine⟨kr,fun j t ht=>?_⟩;rw[Tryz.params4]at ht;have ht:=Array.mem_of_getElem? ht;simp only[List.mem_toArray,bs,cK,gR]at ht;subst ht
 ·exact(show Tryz.prog.wantsStandIn 9=false by kernel_rfl)
theorem topRead_holds:Rows.TopReadCardSaid:=
 Claim7.holds_tied_plain_at .later [] [.data,.data,.data,.data,.handle,.sentinel,.sentinel,.pinned] true (true, "a46a7351bfef0cb816c1f85aa1c9ea916f4be6cf6a9d00ae81b094e67771b6af") true
  F4 (fun _ h=>by cases h) kr (fun _ h=>by cases h) topRead_row_tie rfl ⟨rfl,rfl⟩ kr rfl Cg kr
end Go.Proofs.YtkkigemmoecldaaGreatDoor
#print axioms Go.Proofs.YtkkigemmoecldaaGreatDoor.topRead_holds

