import Derived.Test.YtkkigemmoecldaaGreatDoorPzG
set_option maxHeartbeats 0
set_option linter.unusedVariables false
set_option linter.unusedSimpArgs false
namespace Go.Vm.Pa
open Go.Vm.Lex (TokQ dZ)
set_option maxRecDepth 10000
abbrev sg (t:S):dZ:=⟨4,t,0,0,0⟩
abbrev wd (t:S):dZ:=⟨2,t,0,0,0⟩
abbrev nm (t:S):dZ:=⟨1,t,0,0,0⟩
abbrev nu (v:Int):dZ:=⟨3,Lib.itoa v,v,0,0⟩
structure Zl (l:List TokQ):Prop where
 len:l.length<=1000000
 z:∀ j,(l.getD j default).f=0/\(l.getD j default).e=0
def Has (l:List TokQ):Nat->List dZ->Prop
 |_,[]=>True
 |i,x::r=>(l.getD i default=⟨x.k,x.t,x.v,0,0⟩/\i < l.length)/\Has l (i+1) r
theorem Has.drop {l:List TokQ}:∀ {xs:List dZ} {i:Nat} {ys:List dZ},Has l i (xs++ys)->Has l (i+xs.length) ys
 |[],_,_,h=>h
 |x::xs,i,ys,h=>by
  have:=Has.drop (xs:=xs) h.2;rwa [aw,show i+(xs.length+1)=i+1+xs.length by omega]
abbrev mkS (i d:Nat) (ns:List D):PS:=⟨(i:Int),(d:Int),ns,ns.length,0,0,0⟩
def lg (x:dZ) (t:S):Bool:=(decide (x.k=2)||decide (x.k=4)) && decide (x.t=t)
def yN (r:Int) (x:dZ):S:=((iz r).find? fun t=>lg x t).getD []
def pB (c:Int) (x:dZ):Bool:=
 if c=116 then decide (x.k=1)||D0.any (lg x)
 else if c=101 then decide (x.k=1)||decide (x.k=3)||Mj.any (lg x)
 else if c=112 then decide (x.k=1)||decide (x.k=3)||Qu.any (lg x)
 else lg x [123]
def Runs (l:List TokQ) (p:Pr) (s:PS) (P:R->PS->Prop):Prop:=∃ N,(∃ r s',aF l (cM l N) p s=some (.ok r s')/\P r s')\/∃ f e,aF l (cM l N) p s=some (.bad 121 f e)
section
variable {l:List TokQ} {i d:Nat} {ns:List D} {x y:dZ} {xs ys:List dZ} {P:R->PS->Prop} {s:PS}
theorem Cb {n:Nat} (h:n<=2000000):w (n:Int)=n:=eK om
theorem JM (H:Has l i (x::xs)):now l (mkS i d ns)=⟨x.k,x.t,x.v,0,0⟩:=by
 unfold now;rw[show(mkS i d ns).at_.toNat=i from b8 i];exact H.1.1
theorem a2a (H:Has l i (x::xs)) (t:S):dj l (mkS i d ns) t=lg x t:=by unfold dj lg;rw[JM H]
theorem VY (Z:Zl l) (H:Has l i (x::xs)):dI (mkS i d ns)=mkS (i+1) d ns:=by
 have h1:=H.1.2;have h2:=Z.len;show PS.mk (w ((i:Int)+1)) _ _ _ _ _ _=_;rw[show(i:Int)+1=((i+1:Nat):Int)by omega,Cb om]
theorem yg (h:i < l.length):fb l (mkS i d ns)=true:=by
 unfold fb;rw[au (show(0:Int)<=(mkS i d ns).at_ by show(0:Int)<=(i:Int);omega),au (show(mkS i d ns).at_ < (l.length:Int)by show(i:Int) < _;omega)];rfl
theorem S5 (H:Has l i (x::xs)) (c:Int):dP l c (mkS i d ns)=pB c x:=by
 unfold dP pB anyS;rw[JM H];have e:dj l (mkS i d ns)=lg x:=funext fun t=>a2a H t;rw[e]
theorem a5g (H:Has l i (x::xs)) (r:Int):nB l r (mkS i d ns)=yN r x:=by
 unfold nB yN;have e:(fun t=>okB (mkS i d ns) && dj l (mkS i d ns) t)=fun t=>lg x t:=funext fun t=>by rw[a2a H];rfl
 rw[e]
theorem Runs.mono {p:Pr} {Q:R->PS->Prop} (h:Runs l p s P) (hPQ:∀ r s',P r s'->Q r s'):Runs l p s Q:=by
 obtain⟨N,⟨r,s',e,hp⟩|h⟩:=h
 ·exact⟨N,.inl ⟨r,s',e,hPQ _ _ hp⟩⟩
 ·exact⟨N,.inr h⟩
theorem ig {r:R} (h:P r s):Runs l (.ret r) s P:=⟨0,.inl ⟨r,s,rfl,h⟩⟩
theorem tm {q:Q} (h:Runs l (prog q) s P):Runs l (.tail q) s P:=by
 obtain⟨N,h⟩:=h;exact⟨N+1,h⟩
theorem fS {q:Q} {f:R->Pr} {B:R->PS->Prop} (h:Runs l (prog q) s B) (k:∀ r s',B r s'->fb l s'=true/\Runs l (f r) s' P):Runs l (.call q f) s P:=by
 obtain⟨N,⟨r,s',e,hb⟩|⟨a,b,e⟩⟩:=h
 ·obtain⟨ho,M,hk⟩:=k r s' hb;have e1:cM l (max (N+1) M) q s=some (.ok r s'):=kO (cN _ _) (show cM l (N+1) q s=_ from e);have up:∀ z,aF l (cM l M) (f r) s'=some z->aF l (cM l (max (N+1) M)) (.call q f) s=some z:=fun z hz=>by
    simp only[aF,e1,ho];exact C3 (fun q s y h=>kO (cn (N+1) M) h) _ _ _ hz
  rcases hk with⟨r2,s2,e2,hp⟩|⟨a,b,e2⟩
  ·exact⟨_,.inl ⟨r2,s2,up _ e2,hp⟩⟩
  ·exact⟨_,.inr ⟨a,b,up _ e2⟩⟩
 ·refine⟨N+1,.inr ⟨a,b,?_⟩⟩;have e1:cM l (N+1) q s=some (.bad 121 a b):=e;simp only[aF,e1]
theorem oX (Z:Zl l) {t:S} {f:Bool->Pr} (H:Has l i (x::xs)) (e:lg x t=true) (k:Has l (i+1) xs->Runs l (f true) (mkS (i+1) d ns) P):Runs l (.take t f) (mkS i d ns) P:=by
 obtain⟨N,h⟩:=k H.2;refine⟨N,?_⟩;simp only[aF,a2a H,e,VY Z H];exact h
theorem eQ {t:S} {f:Bool->Pr} (H:Has l i (x::xs)) (e:lg x t=false) (k:Runs l (f false) (mkS i d ns) P):Runs l (.take t f) (mkS i d ns) P:=by
 obtain⟨N,h⟩:=k;refine⟨N,?_⟩;simp only[aF,a2a H,e];exact h
theorem km (Z:Zl l) {t:S} {f:Pr} (H:Has l i (x::xs)) (e:lg x t=true) (k:Has l (i+1) xs->Runs l f (mkS (i+1) d ns) P):Runs l (.need t f) (mkS i d ns) P:=by
 obtain⟨N,h⟩:=k H.2;refine⟨N,?_⟩;simp only[aF,a2a H,e,VY Z H];exact h
theorem Eh (Z:Zl l) {f:S->Pr} (H:Has l i (x::xs)) (e:x.k=1) (k:Has l (i+1) xs->Runs l (f x.t) (mkS (i+1) d ns) P):Runs l (.name f) (mkS i d ns) P:=by
 obtain⟨N,h⟩:=k H.2;refine⟨N,?_⟩;simp only[aF,JM H,e,iK,VY Z H];exact h
theorem jd {t:S} {f:Bool->Pr} {b:Bool} (H:Has l i (x::xs)) (e:lg x t=b) (k:Runs l (f b) (mkS i d ns) P):Runs l (.is t f) (mkS i d ns) P:=by
 obtain⟨N,h⟩:=k;refine⟨N,?_⟩;simp only[aF,a2a H,e];exact h
theorem mu {f:Bool->Pr} (k:Runs l (f true) s P):Runs l (.ok f) s P:=k
theorem AE {c:Int} {f:Bool->Pr} {b:Bool} (H:Has l i (x::xs)) (e:decide (x.k=c)=b) (k:Runs l (f b) (mkS i d ns) P):Runs l (.kind c f) (mkS i d ns) P:=by
 obtain⟨N,h⟩:=k;refine⟨N,?_⟩;simp only[aF,JM H,e];exact h
theorem Yf {t:S} {f:Bool->Pr} {b:Bool} (H:Has l i (x::xs)) (e:decide (x.t=t)=b) (k:Runs l (f b) (mkS i d ns) P):Runs l (.text t f) (mkS i d ns) P:=by
 obtain⟨N,h⟩:=k;refine⟨N,?_⟩;simp only[aF,JM H,e];exact h
theorem a5y {f:Int->Pr} (H:Has l i (x::xs)) (k:Runs l (f x.v) (mkS i d ns) P):Runs l (.val f) (mkS i d ns) P:=by
 obtain⟨N,h⟩:=k;refine⟨N,?_⟩;simp only[aF,JM H];exact h
theorem Jo {r:Int} {t:S} {f:S->Pr} (H:Has l i (x::xs)) (e:yN r x=t) (k:Runs l (f t) (mkS i d ns) P):Runs l (.sign r f) (mkS i d ns) P:=by
 obtain⟨N,h⟩:=k;refine⟨N,?_⟩;simp only[aF,a5g H,e];exact h
theorem eI {f:Int->Pr} (k:Runs l (f (i:Int)) (mkS i d ns) P):Runs l (.pos f) (mkS i d ns) P:=k
theorem Ei {c:Int} {f:Bool->Pr} (H:Has l i (x::xs)) (e:pB c x=true) (k:d < 100->Runs l (f true) (mkS i (d+1) ns) P):Runs l (.into c f) (mkS i d ns) P:=by
 by_cases hd:d < 100
 ·obtain⟨N,h⟩:=k hd;refine⟨N,?_⟩;have e2:jf (mkS i d ns)=mkS i (d+1) ns:=by
   show PS.mk _ (w ((d:Int)+1)) _ _ _ _ _=_;rw[show(d:Int)+1=((d+1:Nat):Int)by omega,Cb om]
  simp only[aF,S5 H,e,ak (show ¬ (100:Int)<=(d:Int)by omega),e2];exact h
 ·refine⟨0,.inr ⟨(now l (mkS i d ns)).f,(now l (mkS i d ns)).e,?_⟩⟩;simp only[aF,S5 H,e,au (show(100:Int)<=(d:Int)by omega),BM]
theorem Ej {f:Pr} (hd:d<=1000000) (k:Runs l f (mkS i d ns) P):Runs l (.down f) (mkS i (d+1) ns) P:=by
 obtain⟨N,h⟩:=k;refine⟨N,?_⟩;have e2:down (mkS i (d+1) ns)=mkS i d ns:=by
  show PS.mk _ (w (((d+1:Nat):Int) - 1)) _ _ _ _ _=_;rw[show((d+1:Nat):Int) - 1=((d:Nat):Int)by omega,Cb om]
 simp only[aF,e2];exact h
theorem Gv (Z:Zl l) {f:Pr} (H:Has l i (x::y::xs)) (k:Has l (i+1) (y::xs)->Runs l f (mkS (i+1) d ns) P):Runs l (.dI f) (mkS i d ns) P:=by
 obtain⟨N,h⟩:=k H.2;refine⟨N,?_⟩;simp only[aF,VY Z H,yg H.2.1.2];exact h
theorem a6z (Z:Zl l) {p:Nat} {k t v ks} (hp:p<=i) (hi:i < l.length) (hn:ns.length < 1000000):fA l (p:Int) ⟨k,t,v,ks⟩ (mkS i d ns)=some (((ns.length:Nat):Int),mkS i d (ns++[N.D ⟨k,t,v,ks⟩ 0 0])):=by
 have hl:=Z.len;unfold fA;have hw:(p:Int) < (i:Int)->w ((i:Int) - 1)=((i - 1:Nat):Int):=fun h=>by rw[show(i:Int) - 1=((i - 1:Nat):Int)by omega,Cb om]
 have c:ns.length=ns.length/\ns.length < 1000000/\okF l (p:Int)=true/\((p:Int) < (i:Int)->okF l (w ((i:Int) - 1))=true):=by
  refine⟨rfl,hn,?_,fun h=>?_⟩
  ·unfold okF;rw[au om,au om];rfl
  ·rw[hw h];unfold okF;rw[au om,au om];rfl
 rw[ay c];have z1:(l.getD (p:Int).toNat default).f=0:=(Z.z _).1;have z2:(if(p:Int) < (i:Int) then((l.getD (w ((i:Int) - 1)).toNat default).e:Int) else 0)=0:=by
  split
  ·rw[(Z.z _).2];rfl
  ·rfl
 show some (w (((ns.length+1:Nat):Int) - 1),PS.mk _ _ (ns++[N.D ⟨k,t,v,ks⟩ (l.getD (p:Int).toNat default).f (if(p:Int) < (i:Int) then((l.getD (w ((i:Int) - 1)).toNat default).e:Int) else 0)]) _ _ _ _)=_;rw[z1,z2,show((ns.length+1:Nat):Int) - 1=((ns.length:Nat):Int)by omega,Cb om];have e2:(ns++[N.D ⟨k,t,v,ks⟩ 0 0]).length=ns.length+1:=by rw[ah];rfl
 rw[show mkS i d (ns++[N.D ⟨k,t,v,ks⟩ 0 0])=⟨(i:Int),(d:Int),ns++[N.D ⟨k,t,v,ks⟩ 0 0],ns.length+1,0,0,0⟩by unfold mkS;rw[e2]];rfl
theorem yc (Z:Zl l) {p:Nat} {k t v ks} {f:Int->Pr} (hp:p<=i) (hi:i < l.length) (hn:ns.length < 1000000) (K:Runs l (f ((ns.length:Nat):Int)) (mkS i d (ns++[N.D ⟨k,t,v,ks⟩ 0 0])) P):Runs l (.node (p:Int) ⟨k,t,v,ks⟩ f) (mkS i d ns) P:=by
 obtain⟨N,h⟩:=K;refine⟨N,?_⟩;simp only[aF,a6z Z hp hi hn];exact h
theorem a3s (Z:Zl l) (h0:0 < i) (hi:i < l.length) (hn:ns.length < 1000000):ly l (mkS i d ns)=some (((ns.length:Nat):Int),mkS i d (ns++[N.D ⟨12,[],0,[]⟩ 0 0])):=by
 have hl:=Z.len;unfold ly;have hw:w ((i:Int) - 1)=((i - 1:Nat):Int):=by rw[show(i:Int) - 1=((i - 1:Nat):Int)by omega,Cb om]
 have c:ns.length=ns.length/\ns.length < 1000000/\okF l (w ((i:Int) - 1))=true:=by
  refine⟨rfl,hn,?_⟩;rw[hw];unfold okF;rw[au om,au om];rfl
 rw[ay c];have z2:(l.getD (w ((i:Int) - 1)).toNat default).e=0:=(Z.z _).2;show some (w (((ns.length+1:Nat):Int) - 1),PS.mk _ _ (ns++[N.D ⟨12,[],0,[]⟩ (l.getD (w ((i:Int) - 1)).toNat default).e (l.getD (w ((i:Int) - 1)).toNat default).e]) _ _ _ _)=_;rw[z2,show((ns.length+1:Nat):Int) - 1=((ns.length:Nat):Int)by omega,Cb om];have e2:(ns++[N.D ⟨12,[],0,[]⟩ 0 0]).length=ns.length+1:=by rw[ah];rfl
 rw[show mkS i d (ns++[N.D ⟨12,[],0,[]⟩ 0 0])=⟨(i:Int),(d:Int),ns++[N.D ⟨12,[],0,[]⟩ 0 0],ns.length+1,0,0,0⟩by unfold mkS;rw[e2]];rfl
theorem Ye (Z:Zl l) {f:Int->Pr} (h0:0 < i) (hi:i < l.length) (hn:ns.length < 1000000) (K:Runs l (f ((ns.length:Nat):Int)) (mkS i d (ns++[N.D ⟨12,[],0,[]⟩ 0 0])) P):Runs l (.unit f) (mkS i d ns) P:=by
 obtain⟨N,h⟩:=K;refine⟨N,?_⟩;simp only[aF,a3s Z h0 hi hn];exact h
theorem fu {b:Bool} {p:Pr} (hb:b=true) (k:Runs l p s P):Runs l (guard b p) s P:=by subst hb;exact k
end
instance tkaDec:DecidableEq dZ:=fun a b=>decidable_of_iff (a.k=b.k/\a.t=b.t/\a.v=b.v/\a.f=b.f/\a.e=b.e) (by cases a;cases b;simp)
abbrev tr (k:Int) (t:S) (v:Int) (K:Fo):Fo:= .cons k t v 0 0 K .nil
inductive Cl where
 |ty|pa|pr|po|e0|ci|ma|bl|ex|st|ni|ar|fd|pm|va|it
 |ls (c:Cl)|sq (c:Cl)
abbrev a3o:S:=[105,54,52]
abbrev Wg:S:=[98,111,111,108]
abbrev O2:S:=[66,111,120]
abbrev Cc:S:=[109,117,116]
abbrev FZ:S:=[116,114,117,101]
abbrev zT:S:=[102,97,108,115,101]
abbrev Ce:S:=[105,102]
abbrev sm:S:=[101,108,115,101]
abbrev kX:S:=[109,97,116,99,104]
abbrev Cd:S:=[108,101,116]
abbrev IX:S:=[119,104,105,108,101]
abbrev wz:S:=[114,101,116,117,114,110]
abbrev IY:S:=[98,114,101,97,107]
abbrev O1:S:=[99,111,110,116,105,110,117,101]
abbrev Xo:S:=[102,110]
abbrev wy:S:=[115,116,114,117,99,116]
abbrev F1:S:=[101,110,117,109]
abbrev opsL:List S:=[[124,124],[38,38],[60],[60,61],[62],[62,61],[61,61],[33,61],[43],[45],[42],[47],[37]]
inductive Rd:Cl->List dZ->Fo->Prop
 |tInt:Rd .ty [wd a3o] (tr 10 [] 0 .nil)
 |tBool:Rd .ty [wd Wg] (tr 11 [] 0 .nil)
 |tUnit:Rd .ty [sg [40],sg [41]] (tr 12 [] 0 .nil)
 |tName (t):Rd .ty [nm t] (tr 13 t 0 .nil)
 |tRef {x K}:Rd .ty x K->Rd .ty (sg [38]::x) (tr 14 [] 0 K)
 |tMut {x K}:Rd .ty x K->Rd .ty (sg [38]::wd Cc::x) (tr 15 [] 0 K)
 |tBox {x K}:Rd .ty x K->Rd .ty (wd O2::sg [60]::(x++[sg [62]])) (tr 16 [] 0 K)
 |pAny:Rd .pa [sg [95]] (tr 50 [] 0 .nil)
 |pTrue:Rd .pa [wd FZ] (tr 53 [] 1 .nil)
 |pFalse:Rd .pa [wd zT] (tr 53 [] 0 .nil)
 |pNum (v):Rd .pa [nu v] (tr 52 [] v .nil)
 |pNeg (v):Rd .pa [sg [45],nu v] (tr 52 [] (w (0 - v)) .nil)
 |pVar (t):Rd .pa [nm t] (tr 51 t 0 .nil)
 |pPick (a b):Rd .pa [nm a,sg [58,58],nm b] (tr 54 (a++[58,58]++b) 0 .nil)
 |pPick1 (a b) {x K}:Rd .pa x K->Rd .pa (nm a::sg [58,58]::nm b::sg [40]::(x++[sg [41]])) (tr 54 (a++[58,58]++b) 0 K)
 |num (v):Rd .pr [nu v] (tr 30 [] v .nil)
 |tru:Rd .pr [wd FZ] (tr 31 [] 1 .nil)
 |fal:Rd .pr [wd zT] (tr 31 [] 0 .nil)
 |nil_:Rd .pr [sg [40],sg [41]] (tr 32 [] 0 .nil)
 |paren {x K}:Rd .ex x K->Rd .pr (sg [40]::(x++[sg [41]])) K
 |new {x K}:Rd .ex x K->Rd .pr (wd O2::sg [58,58]::nm [110,101,119]::sg [40]::(x++[sg [41]])) (tr 44 [] 0 K)
 |call (t) {x K}:Rd (.ls .ex) x K->Rd .pr (nm t::sg [40]::(x++[sg [41]])) (tr 34 t 0 K)
 |pick (a b):Rd .pr [nm a,sg [58,58],nm b] (tr 37 (a++[58,58]++b) 0 .nil)
 |pick1 (a b) {x K}:Rd .ex x K->Rd .pr (nm a::sg [58,58]::nm b::sg [40]::(x++[sg [41]])) (tr 37 (a++[58,58]++b) 0 K)
 |var (t):Rd .pr [nm t] (tr 33 t 0 .nil)
 |ofPr {x K}:Rd .pr x K->Rd .po x K
 |get (t) {x K}:Rd .po x K->Rd .po (x++[sg [46],nm t]) (tr 41 t 0 K)
 |ofPo {x K}:Rd .po x K->Rd .e0 x K
 |make (t) {x K}:Rd (.ls .ni) x K->Rd .e0 (nm t::sg [123]::(x++[sg [125]])) (tr 35 t 0 K)
 |neg {x K}:Rd .pr x K->Rd .e0 (sg [45]::x) (tr 39 [] 0 K)
 |not {x K}:Rd .pr x K->Rd .e0 (sg [33]::x) (tr 40 [] 0 K)
 |star {x K}:Rd .pr x K->Rd .e0 (sg [42]::x) (tr 42 [] 0 K)
 |bor {x K}:Rd .pr x K->Rd .e0 (sg [38]::x) (tr 43 [] 0 K)
 |borM {x K}:Rd .pr x K->Rd .e0 (sg [38]::wd Cc::x) (tr 43 [] 1 K)
 |bin (g) {x K y V}:g∈opsL->Rd .pr x K->Rd .pr y V->Rd .e0 (x++sg g::y) (tr 38 g 0 (K.app V))
 |if1 {x K y V}:Rd .pr x K->Rd .bl y V->Rd .ci (wd Ce::(x++y)) (tr 45 [] 0 (K.app V))
 |if2 {x K y V z U}:Rd .pr x K->Rd .bl y V->Rd .bl z U->Rd .ci (wd Ce::(x++(y++wd sm::z))) (tr 45 [] 0 (K.app (V.app U)))
 |if3 {x K y V z U}:Rd .pr x K->Rd .bl y V->Rd .ci z U->Rd .ci (wd Ce::(x++(y++wd sm::z))) (tr 45 [] 0 (K.app (V.app U)))
 |mat {x K y V}:Rd .pr x K->Rd (.ls .ar) y V->Rd .ma (wd kX::(x++sg [123]::(y++[sg [125]]))) (tr 46 [] 0 (K.app V))
 |blk {x K}:Rd (.sq .st) x K->Rd .bl (sg [123]::(x++[sg [125]])) (tr 20 [] 0 K)
 |blkE {x K y V}:Rd (.sq .st) x K->Rd .ex y V->Rd .bl (sg [123]::(x++(y++[sg [125]]))) (tr 20 [] 1 (K.app V))
 |exE {x K}:Rd .e0 x K->Rd .ex x K
 |exC {x K}:Rd .ci x K->Rd .ex x K
 |exM {x K}:Rd .ma x K->Rd .ex x K
 |exB {x K}:Rd .bl x K->Rd .ex x K
 |let0 (t) {x K}:Rd .ex x K->Rd .st (wd Cd::nm t::sg [61]::(x++[sg [59]])) (tr 21 t 0 K)
 |let0M (t) {x K}:Rd .ex x K->Rd .st (wd Cd::wd Cc::nm t::sg [61]::(x++[sg [59]])) (tr 21 t 1 K)
 |let1 (t) {x K y V}:Rd .ty x K->Rd .ex y V->Rd .st (wd Cd::nm t::sg [58]::(x++sg [61]::(y++[sg [59]]))) (tr 21 t 0 (K.app V))
 |let1M (t) {x K y V}:Rd .ty x K->Rd .ex y V->Rd .st (wd Cd::wd Cc::nm t::sg [58]::(x++sg [61]::(y++[sg [59]]))) (tr 21 t 1 (K.app V))
 |doE {x K}:Rd .e0 x K->Rd .st (x++[sg [59]]) (tr 22 [] 0 K)
 |doC {x K}:Rd .ci x K->Rd .st (x++[sg [59]]) (tr 22 [] 0 K)
 |doM {x K}:Rd .ma x K->Rd .st (x++[sg [59]]) (tr 22 [] 0 K)
 |doB {x K}:Rd .bl x K->Rd .st (x++[sg [59]]) (tr 22 [] 0 K)
 |set {x K y V}:Rd .pr x K->Rd .pr y V->Rd .st (x++sg [61]::(y++[sg [59]])) (tr 23 [] 0 (K.app V))
 |whl {x K y V}:Rd .pr x K->Rd .bl y V->Rd .st (wd IX::(x++y)) (tr 24 [] 0 (K.app V))
 |ret0:Rd .st [wd wz,sg [59]] (tr 25 [] 0 .nil)
 |ret1 {x K}:Rd .ex x K->Rd .st (wd wz::(x++[sg [59]])) (tr 25 [] 0 K)
 |brk:Rd .st [wd IY,sg [59]] (tr 26 [] 0 .nil)
 |nxt:Rd .st [wd O1,sg [59]] (tr 27 [] 0 .nil)
 |init (t) {x K}:Rd .ex x K->Rd .ni (nm t::sg [58]::x) (tr 36 t 0 K)
 |armB {x K y V}:Rd .pa x K->Rd .bl y V->Rd .ar (x++sg [61,62]::y) (tr 47 [] 0 (K.app V))
 |armE {x K y V}:Rd .pa x K->Rd .e0 y V->Rd .ar (x++sg [61,62]::y) (tr 47 [] 0 (K.app V))
 |armC {x K y V}:Rd .pa x K->Rd .ci y V->Rd .ar (x++sg [61,62]::y) (tr 47 [] 0 (K.app V))
 |armM {x K y V}:Rd .pa x K->Rd .ma y V->Rd .ar (x++sg [61,62]::y) (tr 47 [] 0 (K.app V))
 |field (t) {x K}:Rd .ty x K->Rd .fd (nm t::sg [58]::x) (tr 5 t 0 K)
 |param (t) {x K}:Rd .ty x K->Rd .pm (nm t::sg [58]::x) (tr 7 t 0 K)
 |paramM (t) {x K}:Rd .ty x K->Rd .pm (wd Cc::nm t::sg [58]::x) (tr 7 t 1 K)
 |var0 (t):Rd .va [nm t] (tr 6 t 0 .nil)
 |var1 (t) {x K}:Rd .ty x K->Rd .va (nm t::sg [40]::(x++[sg [41]])) (tr 6 t 0 K)
 |fn0 (t) {x K z U}:Rd (.ls .pm) x K->Rd .bl z U->Rd .it (wd Xo::nm t::sg [40]::(x++sg [41]::z)) (tr 2 t (K.idx 0).length (K.app (.cons 12 [] 0 0 0 .nil U)))
 |fn1 (t) {x K y V z U}:Rd (.ls .pm) x K->Rd .ty y V->Rd .bl z U->Rd .it (wd Xo::nm t::sg [40]::(x++sg [41]::sg [45,62]::(y++z))) (tr 2 t (K.idx 0).length (K.app (V.app U)))
 |struct (t) {x K}:Rd (.ls .fd) x K->Rd .it (wd wy::nm t::sg [123]::(x++[sg [125]])) (tr 3 t 0 K)
 |enum (t) {x K}:Rd (.ls .va) x K->Rd .it (wd F1::nm t::sg [123]::(x++[sg [125]])) (tr 4 t 0 K)
 |ls0 {c}:Rd (.ls c) [] .nil
 |ls1 {c x K}:Rd c x K->Rd (.ls c) x K
 |lsm {c x K y V}:Rd c x K->Rd (.ls c) y V->Rd (.ls c) (x++sg [44]::y) (K.app V)
 |sq0 {c}:Rd (.sq c) [] .nil
 |sqm {c x K y V}:Rd c x K->Rd (.sq c) y V->Rd (.sq c) (x++y) (K.app V)
abbrev Hx (a b:Bool) (L:List dZ) (x:dZ):Prop:=(a=true/\x.k=1)\/(b=true/\x.k=3)\/x∈L
abbrev Ln:List dZ:=[wd FZ,wd zT,sg [40],wd O2]
abbrev Tu:List dZ:=Ln++[sg [45],sg [33],sg [42],sg [38]]
abbrev a2i:List dZ:=Tu++[wd Ce,wd kX,sg [123]]
abbrev paH:List dZ:=[sg [95],wd FZ,wd zT,sg [45]]
def Me:Cl->dZ->Prop
 | .ty=>Hx true false [wd a3o,wd Wg,sg [40],sg [38],wd O2]
 | .pa=>Hx true true paH
 | .pr=>Hx true true Ln
 | .po=>Hx true true Ln
 | .e0=>Hx true true Tu
 | .ci=>Hx false false [wd Ce]
 | .ma=>Hx false false [wd kX]
 | .bl=>Hx false false [sg [123]]
 | .ex=>Hx true true a2i
 | .st=>Hx true true (a2i++[wd Cd,wd IX,wd wz,wd IY,wd O1])
 | .ni=>Hx true false []
 | .ar=>Hx true true paH
 | .fd=>Hx true false []
 | .pm=>Hx true false [wd Cc]
 | .va=>Hx true false []
 | .it=>Hx false false [wd Xo,wd wy,wd F1]
 | .ls _=>fun _=>True
 | .sq _=>fun _=>True
theorem Hx.sub {a b a' b':Bool} {L L':List dZ} {x:dZ} (h:Hx a b L x) (ha:a=true->a'=true) (hb:b=true->b'=true) (hL:∀ y∈L,y∈L'):Hx a' b' L' x:=by
 rcases h with h|h|h
 ·exact .inl ⟨ha h.1,h.2⟩
 ·exact .inr (.inl ⟨hb h.1,h.2⟩)
 ·exact .inr (.inr (hL _ h))
theorem WL {x:dZ} (h:x.k=1\/x.k=3) (t:S):lg x t=false:=by
 unfold lg;rcases h with h|h<;>rw[h]<;>rfl
theorem Hx.no {a b:Bool} {L:List dZ} {x:dZ} {t:S} (h:Hx a b L x) (hL:∀ y∈L,lg y t=false):lg x t=false:=by
 rcases h with h|h|h
 ·exact WL (.inl h.2) t
 ·exact WL (.inr h.2) t
 ·exact hL _ h
theorem Hx.beg {b:Bool} {L:List dZ} {x:dZ} {c:Int} (h:Hx true b L x) (hL:∀ y∈L,pB c y=true) (hc:c=116/\b=false\/c=101\/c=112):pB c x=true:=by
 rcases h with h|h|h
 ·unfold pB;rw[h.2];rcases hc with⟨rfl,_⟩|rfl|rfl<;>rfl
 ·unfold pB;rw[h.2];rcases hc with⟨rfl,hb⟩|rfl|rfl
  ·rw[h.1]at hb;cases hb
  ·rfl
  ·rfl
 ·exact hL _ h
def WM:Cl->Bool
 | .ls _=>false
 | .sq _=>false
 |_=>true
theorem dy {c:Cl} {xs:List dZ} {W:Fo} (h:Rd c xs W):WM c=true->∃ x r,xs=x::r/\Me c x:=by
 have app:∀ {c c':Cl} {xs ys:List dZ},(∃ x r,xs=x::r/\Me c x)->(∀ x,Me c x->Me c' x)->∃ x r,xs++ys=x::r/\Me c' x:=by
  rintro c c' _ ys ⟨x,r,rfl,h⟩ hh;exact⟨x,r++ys,rfl,hh x h⟩
 have same:∀ {c c':Cl} {xs:List dZ},(∃ x r,xs=x::r/\Me c x)->(∀ x,Me c x->Me c' x)->∃ x r,xs=x::r/\Me c' x:=by
  rintro c c' _ ⟨x,r,rfl,h⟩ hh;exact⟨x,r,rfl,hh x h⟩
 have s1:∀ x,Hx true true Ln x->Hx true true Tu x:=fun x h=>h.sub (fun _=>rfl) (fun _=>rfl) (by decide);have s2:∀ x,Hx true true Tu x->Hx true true a2i x:=fun x h=>h.sub (fun _=>rfl) (fun _=>rfl) (by decide);have s3:∀ x,Hx true true a2i x->Me .st x:=fun x h=>Hx.sub h (fun _=>rfl) (fun _=>rfl) (by decide);induction h
 case paren=>intro _;exact⟨_,_,rfl,.inr (.inr (by simp[Ln]))⟩
 case ofPr ih=>intro _;exact ih rfl
 case get ih=>intro _;exact app (c':= .po) (ih rfl) fun x h=>h
 case ofPo ih=>intro _;exact same (c':= .e0) (ih rfl) s1
 case bin ih _=>intro _;exact app (c':= .e0) (ih rfl) s1
 case exE ih=>intro _;exact same (c':= .ex) (ih rfl) s2
 case exC ih=>intro _;exact same (c':= .ex) (ih rfl) fun x h=>Hx.sub h (by decide) (by decide) (by decide)
 case exM ih=>intro _;exact same (c':= .ex) (ih rfl) fun x h=>Hx.sub h (by decide) (by decide) (by decide)
 case exB ih=>intro _;exact same (c':= .ex) (ih rfl) fun x h=>Hx.sub h (by decide) (by decide) (by decide)
 case doE ih=>intro _;exact app (c':= .st) (ih rfl) fun x h=>s3 x (s2 x h)
 case doC ih=>intro _;exact app (c':= .st) (ih rfl) fun x h=>Hx.sub h (by decide) (by decide) (by decide)
 case doM ih=>intro _;exact app (c':= .st) (ih rfl) fun x h=>Hx.sub h (by decide) (by decide) (by decide)
 case doB ih=>intro _;exact app (c':= .st) (ih rfl) fun x h=>Hx.sub h (by decide) (by decide) (by decide)
 case set ih _=>intro _;exact app (c':= .st) (ih rfl) fun x h=>s3 x (s2 x (s1 x h))
 case armB ih _=>intro _;exact app (c':= .ar) (ih rfl) fun x h=>h
 case armE ih _=>intro _;exact app (c':= .ar) (ih rfl) fun x h=>h
 case armC ih _=>intro _;exact app (c':= .ar) (ih rfl) fun x h=>h
 case armM ih _=>intro _;exact app (c':= .ar) (ih rfl) fun x h=>h
 case ls0=>intro h;cases h
 case ls1=>intro h;cases h
 case lsm=>intro h;cases h
 case sq0=>intro h;cases h
 case sqm=>intro h;cases h
 all_goals(intro _;first
   |exact⟨_,_,rfl,.inl ⟨rfl,rfl⟩⟩
   |exact⟨_,_,rfl,.inr (.inl ⟨rfl,rfl⟩)⟩
   |exact⟨_,_,rfl,.inr (.inr (by decide))⟩)
def Po (b:Bool) (n:Nat) (W:Fo) (i d:Nat) (ns:List D) (r:R) (s':PS):Prop:=r.b=b/\one r.i=W.idx ns.length/\s'=mkS (i+n) d (ns++W.lay ns.length)
def Sub (l:List TokQ) (q:Q) (xs:List dZ) (W:Fo) (F:dZ->Prop):Prop:=∀ (i d:Nat) (ns:List D) (y:dZ) (ys:List dZ),d<=100->F y->Has l i (xs++y::ys)->ns.length+W.sz < 1000000->Runs l (prog q) (mkS i d ns) (Po false xs.length W i d ns)
def Kk (ks:K) (m:Nat):Prop:=ks.n=ks.l.length/\ks.l.length<=m
theorem Fo.RI:∀ (W:Fo) (n:Nat),(W.idx n).length<=W.sz
 | .nil,_=>ai _
 | .cons _ _ _ _ _ a b,n=>by have:=Fo.RI b (n+a.sz+1);simp only[Fo.idx,Fo.sz,aw];omega
theorem Fo.Hh:∀ (W:Fo) (n m:Nat),(W.idx n).length=(W.idx m).length
 | .nil,_,_=>rfl
 | .cons _ _ _ _ _ a b,n,m=>by simp only[Fo.idx,aw,Fo.Hh b (n+a.sz+1) (m+a.sz+1)]
section
variable {l:List TokQ} {i d:Nat} {ns:List D} {x y:dZ} {xs ys:List dZ} {P:R->PS->Prop} {W K V U:Fo} {F:dZ->Prop}
theorem dB {q:Q} {f:R->Pr} (h:Sub l q xs W F) (hd:d<=100) (hF:F y) (H:Has l i (xs++y::ys)) (hn:ns.length+W.sz < 1000000)
 (k:∀ r,one r.i=W.idx ns.length->Has l (i+xs.length) (y::ys)->Runs l (f r) (mkS (i+xs.length) d (ns++W.lay ns.length)) P):Runs l (.call q f) (mkS i d ns) P:=by
 refine fS (h i d ns y ys hd hF H hn) fun r s' hr=>?_;obtain⟨_,h1,rfl⟩:=hr;exact⟨yg H.drop.1.2,k r h1 H.drop⟩
theorem hZ (Z:Zl l) {p j n:Nat} {k t v ks} {ns2:List D} (H:Has l j (y::ys)) (hj:j=i+n) (hp:p<=j) (hns:ns2=ns++K.lay ns.length) (hks:ks=K.idx ns.length) (hN:ns.length+K.sz < 1000000):
 Runs l (kN (p:Int) k t v ks) (mkS j d ns2) (Po false n (tr k t v K) i d ns):=by
 subst hns;subst hks;subst hj;have e:(ns++K.lay ns.length).length=ns.length+K.sz:=by rw[ah,Fo.cH]
 refine yc Z hp H.1.2 (by rw[e];exact hN) (ig ⟨rfl,?_,?_⟩)
 ·show[D.int .i64 (((ns++K.lay ns.length).length:Nat):Int)]=[_];rw[e]
 ·show _=mkS _ _ (ns++(K.lay ns.length++[_]));rw[ag]
theorem yP (Z:Zl l) {p j n:Nat} {k t v ks} {ns2:List D} (H:Has l j (sg [59]::ys)) (hj:j+1=i+n) (hp:p<=j) (hns:ns2=ns++K.lay ns.length) (hks:ks=K.idx ns.length) (hN:ns.length+K.sz < 1000000):
 Runs l (endP (p:Int) ⟨k,t,v,ks⟩) (mkS j d ns2) (Po false n (tr k t v K) i d ns):=by
 subst hns;subst hks;have e:(ns++K.lay ns.length).length=ns.length+K.sz:=by rw[ah,Fo.cH]
 refine yc Z hp H.1.2 (by rw[e];exact hN) (km Z H rfl fun _=>ig ⟨rfl,?_,?_⟩)
 ·show[D.int .i64 (((ns++K.lay ns.length).length:Nat):Int)]=[_];rw[e]
 ·rw[hj];show _=mkS _ _ (ns++(K.lay ns.length++[_]));rw[ag]
theorem AF {n:Nat} {c:Int} {q:Q} (H:Has l i (x::xs)) (e:pB c x=true) (hj:i+n < l.length) (hk:d < 100->Runs l (prog q) (mkS i (d+1) ns) (Po false n W i (d+1) ns)):Runs l (xD c q) (mkS i d ns) (Po false n W i d ns):=by
 refine Ei H e fun hd=>fS (hk hd) fun r s' hr=>?_;obtain⟨_,h1,rfl⟩:=hr;exact⟨yg hj,Ej om (ig ⟨rfl,h1,rfl⟩)⟩
theorem zr {a b:Int} (h1:one a=K.idx ns.length) (h2:one b=V.idx (ns++K.lay ns.length).length):two a b=(K.app V).idx ns.length:=by
 rw[ah,Fo.cH]at h2;rw[Fo.iQ,<-h1,<-h2];rfl
theorem MX {a b c:Int} (h1:one a=K.idx ns.length) (h2:one b=V.idx (ns++K.lay ns.length).length) (h3:one c=U.idx (ns++K.lay ns.length++V.lay (ns++K.lay ns.length).length).length):[D.int .i64 a,D.int .i64 b,D.int .i64 c]=(K.app (V.app U)).idx ns.length:=by
 rw[ah,Fo.cH]at h2;rw[ah,Fo.cH,ah,Fo.cH]at h3;rw[Fo.iQ,Fo.iQ,<-h1,<-h2,<-h3];rfl
theorem yw:ns++K.lay ns.length++V.lay (ns++K.lay ns.length).length=ns++(K.app V).lay ns.length:=by
 rw[Fo.uN,ah,Fo.cH,ag]
theorem YZ:ns++K.lay ns.length++V.lay (ns++K.lay ns.length).length++U.lay (ns++K.lay ns.length++V.lay (ns++K.lay ns.length).length).length=ns++(K.app (V.app U)).lay ns.length:=by
 rw[yw,yw]
theorem pJ:ns=ns++Fo.nil.lay ns.length:=by simp[Fo.lay]
structure eL (b:Bool) (y:dZ):Prop where
 a1:lg y [40]=false
 a2:lg y [58,58]=false
 a3:b=false->lg y [123]=false
 a4:lg y [46]=false
 a5:∀ r:Nat,r<=4->yN r y=[]
 a6:lg y sm=false
structure kg (b:Bool) (y:dZ):Prop where
 a1:lg y [40]=false
 a2:lg y [58,58]=false
 a3:b=false->lg y [123]=false
theorem eL.p {b:Bool} (h:eL b y):kg b y:=⟨h.a1,h.a2,h.a3⟩
theorem five {Q:Nat->Prop} (h0:Q 0) (h1:Q 1) (h2:Q 2) (h3:Q 3) (h4:Q 4):∀ r,r<=4->Q r:=by
 intro r h;rcases r with _|_|_|_|_|r
 ·exact h0
 ·exact h1
 ·exact h2
 ·exact h3
 ·exact h4
 ·omega
theorem ur {b:Bool} {t:S} (h:t∈([[41],[44],[59],[125],[61]]:List S)\/(b=true/\t=[123])):eL b (sg t):=by
 rcases h with h|⟨rfl,rfl⟩
 ·have h:t=[41]\/t=[44]\/t=[59]\/t=[125]\/t=[61]:=by simpa using h
  rcases h with rfl|rfl|rfl|rfl|rfl<;>exact⟨rfl,rfl,fun _=>rfl,rfl,five rfl rfl rfl rfl rfl,rfl⟩
 ·exact⟨rfl,rfl,fun h=>(by cases h),rfl,five rfl rfl rfl rfl rfl,rfl⟩
theorem Us {g:S} (h:g∈opsL):∃ k:Nat,k<=4/\yN k (sg g)=g/\(∀ r:Nat,r<=4->r≠k->yN r (sg g)=[])/\g≠[]/\kg true (sg g)/\kg false (sg g)/\lg (sg g) [46]=false:=by
 have sp:∀ {g:S},lg (sg g) [40]=false->lg (sg g) [58,58]=false->lg (sg g) [123]=false->lg (sg g) [46]=false->kg true (sg g)/\kg false (sg g)/\lg (sg g) [46]=false:=fun h1 h2 h3 h4=>⟨⟨h1,h2,fun h=>by cases h⟩,⟨h1,h2,fun _=>h3⟩,h4⟩;have h:g=[124,124]\/g=[38,38]\/g=[60]\/g=[60,61]\/g=[62]\/g=[62,61]\/g=[61,61]\/g=[33,61]\/g=[43]\/g=[45]\/g=[42]\/g=[47]\/g=[37]:=by simpa using h
 rcases h with rfl|rfl|rfl|rfl|rfl|rfl|rfl|rfl|rfl|rfl|rfl|rfl|rfl
 ·exact⟨0,by decide,rfl,five (fun h=>absurd rfl h) (fun _=>rfl) (fun _=>rfl) (fun _=>rfl) (fun _=>rfl),by decide,sp rfl rfl rfl rfl⟩
 ·exact⟨1,by decide,rfl,five (fun _=>rfl) (fun h=>absurd rfl h) (fun _=>rfl) (fun _=>rfl) (fun _=>rfl),by decide,sp rfl rfl rfl rfl⟩
 ·exact⟨2,by decide,rfl,five (fun _=>rfl) (fun _=>rfl) (fun h=>absurd rfl h) (fun _=>rfl) (fun _=>rfl),by decide,sp rfl rfl rfl rfl⟩
 ·exact⟨2,by decide,rfl,five (fun _=>rfl) (fun _=>rfl) (fun h=>absurd rfl h) (fun _=>rfl) (fun _=>rfl),by decide,sp rfl rfl rfl rfl⟩
 ·exact⟨2,by decide,rfl,five (fun _=>rfl) (fun _=>rfl) (fun h=>absurd rfl h) (fun _=>rfl) (fun _=>rfl),by decide,sp rfl rfl rfl rfl⟩
 ·exact⟨2,by decide,rfl,five (fun _=>rfl) (fun _=>rfl) (fun h=>absurd rfl h) (fun _=>rfl) (fun _=>rfl),by decide,sp rfl rfl rfl rfl⟩
 ·exact⟨2,by decide,rfl,five (fun _=>rfl) (fun _=>rfl) (fun h=>absurd rfl h) (fun _=>rfl) (fun _=>rfl),by decide,sp rfl rfl rfl rfl⟩
 ·exact⟨2,by decide,rfl,five (fun _=>rfl) (fun _=>rfl) (fun h=>absurd rfl h) (fun _=>rfl) (fun _=>rfl),by decide,sp rfl rfl rfl rfl⟩
 ·exact⟨3,by decide,rfl,five (fun _=>rfl) (fun _=>rfl) (fun _=>rfl) (fun h=>absurd rfl h) (fun _=>rfl),by decide,sp rfl rfl rfl rfl⟩
 ·exact⟨3,by decide,rfl,five (fun _=>rfl) (fun _=>rfl) (fun _=>rfl) (fun h=>absurd rfl h) (fun _=>rfl),by decide,sp rfl rfl rfl rfl⟩
 ·exact⟨4,by decide,rfl,five (fun _=>rfl) (fun _=>rfl) (fun _=>rfl) (fun _=>rfl) (fun h=>absurd rfl h),by decide,sp rfl rfl rfl rfl⟩
 ·exact⟨4,by decide,rfl,five (fun _=>rfl) (fun _=>rfl) (fun _=>rfl) (fun _=>rfl) (fun h=>absurd rfl h),by decide,sp rfl rfl rfl rfl⟩
 ·exact⟨4,by decide,rfl,five (fun _=>rfl) (fun _=>rfl) (fun _=>rfl) (fun _=>rfl) (fun h=>absurd rfl h),by decide,sp rfl rfl rfl rfl⟩
theorem Au {n:Nat} {b:Bool} (Hy:Has l (i+n) (y::ys)):∀ (m r:Nat),r+m<=5->(∀ k:Nat,r<=k->k < r+m->yN k y=[])->Runs l (prog (.row ((r+m:Nat):Int) b)) (mkS i d ns) (Po false n W i d ns)->Runs l (prog (.row (r:Int) b)) (mkS i d ns) (Po false n W i d ns)
 |0,_,_,_,h=>h
 |m+1,r,hm,hs,h=>by
  have ih:=Au Hy m (r+1) om (fun k h1 h2=>hs k om om) (by rw[show r+1+m=r+(m+1)by omega];exact h);have hr:prog (.row (r:Int) b)= .pos fun p=> .call (.row (w ((r:Int)+1)) b) fun a=> .call (.rows (r:Int) b p a.i) fun a=> .ret (rI a.i):=by
    simp only[prog,ak (show ¬ (r:Int)=5 by omega)]
  rw[hr];refine eI ?_;rw[show w ((r:Int)+1)=((r+1:Nat):Int)by rw[show(r:Int)+1=((r+1:Nat):Int)by omega,Cb om]];refine fS ih fun a s' ha=>?_;obtain⟨_,h1,rfl⟩:=ha;refine⟨yg Hy.1.2,?_⟩;refine fS (B:=fun a' s'=>a'.i=a.i/\s'=mkS (i+n) d (ns++W.lay ns.length)) ?_ fun a' s' ha'=>?_
  ·refine mu (Jo Hy (hs r (ai _) om) ?_);exact ig ⟨rfl,rfl⟩
  ·obtain⟨h2,rfl⟩:=ha';exact⟨yg Hy.1.2,ig ⟨rfl,by show one a'.i=_;rw[h2];exact h1,rfl⟩⟩
theorem Ya {n:Nat} {b:Bool} (hj:i+n < l.length) (h:Runs l (prog (.prefix_ b)) (mkS i d ns) (Po false n W i d ns)):Runs l (prog (.row ((5:Nat):Int) b)) (mkS i d ns) (Po false n W i d ns):=by
 refine fS (q:= .prefix_ b) (f:= .ret) h fun r s' hr=>?_;obtain⟨h0,h1,rfl⟩:=hr;exact⟨yg hj,ig ⟨h0,h1,rfl⟩⟩
theorem Bm {n:Nat} {b:Bool} (Hy:Has l (i+n) (y::ys)) (H:Has l i (x::xs)) (e:pB 101 x=true) (hS:∀ r:Nat,r<=4->yN r y=[]) (h:d < 100->Runs l (prog (.prefix_ b)) (mkS i (d+1) ns) (Po false n W i (d+1) ns)):Runs l (prog (.expr b)) (mkS i d ns) (Po false n W i d ns):=by
 refine AF (q:= .row 0 b) H e Hy.1.2 fun hd=>?_;exact Au Hy 5 0 om (fun k _ h2=>hS k om) (Ya Hy.1.2 (h hd))
end
def Gp (l:List TokQ) (P:R->PS->Prop) (r:R) (s':PS):Prop:=fb l s'=true/\P (rI r.i) s'
def Pp (l:List TokQ) (b:Bool) (xs:List dZ) (W:Fo):Prop:=∀ (i d:Nat) (ns:List D) (y:dZ) (ys:List dZ) (P:R->PS->Prop),d<=100->kg b y->Has l i (xs++y::ys)->ns.length+W.sz < 1000000->
 (∀ a,one a=W.idx ns.length->Has l (i+xs.length) (y::ys)->Runs l (prog (.gets (i:Int) a)) (mkS (i+xs.length) d (ns++W.lay ns.length)) (Gp l P))->Runs l (prog (.postfix_ b)) (mkS i d ns) P
section
variable {l:List TokQ} {i d:Nat} {ns:List D} {x y:dZ} {xs ys:List dZ} {P:R->PS->Prop} {W K V U:Fo} {F:dZ->Prop}
theorem jk {q:Q} {b:Bool} {n:Nat} {s:PS} (h:Runs l (prog q) s (Po b n W i d ns)) (hj:i+n < l.length):Runs l (.call q .ret) s (Po b n W i d ns):=by
 refine fS h fun r s' hr=>?_;obtain⟨h0,h1,rfl⟩:=hr;exact⟨yg hj,ig ⟨h0,h1,rfl⟩⟩
theorem vp {b:Bool} (h:Sub l (.primary b) xs W (kg b)):Pp l b xs W:=by
 intro i d ns y ys P hd hF H hN k;refine eI (f:=fun p=> .call (.primary b) fun a=> .call (.gets p a.i) fun a=> .ret (rI a.i)) ?_;refine dB h hd hF H hN fun r h1 H1=>?_;exact fS (k r.i h1 H1) fun r' s' hr=>⟨hr.1,ig hr.2⟩
theorem Eu {b:Bool} (h:Pp l b xs W) (hd:d<=100) (hF:kg b y) (h46:lg y [46]=false) (hh:∃ x r,xs=x::r/\Hx true true Ln x) (H:Has l i (xs++y::ys)) (hN:ns.length+W.sz < 1000000):
 Runs l (prog (.prefix_ b)) (mkS i d ns) (Po false xs.length W i d ns):=by
 have hj:=H.drop.1.2;obtain⟨x,r,rfl,hx⟩:=hh;have H':Has l i (x::(r++y::ys)):=H;refine eI (f:=fun p=> .take [45] _) ?_;refine eQ H' (hx.no (by decide)) ?_;refine eQ H' (hx.no (by decide)) ?_;refine eQ H' (hx.no (by decide)) ?_;refine eQ H' (hx.no (by decide)) ?_;refine jk (h i d ns y ys _ hd hF H hN fun a h1 H1=>?_) hj;refine eQ (f:=fun b=>_) H1 h46 (ig ⟨yg hj,rfl,h1,rfl⟩)
theorem Es {x:dZ} (h:Hx true true Ln x):pB 101 x=true:=h.beg (by decide) (.inr (.inl rfl))
theorem vJ {b:Bool} (h:Pp l b xs W) (hh:∃ x r,xs=x::r/\Hx true true Ln x):Sub l (.operand b) xs W fun y=>kg b y/\lg y [46]=false:=by
  intro i d ns y ys hd hF H hN;have hj:=H.drop.1.2;obtain⟨x,r,e,hx⟩:=id hh;refine AF (q:= .prefix_ b) (x:=x) (xs:=r++y::ys) (by subst e;exact H) (Es hx) hj fun hd=>?_;exact Eu h om hF.1 hF.2 hh H hN
theorem Et {b:Bool} (h:Pp l b xs W) (hh:∃ x r,xs=x::r/\Hx true true Ln x):Sub l (.expr b) xs W (eL b):=by
 intro i d ns y ys hd hF H hN;obtain⟨x,r,e,hx⟩:=id hh;refine Bm (x:=x) (xs:=r++y::ys) H.drop (by subst e;exact H) (Es hx) hF.a5 fun hd=>?_;exact Eu h om hF.p hF.a4 hh H hN
theorem VL (h:Sub l .branch xs W F) (hh:∃ x r,xs=x::r/\Hx false false [wd Ce,wd kX,sg [123]] x):Sub l (.expr false) xs W fun y=>F y/\eL false y:=by
  intro i d ns y ys hd hF H hN;have hj:=H.drop.1.2;have H1:=H.drop;obtain⟨x,r,e,hx⟩:=id hh;have H':Has l i (x::(r++y::ys)):=by subst e;exact H
  refine Bm (x:=x) (xs:=r++y::ys) H.drop H' ?_ hF.2.a5 fun hd=>?_
  ·rcases hx with h|h|h
   ·cases h.1
   ·cases h.1
   ·exact(by decide:∀ x∈[wd Ce,wd kX,sg [123]],pB 101 x=true) x h
  refine eI (f:=fun p=> .take [45] _) ?_;refine eQ H' (hx.no (by decide)) ?_;refine eQ H' (hx.no (by decide)) ?_;refine eQ H' (hx.no (by decide)) ?_;refine eQ H' (hx.no (by decide)) ?_;refine jk ?_ hj;refine eI (f:=fun p=> .call (.primary false) fun a=> .call (.gets p a.i) fun a=> .ret (rI a.i)) ?_;have hp:Runs l (prog (.primary false)) (mkS i (d+1) ns) (Po false xs.length W i (d+1) ns):=by
   refine mu (f:=fun b=>match b with|false=> .dead|true=>_) (eI ?_);have hk:decide (x.k=3)=false:=by
    rcases hx with h|h|h
    ·cases h.1
    ·cases h.1
    ·exact(by decide:∀ x∈[wd Ce,wd kX,sg [123]],decide (x.k=3)=false) x h
   refine AE H' hk ?_;refine eQ H' (hx.no (by decide)) ?_;refine eQ H' (hx.no (by decide)) ?_;refine eQ H' (hx.no (by decide)) ?_;refine eQ H' (hx.no (by decide)) ?_;have hb:=jk (h i (d+1) ns y ys om hF.1 H hN) hj;cases c1:lg x Ce with
   |true=>exact jd H' c1 hb
   |false=>
    refine jd H' c1 ?_;cases c2:lg x kX with
    |true=>exact jd H' c2 hb
    |false=>
     refine jd H' c2 ?_;have c3:lg x [123]=true:=by
      rcases hx with h|h|h
      ·cases h.1
      ·cases h.1
      ·have h:x=wd Ce\/x=wd kX\/x=sg [123]:=by simpa using h
       rcases h with rfl|rfl|rfl
       ·cases c1
       ·cases c2
       ·rfl
     exact jd H' c3 hb
  refine fS hp fun a s' ha=>?_;obtain⟨_,h1,rfl⟩:=ha;refine⟨yg hj,?_⟩;refine fS (q:= .gets _ _) (B:=fun r s'=>r.i=a.i/\s'=mkS (i+xs.length) (d+1) (ns++W.lay ns.length)) (eQ (f:=fun b=>_) H1 hF.2.a4 (ig ⟨rfl,rfl⟩)) fun r s' hr=>?_;obtain⟨h2,rfl⟩:=hr;exact⟨yg hj,ig ⟨rfl,by show one r.i=_;rw[h2];exact h1,rfl⟩⟩
theorem AH (h:∀ (i d:Nat) (ns:List D) (y:dZ) (ys:List dZ),d<=100->eL false y->Has l i (xs++y::ys)->ns.length+W.sz < 1000000->Runs l (prog (.prefix_ false)) (mkS i d ns) (Po false xs.length W i d ns)) (hh:∃ x r,xs=x::r/\Hx true true Tu x):Sub l (.expr false) xs W (eL false):=by
 intro i d ns y ys hd hF H hN;obtain⟨x,r,e,hx⟩:=id hh;refine Bm (x:=x) (xs:=r++y::ys) H.drop (by subst e;exact H) (hx.beg (by decide) (.inr (.inl rfl))) hF.a5 fun hd=>?_;exact h i (d+1) ns y ys om hF H hN
theorem SY (Z:Zl l) {g:S} {y2:List dZ} (hg:g∈opsL) (h:Pp l false xs K) (hh:∃ x r,xs=x::r/\Hx true true Ln x) (h':Pp l false y2 V) (hh':∃ x r,y2=x::r/\Hx true true Ln x):Sub l (.expr false) (xs++sg g::y2) (tr 38 g 0 (K.app V)) (eL false):=by
 intro i d ns y ys hd hF H hN;obtain⟨k,hk,s1,s2,s3,s4,s5,s6⟩:=Us hg;have hj:=H.drop.1.2;have Hy:=H.drop;simp only[ag,al]at H;have H1:=H.drop;have H2:=H1.2.drop;simp only[Fo.sz,Fo.eF]at hN;obtain⟨x,r,e,hx⟩:=id hh;refine AF (q:= .row 0 false) (x:=x) (xs:=r++sg g::(y2++y::ys)) (by subst e;exact H) (Es hx) hj fun hd=>?_;refine Au Hy k 0 om (fun r _ h2=>hF.a5 r om) ?_;rw[bt];have hr:prog (.row (k:Int) false)= .pos fun p=> .call (.row (w ((k:Int)+1)) false) fun a=> .call (.rows (k:Int) false p a.i) fun a=> .ret (rI a.i):=by
   simp only[prog,ak (show ¬ (k:Int)=5 by omega)]
 rw[hr];refine eI ?_;have hw:w ((k:Int)+1)=((k+1:Nat):Int):=by rw[show(k:Int)+1=((k+1:Nat):Int)by omega,Cb om]
 rw[hw]
 have r1:Runs l (prog (.row ((k+1:Nat):Int) false)) (mkS i (d+1) ns) (Po false xs.length K i (d+1) ns):=
  Au H1 (4 - k) (k+1) om (fun m h1 h2=>s2 m om om) (by
    rw[show k+1+(4 - k)=5 by omega];exact Ya H1.1.2 (Eu h om s5 s6 hh H om))
 refine fS r1 fun a s' ha=>?_;obtain⟨_,a1,rfl⟩:=ha;refine⟨yg H1.1.2,?_⟩;refine fS (B:=fun r s'=>one r.i=(tr 38 g 0 (K.app V)).idx ns.length/\s'=mkS (i+(xs++sg g::y2).length) (d+1) (ns++(tr 38 g 0 (K.app V)).lay ns.length)) ?_ fun r s' hr=>?_
 ·obtain⟨x',r',e',hx'⟩:=id hh';refine mu (Jo H1 s1 ?_);rw[ak s3];refine Gv Z (y:=x') (xs:=r'++y::ys) (by subst e';exact H1) fun H3=>?_;rw[hw];have H4:Has l (i+xs.length+1) (y2++y::ys):=by subst e';exact H3
  have r2:Runs l (prog (.row ((k+1:Nat):Int) false)) (mkS (i+xs.length+1) (d+1) (ns++K.lay ns.length)) (Po false y2.length V (i+xs.length+1) (d+1) (ns++K.lay ns.length)):=
   Au H2 (4 - k) (k+1) om (fun m h1 h2=>hF.a5 m om) (by
     rw[show k+1+(4 - k)=5 by omega];exact Ya H2.1.2 (Eu h' om hF.p hF.a4 hh' H4 (by rw[ah,Fo.cH];omega)))
  refine fS r2 fun c s' hc=>?_;obtain⟨_,c1,rfl⟩:=hc;refine⟨yg H2.1.2,?_⟩;rw[yw,zr a1 c1];have en:(ns++(K.app V).lay ns.length).length=ns.length+(K.app V).sz:=by rw[ah,Fo.cH]
  have eq:mkS (i+xs.length+1+y2.length) (d+1) (ns++(K.app V).lay ns.length++[N.D ⟨38,g,0,(K.app V).idx ns.length⟩ 0 0])=mkS (i+(xs++sg g::y2).length) (d+1) (ns++(tr 38 g 0 (K.app V)).lay ns.length):=by
   have e1:i+xs.length+1+y2.length=i+(xs++sg g::y2).length:=by rw[ah,aw];omega
   rw[e1,ag];rfl
  refine yc Z om H2.1.2 (by rw[en,Fo.eF];omega) ?_;have ei:one (((ns++(K.app V).lay ns.length).length:Nat):Int)=(tr 38 g 0 (K.app V)).idx ns.length:=by rw[en];rfl
  cases c2:decide ((k:Int)=2)with
  |true=>exact ig ⟨ei,eq⟩
  |false=>
   refine tm (q:= .rows _ _ _ _) (mu (Jo H2 (hF.a5 k hk) ?_));exact ig ⟨ei,eq⟩
 ·obtain⟨h1,rfl⟩:=hr;exact⟨yg hj,ig ⟨rfl,h1,rfl⟩⟩
end
theorem nN {P:Prop} (h:P:=by first|omega|(simp only[ah,aw,aH,Fo.cH,Fo.sz,Fo.eF]at*;omega)):P:=h
structure Lf (P:Prop):Prop where
 f:P
theorem rs {A Q:Prop} (q:Lf Q) (h:Lf Q->A:=by
  intro q
  first
   |refine eI ?_
   |refine mu ?_
   |refine oX (by assumption) (by assumption) (by rfl) ?_
   |refine eQ (by assumption) (by first|rfl|assumption|exact Hx.no (by assumption) (by decide)) ?_
   |refine km (by assumption) (by assumption) (by rfl) ?_
   |refine Eh (by assumption) (by assumption) (by rfl) ?_
   |refine jd (b:=true) (by assumption) (by first|rfl|assumption) ?_
   |refine jd (b:=false) (by assumption) (by first|rfl|assumption|exact Hx.no (by assumption) (by decide)) ?_
   |refine AE (b:=true) (by assumption) (by first|rfl|assumption) ?_
   |refine AE (b:=false) (by assumption) (by first|rfl|assumption) ?_
   |refine Yf (b:=true) (by assumption) (by first|rfl|assumption) ?_
   |refine a5y (by assumption) ?_
   |refine Ej om ?_
  exact q.f):A:=h q
section
variable {l:List TokQ} {i d:Nat} {ns:List D} {x y:dZ} {xs ys:List dZ} {P:R->PS->Prop} {W K V U:Fo} {F:dZ->Prop}
theorem vF (Z:Zl l) (hh:∃ x r,xs=x::r/\Me .ty x) (h:∀ (i d:Nat) (ns:List D) (y:dZ) (ys:List dZ),d<=100->Has l i (xs++y::ys)->ns.length+W.sz < 1000000->Runs l (prog (.typed (i:Int))) (mkS i d ns) (Po false xs.length W i d ns)):Sub l .typ xs W fun _=>True:=by
  intro i d ns y ys hd hF H hN;have hj:=H.drop.1.2;obtain⟨x,r,e,hx⟩:=hh;refine eI (f:=fun p=>xD 116 (.typed p)) ?_;refine AF (q:= .typed (i:Int)) (x:=x) (xs:=r++y::ys) (by subst e;exact H) (Hx.beg (c:=116) hx (by decide) (.inl ⟨rfl,rfl⟩)) hj fun hd=>?_;exact h i (d+1) ns y ys om H hN
theorem sV (Z:Zl l) (hh:∃ x r,xs=x::r/\Me .pa x) (h:∀ (i d:Nat) (ns:List D) (y:dZ) (ys:List dZ),d<=100->F y->Has l i (xs++y::ys)->ns.length+W.sz < 1000000->Runs l (prog (.patterned (i:Int))) (mkS i d ns) (Po false xs.length W i d ns)):Sub l .pattern xs W F:=by
 intro i d ns y ys hd hF H hN;have hj:=H.drop.1.2;obtain⟨x,r,e,hx⟩:=hh;refine eI (f:=fun p=>xD 112 (.patterned p)) ?_;refine AF (q:= .patterned (i:Int)) (x:=x) (xs:=r++y::ys) (by subst e;exact H) (Hx.beg (c:=112) hx (by decide) (.inr (.inr rfl))) hj fun hd=>?_;exact h i (d+1) ns y ys om hF H hN
theorem qY (Z:Zl l):∀ {c:Cl} {xs:List dZ} {W:Fo},Rd c xs W->c= .ty->Sub l .typ xs W fun _=>True:=by
  intro c xs W h;induction h
  case tInt=>
   intro _;refine vF Z (dy .tInt rfl) fun i d ns y ys hd H hN=>?_
   repeat' (first|(refine rs ⟨?_⟩;try intro _)|fail)
   exact hZ Z (by assumption) rfl om pJ rfl nN
  case tBool=>
   intro _;refine vF Z (dy .tBool rfl) fun i d ns y ys hd H hN=>?_
   repeat' (first|(refine rs ⟨?_⟩;try intro _)|fail)
   exact hZ Z (by assumption) rfl om pJ rfl nN
  case tUnit=>
   intro _;refine vF Z (dy .tUnit rfl) fun i d ns y ys hd H hN=>?_
   repeat' (first|(refine rs ⟨?_⟩;try intro _)|fail)
   exact hZ Z (by assumption) rfl om pJ rfl nN
  case tName t=>
   intro _;refine vF Z (dy (.tName t) rfl) fun i d ns y ys hd H hN=>?_
   repeat' (first|(refine rs ⟨?_⟩;try intro _)|fail)
   exact hZ Z (by assumption) rfl om pJ rfl nN
  case tRef x K hr ih=>
   intro _;refine vF Z (dy (.tRef hr) rfl) fun i d ns y ys hd H hN=>?_;have ih:=ih rfl;obtain⟨x0,r,e,hx⟩:=dy hr rfl;have e1:x++y::ys=x0::(r++y::ys):=by rw[e];rfl
   have H2:Has l (i+1) (x0::(r++y::ys)):=by rw[<-e1];exact H.2
   repeat' (first|(refine rs ⟨?_⟩;try intro _)|(refine dB ih (by omega) trivial (by assumption) nN fun _ a1 _=>?_)|fail)
   exact hZ Z (by assumption) nN om rfl a1 nN
  case tMut x K hr ih=>
   intro _;refine vF Z (dy (.tMut hr) rfl) fun i d ns y ys hd H hN=>?_;have ih:=ih rfl
   repeat' (first|(refine rs ⟨?_⟩;try intro _)|(refine dB ih (by omega) trivial (by assumption) nN fun _ a1 _=>?_)|fail)
   exact hZ Z (by assumption) nN om rfl a1 nN
  case tBox x K hr ih=>
   intro _;refine vF Z (dy (.tBox hr) rfl) fun i d ns y ys hd H hN=>?_;have ih:=ih rfl;simp only[ag,al,aq]at H
   repeat' (first|(refine rs ⟨?_⟩;try intro _)|(refine dB ih (by omega) trivial (by assumption) nN fun _ a1 _=>?_)|fail)
   exact hZ Z (by assumption) nN om rfl a1 nN
  all_goals(intro h;cases h)
def MF (y:dZ):Prop:=lg y [40]=false/\lg y [58,58]=false
theorem pV (Z:Zl l):∀ {c:Cl} {xs:List dZ} {W:Fo},Rd c xs W->c= .pa->Sub l .pattern xs W MF:=by
 intro c xs W h;induction h
 case pAny=>
  intro _;refine sV Z (dy .pAny rfl) fun i d ns y ys hd hF H hN=>?_
  repeat' (first|(refine rs ⟨?_⟩;try intro _)|fail)
  exact hZ Z (by assumption) rfl om pJ rfl nN
 case pTrue=>
  intro _;refine sV Z (dy .pTrue rfl) fun i d ns y ys hd hF H hN=>?_
  repeat' (first|(refine rs ⟨?_⟩;try intro _)|fail)
  exact hZ Z (by assumption) rfl om pJ rfl nN
 case pFalse=>
  intro _;refine sV Z (dy .pFalse rfl) fun i d ns y ys hd hF H hN=>?_
  repeat' (first|(refine rs ⟨?_⟩;try intro _)|fail)
  exact hZ Z (by assumption) rfl om pJ rfl nN
 case pNum v=>
  intro _;refine sV Z (dy (.pNum v) rfl) fun i d ns y ys hd hF H hN=>?_
  repeat' (first|(refine rs ⟨?_⟩;try intro _)|(refine Gv Z (by assumption) fun _=>?_)|fail)
  exact hZ Z (by assumption) rfl om pJ rfl nN
 case pNeg v=>
  intro _;refine sV Z (dy (.pNeg v) rfl) fun i d ns y ys hd hF H hN=>?_
  repeat' (first|(refine rs ⟨?_⟩;try intro _)|(refine Gv Z (by assumption) fun _=>?_)|fail)
  exact hZ Z (by assumption) rfl om pJ rfl nN
 case pVar t=>
  intro _;refine sV Z (dy (.pVar t) rfl) fun i d ns y ys hd hF H hN=>?_;have c1:=hF.2
  repeat' (first|(refine rs ⟨?_⟩;try intro _)|fail)
  exact hZ Z (by assumption) rfl om pJ rfl nN
 case pPick a b=>
  intro _;refine sV Z (dy (.pPick a b) rfl) fun i d ns y ys hd hF H hN=>?_;have c1:=hF.1
  repeat' (first|(refine rs ⟨?_⟩;try intro _)|fail)
  exact hZ Z (by assumption) rfl om pJ rfl nN
 case pPick1 a b x K hr ih=>
  intro _;refine sV Z (dy (.pPick1 a b hr) rfl) fun i d ns y ys hd hF H hN=>?_;have ih:=ih rfl;simp only[ag,al,aq]at H
  repeat' (first|(refine rs ⟨?_⟩;try intro _)|(refine dB ih (by omega) ⟨rfl,rfl⟩ (by assumption) nN fun _ a1 _=>?_)|fail)
  exact hZ Z (by assumption) nN om rfl a1 nN
 all_goals(intro h;cases h)
end
def PoL (ks:K) (n:Nat) (W:Fo) (i d:Nat) (ns:List D) (r:R) (s':PS):Prop:=r.v=0/\r.ks.l=ks.l++W.idx ns.length/\Kk r.ks (ns.length+W.sz)/\s'=mkS (i+n) d (ns++W.lay ns.length)
def Lp (l:List TokQ) (q:K->Q) (t:S) (xs:List dZ) (W:Fo):Prop:=∀ (ks:K) (i d:Nat) (ns:List D) (ys:List dZ),d<=100->Has l i (xs++sg t::ys)->ns.length+W.sz < 1000000->Kk ks ns.length->Runs l (prog (q ks)) (mkS i d ns) (PoL ks xs.length W i d ns)
def a0t (l:List TokQ) (xs:List dZ) (W:Fo):Prop:=∀ (ks:K) (i d:Nat) (ns:List D) (ys:List dZ),d<=100->Has l i (xs++sg [41]::ys)->ns.length+W.sz < 1000000->Kk ks ns.length->
 Runs l (prog (.params ks (ks.l.length:Nat))) (mkS i d ns) fun r s'=>r.v=(r.ks.l.length:Nat)/\r.ks.l=ks.l++W.idx ns.length/\Kk r.ks (ns.length+W.sz)/\s'=mkS (i+xs.length) d (ns++W.lay ns.length)
section
variable {l:List TokQ} {i d:Nat} {ns:List D} {x y:dZ} {xs ys:List dZ} {P:R->PS->Prop} {W K V U:Fo} {F:dZ->Prop}
theorem lC {ks:Pa.K} {m:Nat} (h:Kk ks m) (hm:m < 1000000):jM ks=true:=by
 unfold jM;rw[au h.1.symm,au (by have:=h.1;have:=h.2;omega)];rfl
theorem NP {m:Nat}:Kk Pa.K.o m:=⟨rfl,aR _⟩
theorem j0 {ks:Pa.K} {m m':Nat} {a:Int} (h:Kk ks m) (hm:m+1<=m'):Kk (push ks a) m':=by
 have h1:=h.1;have h2:=h.2;refine⟨?_,?_⟩
 ·show ks.n+1=(ks.l++[_]).length;rw[ah];simp;omega
 ·show(ks.l++[_]).length<=m';rw[ah];simp;omega
theorem Kk.up {ks:Pa.K} {m m':Nat} (h:Kk ks m) (hm:m<=m'):Kk ks m':=⟨h.1,by have:=h.2;omega⟩
theorem mO {a:Int} {n:Nat} (h:one a=K.idx n):1<=K.sz:=by
 have:=Fo.RI K n;rw[<-h]at this;exact this
theorem yb {a:Int} {j n:Nat} (hj:j=i+n) (h1:one a=W.idx ns.length):Runs l (.ret (rI a)) (mkS j d (ns++W.lay ns.length)) (Po false n W i d ns):=by
 subst hj;exact ig ⟨rfl,h1,rfl⟩
theorem Jp {q:Pa.K->Q} {t:S} {f:R->Pr} (h:Lp l q t xs W) (hd:d<=100) (H:Has l i (xs++sg t::ys)) (hn:ns.length+W.sz < 1000000)
 (k:∀ p:R,p.ks.l=W.idx ns.length->jM p.ks=true->Has l (i+xs.length) (sg t::ys)->Runs l (f p) (mkS (i+xs.length) d (ns++W.lay ns.length)) P):Runs l (.call (q Pa.K.o) f) (mkS i d ns) P:=by
 refine fS (h Pa.K.o i d ns ys hd H hn NP) fun r s' hr=>?_;obtain⟨_,h1,h2,rfl⟩:=hr;exact⟨yg H.drop.1.2,k r (by simpa [Pa.K.o] using h1) (lC h2 hn) H.drop⟩
variable {q:Q} {k:Pa.K->Q} {t:S}
theorem YR (hk:∀ ks,prog (k ks)=rowP t q ks k) (ht:lg (sg t) t=true):Lp l k t [] .nil:=by
 intro ks i d ns ys hd H hN hK;rw[hk];unfold rowP;refine mu (jd H ht (ig ⟨rfl,?_,hK.up (Nat.le_add_right _ _),?_⟩))
 ·simp[Fo.idx]
 ·simp[Fo.lay]
theorem EM (hk:∀ ks,prog (k ks)=rowP t q ks k) (h:Sub l q xs K F) (hF:F (sg t)) (hc:lg (sg t) [44]=false) (hh:∃ x r,xs=x::r/\lg x t=false):Lp l k t xs K:=by
 intro ks i d ns ys hd H hN hK;rw[hk];unfold rowP;obtain⟨x,r,e,hx⟩:=hh;have H':Has l i (x::(r++sg t::ys)):=by subst e;exact H
 refine mu (jd H' hx (dB h hd hF H hN fun a a1 H1=>?_));refine fu (lC hK om) (eQ H1 hc (ig ⟨rfl,?_,j0 hK (by have:=mO a1;omega),rfl⟩));show ks.l++_=_;rw[<-a1];rfl
theorem zE (Z:Zl l) (hk:∀ ks,prog (k ks)=rowP t q ks k) (h:Sub l q xs K F) (hF:F (sg [44])) (hh:∃ x r,xs=x::r/\lg x t=false) {y2:List dZ} (h2:Lp l k t y2 V):Lp l k t (xs++sg [44]::y2) (K.app V):=by
 intro ks i d ns ys hd H hN hK;simp only[ag,al,Fo.eF]at H hN;rw[hk];unfold rowP;obtain⟨x,r,e,hx⟩:=hh;have H':Has l i (x::(r++sg [44]::(y2++sg t::ys))):=by subst e;exact H
 refine mu (jd H' hx (dB h hd hF H om fun a a1 H1=>?_));have e1:=mO a1;refine fu (lC hK om) (oX Z H1 rfl fun H2=>tm ?_);refine(h2 (push ks a.i) _ d (ns++K.lay ns.length) ys hd H2 (by rw[ah,Fo.cH];omega) (by rw[ah,Fo.cH];exact j0 hK om)).mono fun r s' hr=>?_;obtain⟨p0,p1,p2,p3⟩:=hr;refine⟨p0,?_,?_,?_⟩
 ·rw[p1,ah,Fo.cH,Fo.iQ,<-a1];show(ks.l++[_])++_=_;rw[ag];rfl
 ·rw[ah,Fo.cH]at p2;rw[Fo.eF];exact p2.up om
 ·rw[p3,yw];rw[show i+xs.length+1+y2.length=i+(xs++sg [44]::y2).length by rw[ah,aw];omega]
theorem We {ks:Pa.K} {m:Nat} {a:Int} (h:Kk ks m) (hm:m < 1000000):w (((ks.l.length:Nat):Int)+1)=(((push ks a).l.length:Nat):Int):=by
 have h2:=h.2;rw[show((ks.l.length:Nat):Int)+1=((ks.l.length+1:Nat):Int)by omega,Cb om];show _=(((ks.l++[_]).length:Nat):Int);rw[ah];rfl
theorem UT:a0t l [] .nil:=by
 intro ks i d ns ys hd H hN hK;refine mu (jd H rfl (ig ⟨rfl,?_,hK.up (Nat.le_add_right _ _),?_⟩))
 ·simp[Fo.idx]
 ·simp[Fo.lay]
theorem US (h:Sub l .param xs K F) (hF:F (sg [41])) (hh:∃ x r,xs=x::r/\lg x [41]=false):a0t l xs K:=by
 intro ks i d ns ys hd H hN hK;obtain⟨x,r,e,hx⟩:=hh;have H':Has l i (x::(r++sg [41]::ys)):=by subst e;exact H
 refine mu (jd H' hx (dB h hd hF H hN fun a a1 H1=>?_));refine fu (lC hK om) (eQ H1 rfl (ig ⟨We hK om,?_,j0 hK (by have:=mO a1;omega),rfl⟩));show ks.l++_=_;rw[<-a1];rfl
theorem Rc (Z:Zl l) (h:Sub l .param xs K F) (hF:F (sg [44])) (hh:∃ x r,xs=x::r/\lg x [41]=false) {y2:List dZ} (h2:a0t l y2 V):a0t l (xs++sg [44]::y2) (K.app V):=by
 intro ks i d ns ys hd H hN hK;simp only[ag,al,Fo.eF]at H hN;obtain⟨x,r,e,hx⟩:=hh;have H':Has l i (x::(r++sg [44]::(y2++sg [41]::ys))):=by subst e;exact H
 refine mu (jd H' hx (dB h hd hF H om fun a a1 H1=>?_));have e1:=mO a1;refine fu (lC hK om) (oX Z H1 rfl fun H2=>tm ?_);rw[We (a:=a.i) hK om];refine(h2 (push ks a.i) _ d (ns++K.lay ns.length) ys hd H2 (by rw[ah,Fo.cH];omega) (by rw[ah,Fo.cH];exact j0 hK om)).mono fun r s' hr=>?_;obtain⟨p0,p1,p2,p3⟩:=hr;refine⟨p0,?_,?_,?_⟩
 ·rw[p1,ah,Fo.cH,Fo.iQ,<-a1];show(ks.l++[_])++_=_;rw[ag];rfl
 ·rw[ah,Fo.cH]at p2;rw[Fo.eF];exact p2.up om
 ·rw[p3,yw];rw[show i+xs.length+1+y2.length=i+(xs++sg [44]::y2).length by rw[ah,aw];omega]
theorem wO {b:Bool} {n:Nat} {t:S} (H:Has l i (nm t::xs)) (hj:i+n < l.length) (h:Runs l (prog (.named (i:Int) b)) (mkS i d ns) (Po false n W i d ns)):Runs l (prog (.primary b)) (mkS i d ns) (Po false n W i d ns):=by
 refine mu (f:=fun b=>match b with|false=> .dead|true=>_) (eI ?_)
 repeat' (first|(refine rs ⟨?_⟩;try intro _)|fail)
 exact jk h hj
theorem Yq (Z:Zl l) (v:Int) (b:Bool):Sub l (.primary b) [nu v] (tr 30 [] v .nil) (kg b):=by
 intro i d ns y ys hd hF H hN;refine mu (f:=fun b=>match b with|false=> .dead|true=>_) (eI ?_)
 repeat' (first|(refine rs ⟨?_⟩;try intro _)|(refine Gv Z (by assumption) fun _=>?_)|fail)
 exact hZ Z (by assumption) rfl om pJ rfl nN
theorem Yp (Z:Zl l) (b:Bool):Sub l (.primary b) [wd FZ] (tr 31 [] 1 .nil) (kg b):=by
 intro i d ns y ys hd hF H hN;refine mu (f:=fun b=>match b with|false=> .dead|true=>_) (eI ?_)
 repeat' (first|(refine rs ⟨?_⟩;try intro _)|fail)
 exact hZ Z (by assumption) rfl om pJ rfl nN
theorem Yt (Z:Zl l) (b:Bool):Sub l (.primary b) [wd zT] (tr 31 [] 0 .nil) (kg b):=by
 intro i d ns y ys hd hF H hN;refine mu (f:=fun b=>match b with|false=> .dead|true=>_) (eI ?_)
 repeat' (first|(refine rs ⟨?_⟩;try intro _)|fail)
 exact hZ Z (by assumption) rfl om pJ rfl nN
theorem Yr (Z:Zl l) (b:Bool):Sub l (.primary b) [sg [40],sg [41]] (tr 32 [] 0 .nil) (kg b):=by
 intro i d ns y ys hd hF H hN;refine mu (f:=fun b=>match b with|false=> .dead|true=>_) (eI ?_)
 repeat' (first|(refine rs ⟨?_⟩;try intro _)|fail)
 exact hZ Z (by assumption) rfl om pJ rfl nN
theorem T4:eL false (sg [41]):=ur (.inl (by decide))
theorem Qn (Z:Zl l) (b:Bool) (h:Sub l (.expr false) xs K (eL false)) (hh:∃ x r,xs=x::r/\Me .ex x):Sub l (.primary b) (sg [40]::(xs++[sg [41]])) K (kg b):=by
 intro i d ns y ys hd hF H hN;simp only[ag,al,aq]at H;obtain⟨x,r,e,hx⟩:=hh;have hx:Hx true true a2i x:=hx;have e1:xs++sg [41]::y::ys=x::(r++sg [41]::y::ys):=by rw[e];rfl
 have H2:Has l (i+1) (x::(r++sg [41]::y::ys)):=by rw[<-e1];exact H.2
 refine mu (f:=fun b=>match b with|false=> .dead|true=>_) (eI ?_)
 repeat' (first|(refine rs ⟨?_⟩;try intro _)|(refine dB h (by omega) T4 (by assumption) nN fun _ a1 _=>?_)|fail)
 exact yb nN a1
theorem Ys (Z:Zl l) (b:Bool) (h:Sub l (.expr false) xs K (eL false)):Sub l (.primary b) (wd O2::sg [58,58]::nm [110,101,119]::sg [40]::(xs++[sg [41]])) (tr 44 [] 0 K) (kg b):=by
 intro i d ns y ys hd hF H hN;simp only[ag,al,aq]at H;refine mu (f:=fun b=>match b with|false=> .dead|true=>_) (eI ?_)
 repeat' (first|(refine rs ⟨?_⟩;try intro _)|(refine dB h (by omega) T4 (by assumption) nN fun _ a1 _=>?_)|fail)
 exact hZ Z (by assumption) nN om rfl a1 nN
theorem Uk (Z:Zl l) (b:Bool) (t:S) (h:Lp l .args [41] xs K):Sub l (.primary b) (nm t::sg [40]::(xs++[sg [41]])) (tr 34 t 0 K) (kg b):=by
 intro i d ns y ys hd hF H hN;have hj:=H.drop.1.2;simp only[ag,al,aq]at H;refine wO H hj ?_
 repeat' (first|(refine rs ⟨?_⟩;try intro _)|fail)
 refine Jp h om (by assumption) nN fun p p1 p2 _=>?_;rw[p1]
 repeat' (first|(refine rs ⟨?_⟩;try intro _)|refine fu p2 ?_|fail)
 exact hZ Z (by assumption) nN om rfl rfl nN
theorem Ui (Z:Zl l) (b:Bool) (a c:S):Sub l (.primary b) [nm a,sg [58,58],nm c] (tr 37 (a++[58,58]++c) 0 .nil) (kg b):=by
 intro i d ns y ys hd hF H hN;have hj:=H.drop.1.2;refine wO H hj ?_;have c1:=hF.a1;cases b
 all_goals
  repeat' (first|(refine rs ⟨?_⟩;try intro _)|fail)
  exact hZ Z (by assumption) rfl om pJ rfl nN
theorem Qm (Z:Zl l) (b:Bool) (a c:S) (h:Sub l (.expr false) xs K (eL false)):Sub l (.primary b) (nm a::sg [58,58]::nm c::sg [40]::(xs++[sg [41]])) (tr 37 (a++[58,58]++c) 0 K) (kg b):=by
 intro i d ns y ys hd hF H hN;have hj:=H.drop.1.2;simp only[ag,al,aq]at H;refine wO H hj ?_;cases b
 all_goals
  repeat' (first|(refine rs ⟨?_⟩;try intro _)|(refine dB h (by omega) T4 (by assumption) nN fun _ a1 _=>?_)|fail)
  exact hZ Z (by assumption) nN om rfl a1 nN
theorem Yo (Z:Zl l) (b:Bool) (t:S):Sub l (.primary b) [nm t] (tr 33 t 0 .nil) (kg b):=by
 intro i d ns y ys hd hF H hN;have hj:=H.drop.1.2;refine wO H hj ?_;have c1:=hF.a1;have c2:=hF.a2;cases b
 ·have c3:=hF.a3 rfl
  repeat' (first|(refine rs ⟨?_⟩;try intro _)|fail)
  exact hZ Z (by assumption) rfl om pJ rfl nN
 ·repeat' (first|(refine rs ⟨?_⟩;try intro _)|fail)
  exact hZ Z (by assumption) rfl om pJ rfl nN
theorem Uj (Z:Zl l) (t:S) (h:Lp l .inits [125] xs K):Sub l (.primary false) (nm t::sg [123]::(xs++[sg [125]])) (tr 35 t 0 K) (kg false):=by
 intro i d ns y ys hd hF H hN;have hj:=H.drop.1.2;simp only[ag,al,aq]at H;refine wO H hj ?_
 repeat' (first|(refine rs ⟨?_⟩;try intro _)|fail)
 refine Jp h om (by assumption) nN fun p p1 p2 _=>?_;rw[p1]
 repeat' (first|(refine rs ⟨?_⟩;try intro _)|refine fu p2 ?_|fail)
 exact hZ Z (by assumption) nN om rfl rfl nN
theorem Yw (Z:Zl l) {b:Bool} (t:S) (h:Pp l b xs K):Pp l b (xs++[sg [46],nm t]) (tr 41 t 0 K):=by
 intro i d ns y ys P hd hF H hN k;simp only[ag,al,aq,Fo.sz]at H hN;refine h i d ns (sg [46]) (nm t::y::ys) P hd ⟨rfl,rfl,fun _=>rfl⟩ H om fun a a1 H1=>?_;refine oX (f:=fun b=>_) Z H1 rfl fun H2=>Eh Z H2 rfl fun H3=>?_;have en:(ns++K.lay ns.length).length=ns.length+K.sz:=by rw[ah,Fo.cH]
 refine yc Z om H3.1.2 (by rw[en];omega) (tm ?_);rw[en];have e:i+xs.length+1+1=i+(xs++[sg [46],nm t]).length:=by rw[ah];rfl
 have:=k ((ns.length+K.sz:Nat):Int) rfl (by rw[<-e];exact H3);rw[e,a1];rw[show ns++(tr 41 t 0 K).lay ns.length=ns++K.lay ns.length++[N.D ⟨41,t,0,K.idx ns.length⟩ 0 0] by rw[ag];rfl]at this;exact this
theorem Fi (Z:Zl l) {g:S} {k:Int} (hg:g=[45]/\k=39\/g=[33]/\k=40\/g=[42]/\k=42) (h:Pp l false xs K) (hh:∃ x r,xs=x::r/\Hx true true Ln x):Sub l (.expr false) (sg g::xs) (tr k [] 0 K) (eL false):=by
 refine AH (fun i d ns y ys hd hF H hN=>?_) ⟨_,_,rfl,.inr (.inr ?_)⟩
 ·have op:=vJ h hh;have hF':=ao hF.p hF.a4;refine eI (f:=fun p=> .take [45] _) ?_;rcases hg with⟨rfl,rfl⟩|⟨rfl,rfl⟩|⟨rfl,rfl⟩
  all_goals
   repeat' (first|(refine rs ⟨?_⟩;try intro _)|(refine dB op (by omega) hF' (by assumption) nN fun _ a1 _=>?_)|fail)
   exact hZ Z (by assumption) nN om rfl a1 nN
 ·rcases hg with⟨rfl,rfl⟩|⟨rfl,rfl⟩|⟨rfl,rfl⟩<;>decide
theorem ZH (Z:Zl l) (h:Pp l false xs K) (hh:∃ x r,xs=x::r/\Hx true true Ln x):Sub l (.expr false) (sg [38]::xs) (tr 43 [] 0 K) (eL false):=by
 refine AH (fun i d ns y ys hd hF H hN=>?_) ⟨_,_,rfl,.inr (.inr (by decide))⟩;have op:=vJ h hh;have hF':=ao hF.p hF.a4;obtain⟨x,r,e,hx⟩:=hh;have e1:xs++y::ys=x::(r++y::ys):=by rw[e];rfl
 have H2:Has l (i+1) (x::(r++y::ys)):=by rw[<-e1];exact H.2
 refine eI (f:=fun p=> .take [45] _) ?_
 repeat' (first|(refine rs ⟨?_⟩;try intro _)|(refine dB op (by omega) hF' (by assumption) nN fun _ a1 _=>?_)|fail)
 exact hZ Z (by assumption) nN om rfl a1 nN
theorem VD (Z:Zl l) (h:Pp l false xs K) (hh:∃ x r,xs=x::r/\Hx true true Ln x):Sub l (.expr false) (sg [38]::wd Cc::xs) (tr 43 [] 1 K) (eL false):=by
 refine AH (fun i d ns y ys hd hF H hN=>?_) ⟨_,_,rfl,.inr (.inr (by decide))⟩;have op:=vJ h hh;have hF':=ao hF.p hF.a4;refine eI (f:=fun p=> .take [45] _) ?_
 repeat' (first|(refine rs ⟨?_⟩;try intro _)|(refine dB op (by omega) hF' (by assumption) nN fun _ a1 _=>?_)|fail)
 exact hZ Z (by assumption) nN om rfl a1 nN
end
def Sq (l:List TokQ) (q:K->Q) (xs:List dZ) (W:Fo):Prop:=∀ (ks:K) (i d:Nat) (ns:List D) (y:dZ) (ys:List dZ) (P:R->PS->Prop),d<=100->Has l i (xs++y::ys)->ns.length+W.sz < 1000000->Kk ks ns.length->
 (∀ ks',ks'.l=ks.l++W.idx ns.length->Kk ks' (ns.length+W.sz)->Has l (i+xs.length) (y::ys)->Runs l (prog (q ks')) (mkS (i+xs.length) d (ns++W.lay ns.length)) P)->Runs l (prog (q ks)) (mkS i d ns) P
def Tl (l:List TokQ) (xs:List dZ) (W:Fo):Prop:=∀ (i d:Nat) (ns:List D) (ys:List dZ),d<=100->Has l i (xs++sg [125]::ys)->ns.length+W.sz < 1000000->Runs l (prog .stmt) (mkS i d ns) (Po true xs.length W i d ns)
structure Ar (l:List TokQ) (xs:List dZ) (W:Fo):Prop where
 more:∀ (i d:Nat) (ns:List D) (y:dZ) (ys:List dZ),d<=100->Has l i (xs++sg [44]::y::ys)->ns.length+W.sz < 1000000->Runs l (prog .arm) (mkS i d ns) (Po false (xs.length+1) W i d ns)
 last:∀ (i d:Nat) (ns:List D) (ys:List dZ),d<=100->Has l i (xs++sg [125]::ys)->ns.length+W.sz < 1000000->Runs l (prog .arm) (mkS i d ns) (Po false xs.length W i d ns)
def a3i (l:List TokQ) (xs:List dZ) (W:Fo):Prop:=∀ (ks:K) (i d:Nat) (ns:List D) (ys:List dZ),d<=100->Has l i (xs++sg [125]::ys)->ns.length+W.sz < 1000000->Kk ks ns.length->Runs l (prog (.arms ks)) (mkS i d ns) (PoL ks xs.length W i d ns)
section
variable {l:List TokQ} {i d:Nat} {ns:List D} {x y:dZ} {xs ys:List dZ} {P:R->PS->Prop} {W K V U:Fo} {F:dZ->Prop}
theorem Yg {q:Q} {f:R->Pr} (h:Sub l q xs W F) (hd:d<=100) (hF:F y) (H:Has l i (xs++y::ys)) (hn:ns.length+W.sz < 1000000)
 (k:∀ r,r.b=false->one r.i=W.idx ns.length->Has l (i+xs.length) (y::ys)->Runs l (f r) (mkS (i+xs.length) d (ns++W.lay ns.length)) P):Runs l (.call q f) (mkS i d ns) P:=by
 refine fS (h i d ns y ys hd hF H hn) fun r s' hr=>?_;obtain⟨h0,h1,rfl⟩:=hr;exact⟨yg H.drop.1.2,k r h0 h1 H.drop⟩
theorem X2 {q:Pa.K->Q}:Sq l q [] .nil:=by
 intro ks i d ns y ys P hd H hN hK k;have:=k ks (by simp[Fo.idx]) hK H;simpa [Fo.lay] using this
theorem xJ:∃ z zs,xs++y::ys=z::zs:=by cases xs<;>exact⟨_,_,rfl⟩
theorem EP {ks ks':Pa.K} {a:Int} (a1:one a=K.idx ns.length) (h:ks'.l=(push ks a).l++V.idx (ns++K.lay ns.length).length):ks'.l=ks.l++(K.app V).idx ns.length:=by
 rw[h,ah,Fo.cH,Fo.iQ,<-a1];show(ks.l++[_])++_=_;rw[ag];rfl
theorem a5b (h:Sub l .stmt xs K F) (hF:∀ y,F y) (hh:∃ x r,xs=x::r/\lg x [125]=false) {y2:List dZ} (h2:Sq l .stmts y2 V):Sq l .stmts (xs++y2) (K.app V):=by
 intro ks i d ns y ys P hd H hN hK k;simp only[ag,Fo.eF]at H hN;obtain⟨x,r,e,hx⟩:=hh;have H':Has l i (x::(r++(y2++y::ys))):=by subst e;exact H
 obtain⟨z,zs,ez⟩:=xJ (xs:=y2) (y:=y) (ys:=ys);rw[ez]at H;refine mu (jd H' hx (Yg h hd (hF z) H om fun a a0 a1 H1=>?_));rw[<-ez]at H1;have e1:=mO a1;refine fu (lC hK om) ?_;rw[a0];refine tm (h2 (push ks a.i) _ d _ y ys P hd H1 nN (by rw[ah,Fo.cH];exact j0 hK om) fun ks' k1 k2 k3=>?_);have en:i+xs.length+y2.length=i+(xs++y2).length:=by rw[ah];omega
 rw[yw,en];rw[en]at k3;rw[ah,Fo.cH]at k2;exact k ks' (EP a1 k1) (by rw[Fo.eF];exact k2.up om) k3
theorem a5c (h:Sub l .item xs K F) (hF:∀ y,F y) (hh:∃ x r,xs=x::r/\decide (x.k=5)=false) {y2:List dZ} (h2:Sq l .items y2 V):Sq l .items (xs++y2) (K.app V):=by
 intro ks i d ns y ys P hd H hN hK k;simp only[ag,Fo.eF]at H hN;obtain⟨x,r,e,hx⟩:=hh;have H':Has l i (x::(r++(y2++y::ys))):=by subst e;exact H
 obtain⟨z,zs,ez⟩:=xJ (xs:=y2) (y:=y) (ys:=ys);rw[ez]at H;refine mu (AE H' hx (dB h hd (hF z) H om fun a a1 H1=>?_));rw[<-ez]at H1;have e1:=mO a1;refine fu (lC hK om) ?_;refine tm (h2 (push ks a.i) _ d _ y ys P hd H1 nN (by rw[ah,Fo.cH];exact j0 hK om) fun ks' k1 k2 k3=>?_);have en:i+xs.length+y2.length=i+(xs++y2).length:=by rw[ah];omega
 rw[yw,en];rw[en]at k3;rw[ah,Fo.cH]at k2;exact k ks' (EP a1 k1) (by rw[Fo.eF];exact k2.up om) k3
theorem UW:a3i l [] .nil:=by
 intro ks i d ns ys hd H hN hK;refine mu (jd H rfl (ig ⟨rfl,?_,hK.up (Nat.le_add_right _ _),?_⟩))
 ·simp[Fo.idx]
 ·simp[Fo.lay]
theorem UU (h:Ar l xs K) (hh:∃ x r,xs=x::r/\lg x [125]=false):a3i l xs K:=by
 intro ks i d ns ys hd H hN hK;obtain⟨x,r,e,hx⟩:=hh;have H':Has l i (x::(r++sg [125]::ys)):=by subst e;exact H
 refine mu (jd H' hx (fS (h.last i d ns ys hd H hN) fun a s' ha=>?_));obtain⟨_,a1,rfl⟩:=ha;have H1:=H.drop;refine⟨yg H1.1.2,fu (lC hK om) (tm (mu (jd H1 rfl (ig ⟨rfl,?_,j0 hK (by have:=mO a1;omega),rfl⟩))))⟩;show ks.l++_=_;rw[<-a1];rfl
theorem Re (h:Ar l xs K) (hh:∃ x r,xs=x::r/\lg x [125]=false) {y2:List dZ} (h2:a3i l y2 V):a3i l (xs++sg [44]::y2) (K.app V):=by
 intro ks i d ns ys hd H hN hK;simp only[ag,al,Fo.eF]at H hN;obtain⟨x,r,e,hx⟩:=hh;have H':Has l i (x::(r++sg [44]::(y2++sg [125]::ys))):=by subst e;exact H
 obtain⟨z,zs,ez⟩:=xJ (xs:=y2) (y:=sg [125]) (ys:=ys);have H0:=H;rw[ez]at H;refine mu (jd H' hx (fS (h.more i d ns z zs hd H om) fun a s' ha=>?_));obtain⟨_,a1,rfl⟩:=ha;have e1:=mO a1;have H1:Has l (i+xs.length+1) (y2++sg [125]::ys):=H0.drop.2;have H2:Has l (i+xs.length+1) (z::zs):=H.drop.2;refine⟨yg (by rw[<-eM];exact H2.1.2),fu (lC hK om) (tm ?_)⟩;rw[<-eM];refine(h2 (push ks a.i) _ d (ns++K.lay ns.length) ys hd H1 (by rw[ah,Fo.cH];omega) (by rw[ah,Fo.cH];exact j0 hK om)).mono fun r s' hr=>?_;obtain⟨p0,p1,p2,p3⟩:=hr;refine⟨p0,EP a1 p1,?_,?_⟩
 ·rw[ah,Fo.cH]at p2;rw[Fo.eF];exact p2.up om
 ·rw[p3,yw];rw[show i+xs.length+1+y2.length=i+(xs++sg [44]::y2).length by rw[ah,aw];omega]
theorem Wu (Z:Zl l) {p j n:Nat} {k t v a b} (H:Has l j (y::ys)) (hj:j=i+n) (hp:p<=j) (a1:one a=K.idx ns.length) (b1:one b=V.idx (ns++K.lay ns.length).length) (hN:ns.length+(K.app V).sz < 1000000):
 Runs l (kN (p:Int) k t v (two a b)) (mkS j d (ns++K.lay ns.length++V.lay (ns++K.lay ns.length).length)) (Po false n (tr k t v (K.app V)) i d ns):=hZ Z H hj hp yw (zr a1 b1) hN
theorem Wt (Z:Zl l) {p j n:Nat} {k t v a b c} (H:Has l j (y::ys)) (hj:j=i+n) (hp:p<=j) (a1:one a=K.idx ns.length) (b1:one b=V.idx (ns++K.lay ns.length).length) (c1:one c=U.idx (ns++K.lay ns.length++V.lay (ns++K.lay ns.length).length).length) (hN:ns.length+(K.app (V.app U)).sz < 1000000):
 Runs l (kN (p:Int) k t v [.int .i64 a,.int .i64 b,.int .i64 c]) (mkS j d (ns++K.lay ns.length++V.lay (ns++K.lay ns.length).length++U.lay (ns++K.lay ns.length++V.lay (ns++K.lay ns.length).length).length)) (Po false n (tr k t v (K.app (V.app U))) i d ns):=hZ Z H hj hp YZ (MX a1 b1 c1) hN
theorem Jq (Z:Zl l) {p j n:Nat} {k t v a b} (H:Has l j (sg [59]::ys)) (hj:j+1=i+n) (hp:p<=j) (a1:one a=K.idx ns.length) (b1:one b=V.idx (ns++K.lay ns.length).length) (hN:ns.length+(K.app V).sz < 1000000):
 Runs l (endP (p:Int) ⟨k,t,v,two a b⟩) (mkS j d (ns++K.lay ns.length++V.lay (ns++K.lay ns.length).length)) (Po false n (tr k t v (K.app V)) i d ns):=yP Z H hj hp yw (zr a1 b1) hN
theorem Gg:eL true (sg [123]):=ur (.inr ⟨rfl,rfl⟩)
theorem Ja:eL false (sg [59]):=ur (.inl (by decide))
theorem XZ:eL false (sg [44]):=ur (.inl (by decide))
theorem PD:eL false (sg [125]):=ur (.inl (by decide))
theorem st61:eL false (sg [61]):=ur (.inl (by decide))
theorem oH {xs:List dZ} {W:Fo} (h:Rd .bl xs W):∃ r,xs=sg [123]::r:=by
 obtain⟨x,r,e,h⟩:=dy h rfl;rcases h with h|h|h
 ·cases h.1
 ·cases h.1
 ·have:x=sg [123]:=by simpa using h
  exact⟨r,by rw[e,this]⟩
theorem Fw {xs:List dZ} {W:Fo} (h:Rd .ci xs W):∃ r,xs=wd Ce::r:=by
 obtain⟨x,r,e,h⟩:=dy h rfl;rcases h with h|h|h
 ·cases h.1
 ·cases h.1
 ·have:x=wd Ce:=by simpa using h
  exact⟨r,by rw[e,this]⟩
theorem LU {xs:List dZ} {W:Fo} (h:Rd .ma xs W):∃ r,xs=wd kX::r:=by
 obtain⟨x,r,e,h⟩:=dy h rfl;rcases h with h|h|h
 ·cases h.1
 ·cases h.1
 ·have:x=wd kX:=by simpa using h
  exact⟨r,by rw[e,this]⟩
theorem ZZ (Z:Zl l) {z:List dZ} (hx:Sub l (.expr true) xs K (eL true)) (hy:Sub l .block (sg [123]::z) V fun _=>True):Sub l .cond (wd Ce::(xs++sg [123]::z)) (tr 45 [] 0 (K.app V)) fun y=>lg y sm=false:=by
  intro i d ns y ys hd hF H hN;simp only[ag,al,aq]at H
  repeat' (first|(refine rs ⟨?_⟩;try intro _)|(refine dB hx (by omega) Gg (by assumption) nN fun _ a1 _=>?_)|fail)
  repeat' (first|(refine rs ⟨?_⟩;try intro _)|(refine dB hy (by omega) trivial (by assumption) nN fun _ b1 _=>?_)|fail)
  exact Wu Z (by assumption) nN om a1 b1 nN
theorem ZY (Z:Zl l) {z u:List dZ} (hx:Sub l (.expr true) xs K (eL true)) (hy:Sub l .block (sg [123]::z) V fun _=>True) (hz:Sub l .block (sg [123]::u) U fun _=>True):Sub l .cond (wd Ce::(xs++(sg [123]::z++wd sm::sg [123]::u))) (tr 45 [] 0 (K.app (V.app U))) fun y=>lg y sm=false:=by
  intro i d ns y ys hd hF H hN;simp only[ag,al,aq]at H
  repeat' (first|(refine rs ⟨?_⟩;try intro _)|(refine dB hx (by omega) Gg (by assumption) nN fun _ a1 _=>?_)|fail)
  refine dB hy om trivial (by assumption) nN fun _ b1 _=>?_
  repeat' (first|(refine rs ⟨?_⟩;try intro _)|(refine dB hz (by omega) trivial (by assumption) nN fun _ c1 _=>?_)|fail)
  exact Wt Z (by assumption) nN om a1 b1 c1 nN
theorem ZX (Z:Zl l) {z u:List dZ} (hx:Sub l (.expr true) xs K (eL true)) (hy:Sub l .block (sg [123]::z) V fun _=>True) (hz:Sub l .cond (wd Ce::u) U fun y=>lg y sm=false):Sub l .cond (wd Ce::(xs++(sg [123]::z++wd sm::wd Ce::u))) (tr 45 [] 0 (K.app (V.app U))) fun y=>lg y sm=false:=by
  intro i d ns y ys hd hF H hN;simp only[ag,al,aq]at H
  repeat' (first|(refine rs ⟨?_⟩;try intro _)|(refine dB hx (by omega) Gg (by assumption) nN fun _ a1 _=>?_)|fail)
  refine dB hy om trivial (by assumption) nN fun _ b1 _=>?_
  repeat' (first|(refine rs ⟨?_⟩;try intro _)|fail)
  refine Ei (by assumption) rfl fun hd=>?_
  repeat' (first|(refine rs ⟨?_⟩;try intro _)|(refine dB hz (by omega) hF (by assumption) nN fun _ c1 _=>?_)|fail)
  exact Wt Z (by assumption) nN om a1 b1 c1 nN
theorem UP (Z:Zl l) {z:List dZ} (hx:Sub l (.expr true) xs K (eL true)) (hy:a3i l z V):Sub l .match_ (wd kX::(xs++sg [123]::(z++[sg [125]]))) (tr 46 [] 0 (K.app V)) fun _=>True:=by
  intro i d ns y ys hd hF H hN;simp only[ag,al,aq]at H
  repeat' (first|(refine rs ⟨?_⟩;try intro _)|(refine dB hx (by omega) Gg (by assumption) nN fun _ a1 _=>?_)|fail)
  have e1:=mO a1;have H1:Has l (i+1+xs.length+1) (z++sg [125]::y::ys):=by assumption
  refine fS (hy _ _ d _ _ hd H1 nN ⟨rfl,by rw[ah,Fo.cH];show 1<=_;omega⟩) fun p s' hp=>?_;obtain⟨_,p1,p2,rfl⟩:=hp;have H2:=H1.drop;have en:(ns++K.lay ns.length).length=ns.length+K.sz:=by rw[ah,Fo.cH]
  simp only[Fo.sz,Fo.eF]at hN;refine⟨yg H2.1.2,km Z H2 rfl fun H3=>fu (lC p2 (by rw[en];omega)) ?_⟩;refine hZ Z H3 nN om yw ?_ (by rw[Fo.eF];omega);rw[p1,a1,en,Fo.iQ]
theorem VO (Z:Zl l) (h:Sq l .stmts xs K):Sub l .block (sg [123]::(xs++[sg [125]])) (tr 20 [] 0 K) fun _=>True:=by
  intro i d ns y ys hd hF H hN;simp only[ag,al,aq]at H;refine eI (f:=fun p=> .into 98 _) (Ei H rfl fun hd=>?_);refine km Z H rfl fun H1=>?_;simp only[Fo.sz]at hN;refine fS (B:=PoL Pa.K.o xs.length K (i+1) (d+1) ns) (h Pa.K.o (i+1) (d+1) ns (sg [125]) (y::ys) _ om H1 om NP fun ks' k1 k2 H2=>?_) fun p s' hp=>?_
  ·exact mu (jd H2 rfl (ig ⟨rfl,k1,k2,rfl⟩))
  ·obtain⟨p0,p1,p2,rfl⟩:=hp;have H2:=H1.drop;refine⟨yg H2.1.2,km Z H2 rfl fun H3=>fu (lC p2 om) (Ej om ?_)⟩;rw[p0,p1];exact hZ Z H3 nN om rfl (by simp[Pa.K.o]) om
theorem SW (Z:Zl l) {z:List dZ} (h:Sq l .stmts xs K) (h2:Tl l z V) (hh:∃ x r,z=x::r/\lg x [125]=false):Sub l .block (sg [123]::(xs++(z++[sg [125]]))) (tr 20 [] 1 (K.app V)) fun _=>True:=by
  intro i d ns y ys hd hF H hN;simp only[ag,al,aq]at H;refine eI (f:=fun p=> .into 98 _) (Ei H rfl fun hd=>?_);refine km Z H rfl fun H1=>?_;simp only[Fo.sz,Fo.eF]at hN;obtain⟨x,r,e,hx⟩:=hh;have e1:z++sg [125]::y::ys=x::(r++sg [125]::y::ys):=by rw[e];rfl
  have H1':=H1;rw[e1]at H1';have en:(ns++K.lay ns.length).length=ns.length+K.sz:=by rw[ah,Fo.cH]
  refine fS (B:=fun r s'=>r.v=1/\r.ks.l=(K.app V).idx ns.length/\Kk r.ks (ns.length+(K.app V).sz)/\s'=mkS (i+1+xs.length+z.length) (d+1) (ns++(K.app V).lay ns.length)) (h Pa.K.o (i+1) (d+1) ns x _ _ om H1' om NP fun ks' k1 k2 H2=>?_) fun p s' hp=>?_
  ·have H3:=H2;rw[<-e1]at H3;refine mu (jd H2 hx (fS (h2 _ _ _ _ om H3 (by rw[en];omega)) fun a s' ha=>?_));obtain⟨a0,a1,rfl⟩:=ha;have e2:=mO a1;refine⟨yg H3.drop.1.2,fu (lC k2 om) ?_⟩;rw[a0];refine ig ⟨rfl,?_,?_,?_⟩
   ·show ks'.l++_=_;rw[k1,Fo.iQ,<-en,<-a1];simp[Pa.K.o,one]
   ·rw[Fo.eF];exact j0 k2 om
   ·rw[yw]
  ·obtain⟨p0,p1,p2,rfl⟩:=hp;rw[Fo.eF]at p2;have H2:=H1.drop.drop;refine⟨yg H2.1.2,km Z H2 rfl fun H3=>fu (lC p2 om) (Ej om ?_)⟩;rw[p0,p1];exact hZ Z H3 nN om rfl rfl (by rw[Fo.eF];omega)
theorem a9i {z:List dZ} (h:Sub l .cond (wd Ce::z) W F):Sub l .branch (wd Ce::z) W F:=by
 intro i d ns y ys hd hF H hN;refine jd (b:=true) H rfl (jk (h i d ns y ys hd hF H hN) H.drop.1.2)
theorem a9h {z:List dZ} (h:Sub l .match_ (wd kX::z) W F):Sub l .branch (wd kX::z) W F:=by
 intro i d ns y ys hd hF H hN;refine jd (b:=false) H rfl (jd (b:=true) H rfl (jk (h i d ns y ys hd hF H hN) H.drop.1.2))
theorem a9j {z:List dZ} (h:Sub l .block (sg [123]::z) W F):Sub l .branch (sg [123]::z) W F:=by
 intro i d ns y ys hd hF H hN;refine jd (b:=false) H rfl (jd (b:=false) H rfl (jk (h i d ns y ys hd hF H hN) H.drop.1.2))
def Xd (x:dZ):Prop:=x=wd Ce\/x=wd kX\/x=sg [123]
theorem Mw {n:Nat} (hx:Xd x) (H:Has l i (x::xs)) {B:R->PS->Prop} (ok:∀ r s',B r s'->fb l s'=true) (h:Runs l (prog (.blocky (i:Int))) (mkS i d ns) B):Runs l (prog .stmt) (mkS i d ns) B:=by
 refine eI (f:=fun p=> .is [108,101,116] _) ?_;have fin:Runs l (.call (.blocky (i:Int)) .ret) (mkS i d ns) B:=fS h fun r s' hr=>⟨ok r s' hr,ig hr⟩;rcases hx with rfl|rfl|rfl
 all_goals
  repeat' (first|(refine rs ⟨?_⟩;try intro _)|fail)
  exact fin
theorem SO (Z:Zl l) (hh:∃ x r,xs=x::r/\Xd x) (h:Sub l .branch xs K F) (hF:F (sg [59])):Sub l .stmt (xs++[sg [59]]) (tr 22 [] 0 K) fun _=>True:=by
  intro i d ns y ys hd _ H hN;have hj:=H.drop.1.2;simp only[ag,al,aq]at H;obtain⟨x,r,e,hx⟩:=hh;have H':Has l i (x::(r++sg [59]::y::ys)):=by subst e;exact H
  simp only[Fo.sz]at hN;have en:(ns++K.lay ns.length).length=ns.length+K.sz:=by rw[ah,Fo.cH]
  refine Mw (n:=0) hx H' (B:=Po false (xs++[sg [59]]).length (tr 22 [] 0 K) i d ns) (fun r s' hr=>by obtain⟨_,_,rfl⟩:=hr;exact yg hj) ?_;refine dB h hd hF H om fun a a1 H1=>?_;refine jd (b:=false) H1 rfl (yc Z om H1.1.2 (by rw[en];omega) (oX Z H1 rfl fun _=>?_));refine ig ⟨rfl,?_,?_⟩
  ·rw[en];rfl
  ·rw[show i+xs.length+1=i+(xs++[sg [59]]).length by rw[ah];rfl,a1,ag];rfl
theorem FB (hh:∃ x r,xs=x::r/\Xd x) (h:Sub l .branch xs K F) (hF:F (sg [125])):Tl l xs K:=by
 intro i d ns ys hd H hN;have hj:=H.drop.1.2;obtain⟨x,r,e,hx⟩:=hh;have H':Has l i (x::(r++sg [125]::ys)):=by subst e;exact H
 refine Mw (n:=0) hx H' (B:=Po true xs.length K i d ns) (fun r s' hr=>by obtain⟨_,_,rfl⟩:=hr;exact yg hj) ?_;refine dB h hd hF H om fun a a1 H1=>?_;exact jd (b:=true) H1 rfl (ig ⟨rfl,a1,rfl⟩)
theorem Ea (hx:Hx true true Tu x) (H:Has l i (x::xs)) (h:Runs l (.call (.expr false) fun x=> .take [61] fun b=>match b with
    |true=> .call (.expr false) fun y=>endP (i:Int) ⟨23,[],0,two x.i y.i⟩
    |false=> .is [125] fun b=>match b with
    |true=> .ret ⟨x.i,true,Pa.K.o,0⟩
    |false=>endP (i:Int) ⟨22,[],0,one x.i⟩) (mkS i d ns) P):Runs l (prog .stmt) (mkS i d ns) P:=by
  refine eI (f:=fun p=> .is [108,101,116] _) ?_
  repeat' (first|(refine rs ⟨?_⟩;try intro _)|fail)
  exact h
theorem a4z (Z:Zl l) (hh:∃ x r,xs=x::r/\Hx true true Tu x) (h:Sub l (.expr false) xs K (eL false)):Sub l .stmt (xs++[sg [59]]) (tr 22 [] 0 K) fun _=>True:=by
  intro i d ns y ys hd _ H hN;simp only[ag,al,aq]at H;obtain⟨x,r,e,hx⟩:=hh;have H':Has l i (x::(r++sg [59]::y::ys)):=by subst e;exact H
  refine Ea hx H' ?_
  repeat' (first|(refine rs ⟨?_⟩;try intro _)|(refine dB h (by omega) Ja (by assumption) nN fun _ a1 _=>?_)|fail)
  exact yP Z (by assumption) nN om rfl a1 nN
theorem TV (hh:∃ x r,xs=x::r/\Hx true true Tu x) (h:Sub l (.expr false) xs K (eL false)):Tl l xs K:=by
 intro i d ns ys hd H hN;obtain⟨x,r,e,hx⟩:=hh;have H':Has l i (x::(r++sg [125]::ys)):=by subst e;exact H
 refine Ea hx H' ?_;refine dB h hd PD H hN fun a a1 H1=>?_;exact eQ H1 rfl (jd (b:=true) H1 rfl (ig ⟨rfl,a1,rfl⟩))
theorem XW (Z:Zl l) {z:List dZ} (hh:∃ x r,xs=x::r/\Hx true true Tu x) (h:Sub l (.expr false) xs K (eL false)) (h2:Sub l (.expr false) z V (eL false)):Sub l .stmt (xs++sg [61]::(z++[sg [59]])) (tr 23 [] 0 (K.app V)) fun _=>True:=by
  intro i d ns y ys hd _ H hN;simp only[ag,al,aq]at H;obtain⟨x,r,e,hx⟩:=hh;have H':Has l i (x::(r++sg [61]::(z++sg [59]::y::ys))):=by subst e;exact H
  refine Ea hx H' ?_;refine dB h hd st61 H nN fun a a1 H1=>?_
  repeat' (first|(refine rs ⟨?_⟩;try intro _)|(refine dB h2 (by omega) Ja (by assumption) nN fun _ b1 _=>?_)|fail)
  exact Jq Z (by assumption) nN om a1 b1 nN
end
section
variable {l:List TokQ} {i d:Nat} {ns:List D} {x y:dZ} {xs ys:List dZ} {P:R->PS->Prop} {W K V U:Fo} {F:dZ->Prop}
theorem L1 {a b:Int} (a1:one a=V.idx (ns++K.lay ns.length).length) (b1:one b=U.idx (ns++K.lay ns.length++V.lay (ns++K.lay ns.length).length).length):K.idx ns.length++[D.int .i64 a]++[D.int .i64 b]=(K.app (V.app U)).idx ns.length:=by
 rw[ah,Fo.cH]at a1;rw[ah,Fo.cH,ah,Fo.cH]at b1;rw[Fo.iQ,Fo.iQ,<-a1,<-b1,ag];rfl
theorem D9 {n:Nat} (H:Has l i (wd Cd::xs)) (hj:i+n < l.length) (h:Runs l (prog (.let_ (i:Int))) (mkS i d ns) (Po false n W i d ns)):Runs l (prog .stmt) (mkS i d ns) (Po false n W i d ns):=by
 refine eI (f:=fun p=> .is [108,101,116] _) (jd (b:=true) H rfl (fS h fun r s' hr=>?_));obtain⟨_,h1,rfl⟩:=hr;exact⟨yg hj,yb rfl h1⟩
theorem T2 (Z:Zl l) (t:S) (h:Sub l (.expr false) xs K (eL false)):Sub l .stmt (wd Cd::nm t::sg [61]::(xs++[sg [59]])) (tr 21 t 0 K) fun _=>True:=by
  intro i d ns y ys hd _ H hN;have hj:=H.drop.1.2;simp only[ag,al,aq]at H;refine D9 H hj ?_
  repeat' (first|(refine rs ⟨?_⟩;try intro _)|(refine dB h (by omega) Ja (by assumption) nN fun _ a1 _=>?_)|fail)
  exact yP Z (by assumption) nN om rfl a1 nN
theorem PC (Z:Zl l) (t:S) (h:Sub l (.expr false) xs K (eL false)):Sub l .stmt (wd Cd::wd Cc::nm t::sg [61]::(xs++[sg [59]])) (tr 21 t 1 K) fun _=>True:=by
  intro i d ns y ys hd _ H hN;have hj:=H.drop.1.2;simp only[ag,al,aq]at H;refine D9 H hj ?_
  repeat' (first|(refine rs ⟨?_⟩;try intro _)|(refine dB h (by omega) Ja (by assumption) nN fun _ a1 _=>?_)|fail)
  exact yP Z (by assumption) nN om rfl a1 nN
theorem TZ (Z:Zl l) (t:S) {z:List dZ} (h1:Sub l .typ xs K fun _=>True) (h:Sub l (.expr false) z V (eL false)):Sub l .stmt (wd Cd::nm t::sg [58]::(xs++sg [61]::(z++[sg [59]]))) (tr 21 t 0 (K.app V)) fun _=>True:=by
  intro i d ns y ys hd _ H hN;have hj:=H.drop.1.2;simp only[ag,al,aq]at H;refine D9 H hj ?_
  repeat' (first|(refine rs ⟨?_⟩;try intro _)|(refine dB h1 (by omega) trivial (by assumption) nN fun _ a1 _=>?_)|fail)
  repeat' (first|(refine rs ⟨?_⟩;try intro _)|(refine dB h (by omega) Ja (by assumption) nN fun _ b1 _=>?_)|fail)
  exact Jq Z (by assumption) nN om a1 b1 nN
theorem PB (Z:Zl l) (t:S) {z:List dZ} (h1:Sub l .typ xs K fun _=>True) (h:Sub l (.expr false) z V (eL false)):Sub l .stmt (wd Cd::wd Cc::nm t::sg [58]::(xs++sg [61]::(z++[sg [59]]))) (tr 21 t 1 (K.app V)) fun _=>True:=by
  intro i d ns y ys hd _ H hN;have hj:=H.drop.1.2;simp only[ag,al,aq]at H;refine D9 H hj ?_
  repeat' (first|(refine rs ⟨?_⟩;try intro _)|(refine dB h1 (by omega) trivial (by assumption) nN fun _ a1 _=>?_)|fail)
  repeat' (first|(refine rs ⟨?_⟩;try intro _)|(refine dB h (by omega) Ja (by assumption) nN fun _ b1 _=>?_)|fail)
  exact Jq Z (by assumption) nN om a1 b1 nN
theorem XV (Z:Zl l) {z:List dZ} (h:Sub l (.expr true) xs K (eL true)) (h2:Sub l .block (sg [123]::z) V fun _=>True):Sub l .stmt (wd IX::(xs++sg [123]::z)) (tr 24 [] 0 (K.app V)) fun _=>True:=by
  intro i d ns y ys hd _ H hN;simp only[ag,al,aq]at H;refine eI (f:=fun p=> .is [108,101,116] _) ?_
  repeat' (first|(refine rs ⟨?_⟩;try intro _)|(refine dB h (by omega) Gg (by assumption) nN fun _ a1 _=>?_)|fail)
  repeat' (first|(refine rs ⟨?_⟩;try intro _)|(refine dB h2 (by omega) trivial (by assumption) nN fun _ b1 _=>?_)|fail)
  exact Wu Z (by assumption) nN om a1 b1 nN
theorem TX (Z:Zl l):Sub l .stmt [wd wz,sg [59]] (tr 25 [] 0 .nil) fun _=>True:=by
  intro i d ns y ys hd _ H hN;refine eI (f:=fun p=> .is [108,101,116] _) ?_
  repeat' (first|(refine rs ⟨?_⟩;try intro _)|fail)
  exact yP Z (by assumption) rfl om pJ rfl nN
theorem TW (Z:Zl l) (h:Sub l (.expr false) xs K (eL false)) (hh:∃ x r,xs=x::r/\lg x [59]=false):Sub l .stmt (wd wz::(xs++[sg [59]])) (tr 25 [] 0 K) fun _=>True:=by
  intro i d ns y ys hd _ H hN;simp only[ag,al,aq]at H;obtain⟨x,r,e,hx⟩:=hh;have e1:xs++sg [59]::y::ys=x::(r++sg [59]::y::ys):=by rw[e];rfl
  have H2:Has l (i+1) (x::(r++sg [59]::y::ys)):=by rw[<-e1];exact H.2
  refine eI (f:=fun p=> .is [108,101,116] _) ?_
  repeat' (first|(refine rs ⟨?_⟩;try intro _)|(refine dB h (by omega) Ja (by assumption) nN fun _ a1 _=>?_)|fail)
  exact yP Z (by assumption) nN om rfl a1 nN
theorem XY (Z:Zl l):Sub l .stmt [wd IY,sg [59]] (tr 26 [] 0 .nil) fun _=>True:=by
  intro i d ns y ys hd _ H hN;refine eI (f:=fun p=> .is [108,101,116] _) ?_
  repeat' (first|(refine rs ⟨?_⟩;try intro _)|fail)
  exact yP Z (by assumption) rfl om pJ rfl nN
theorem XX (Z:Zl l):Sub l .stmt [wd O1,sg [59]] (tr 27 [] 0 .nil) fun _=>True:=by
  intro i d ns y ys hd _ H hN;refine eI (f:=fun p=> .is [108,101,116] _) ?_
  repeat' (first|(refine rs ⟨?_⟩;try intro _)|fail)
  exact yP Z (by assumption) rfl om pJ rfl nN
theorem UK (Z:Zl l) (t:S) (h:Sub l (.expr false) xs K (eL false)):Sub l .init (nm t::sg [58]::xs) (tr 36 t 0 K) (eL false):=by
 intro i d ns y ys hd hF H hN;simp only[ag,al,aq]at H;refine eI (f:=fun p=> .name _) ?_
 repeat' (first|(refine rs ⟨?_⟩;try intro _)|(refine dB h (by omega) hF (by assumption) nN fun _ a1 _=>?_)|fail)
 exact hZ Z (by assumption) nN om rfl a1 nN
theorem Vy (Z:Zl l) (t:S) (h:Sub l .typ xs K fun _=>True):Sub l .field (nm t::sg [58]::xs) (tr 5 t 0 K) fun _=>True:=by
  intro i d ns y ys hd hF H hN;simp only[ag,al,aq]at H;refine eI (f:=fun p=> .name _) ?_
  repeat' (first|(refine rs ⟨?_⟩;try intro _)|(refine dB h (by omega) trivial (by assumption) nN fun _ a1 _=>?_)|fail)
  exact hZ Z (by assumption) nN om rfl a1 nN
theorem Um (Z:Zl l) (t:S) (h:Sub l .typ xs K fun _=>True):Sub l .param (nm t::sg [58]::xs) (tr 7 t 0 K) fun _=>True:=by
  intro i d ns y ys hd hF H hN;simp only[ag,al,aq]at H;refine eI (f:=fun p=> .take _ _) ?_
  repeat' (first|(refine rs ⟨?_⟩;try intro _)|(refine dB h (by omega) trivial (by assumption) nN fun _ a1 _=>?_)|fail)
  exact hZ Z (by assumption) nN om rfl a1 nN
theorem Qq (Z:Zl l) (t:S) (h:Sub l .typ xs K fun _=>True):Sub l .param (wd Cc::nm t::sg [58]::xs) (tr 7 t 1 K) fun _=>True:=by
  intro i d ns y ys hd hF H hN;simp only[ag,al,aq]at H;refine eI (f:=fun p=> .take _ _) ?_
  repeat' (first|(refine rs ⟨?_⟩;try intro _)|(refine dB h (by omega) trivial (by assumption) nN fun _ a1 _=>?_)|fail)
  exact hZ Z (by assumption) nN om rfl a1 nN
theorem O4 (Z:Zl l) (t:S):Sub l .variant [nm t] (tr 6 t 0 .nil) fun y=>lg y [40]=false:=by
  intro i d ns y ys hd hF H hN;refine eI (f:=fun p=> .name _) ?_
  repeat' (first|(refine rs ⟨?_⟩;try intro _)|fail)
  exact hZ Z (by assumption) rfl om pJ rfl nN
theorem O3 (Z:Zl l) (t:S) (h:Sub l .typ xs K fun _=>True):Sub l .variant (nm t::sg [40]::(xs++[sg [41]])) (tr 6 t 0 K) fun y=>lg y [40]=false:=by
  intro i d ns y ys hd hF H hN;simp only[ag,al,aq]at H;refine eI (f:=fun p=> .name _) ?_
  repeat' (first|(refine rs ⟨?_⟩;try intro _)|(refine dB h (by omega) trivial (by assumption) nN fun _ a1 _=>?_)|fail)
  exact hZ Z (by assumption) nN om rfl a1 nN
theorem zK (Z:Zl l) {p j:Nat} {a b:Int} {f:Int->Pr} (H:Has l j (y::ys)) (hp:p<=j) (a1:one a=K.idx ns.length) (b1:one b=V.idx (ns++K.lay ns.length).length) (hN:ns.length+(K.app V).sz < 1000000)
 (k:∀ c,one c=(tr 47 [] 0 (K.app V)).idx ns.length->Runs l (f c) (mkS j d (ns++(tr 47 [] 0 (K.app V)).lay ns.length)) P):Runs l (.node (p:Int) ⟨47,[],0,two a b⟩ f) (mkS j d (ns++K.lay ns.length++V.lay (ns++K.lay ns.length).length)) P:=by
 rw[yw,zr a1 b1];have en:(ns++(K.app V).lay ns.length).length=ns.length+(K.app V).sz:=by rw[ah,Fo.cH]
 refine yc Z hp H.1.2 (by rw[en];exact hN) ?_;rw[en,ag];exact k _ rfl
theorem a0j (Z:Zl l) {z:List dZ} (h:Sub l .pattern xs K MF) (h2:Sub l .block (sg [123]::z) V fun _=>True):Ar l (xs++sg [61,62]::sg [123]::z) (tr 47 [] 0 (K.app V)):=by
  constructor
  ·intro i d ns y ys hd H hN;simp only[ag,al,aq]at H;simp only[Fo.sz]at hN;refine eI (f:=fun p=> .call .pattern _) ?_
   repeat' (first|(refine rs ⟨?_⟩;try intro _)|(refine dB h (by omega) ⟨rfl,rfl⟩ (by assumption) nN fun _ a1 _=>?_)|fail)
   refine dB h2 hd trivial (by assumption) nN fun b b1 H2=>?_;refine zK Z H2 om a1 b1 nN fun c c1=>?_;refine oX Z H2 rfl fun _=>?_;exact yb nN c1
  ·intro i d ns ys hd H hN;simp only[ag,al,aq]at H;simp only[Fo.sz]at hN;refine eI (f:=fun p=> .call .pattern _) ?_
   repeat' (first|(refine rs ⟨?_⟩;try intro _)|(refine dB h (by omega) ⟨rfl,rfl⟩ (by assumption) nN fun _ a1 _=>?_)|fail)
   refine dB h2 hd trivial (by assumption) nN fun b b1 H2=>?_;refine zK Z H2 om a1 b1 nN fun c c1=>?_;refine eQ H2 rfl ?_;exact yb nN c1
theorem FM (Z:Zl l) {z:List dZ} (h:Sub l .pattern xs K MF) (h2:Sub l (.expr false) z V (eL false)) (hh:∃ x r,z=x::r/\lg x [123]=false):Ar l (xs++sg [61,62]::z) (tr 47 [] 0 (K.app V)):=by
 obtain⟨x,r,e,hx⟩:=hh;constructor
 ·intro i d ns y ys hd H hN;simp only[ag,al,aq]at H;simp only[Fo.sz]at hN;refine eI (f:=fun p=> .call .pattern _) ?_;refine dB h hd ⟨rfl,rfl⟩ H nN fun a a1 H1=>km Z H1 rfl fun H2=>?_;have H2':Has l (i+xs.length+1) (x::(r++sg [44]::y::ys)):=by subst e;exact H2
  refine jd (b:=false) H2' hx ?_;refine dB h2 hd XZ H2 nN fun b b1 H3=>?_;refine zK Z H3 om a1 b1 nN fun c c1=>?_;refine jd (b:=false) H3 rfl (km Z H3 rfl fun _=>?_);exact yb nN c1
 ·intro i d ns ys hd H hN;simp only[ag,al,aq]at H;simp only[Fo.sz]at hN;refine eI (f:=fun p=> .call .pattern _) ?_;refine dB h hd ⟨rfl,rfl⟩ H nN fun a a1 H1=>km Z H1 rfl fun H2=>?_;have H2':Has l (i+xs.length+1) (x::(r++sg [125]::ys)):=by subst e;exact H2
  refine jd (b:=false) H2' hx ?_;refine dB h2 hd PD H2 nN fun b b1 H3=>?_;refine zK Z H3 om a1 b1 nN fun c c1=>?_;refine jd (b:=true) H3 rfl ?_;exact yb nN c1
theorem WK {n:Nat} (H:Has l i (wd Xo::xs)) (hj:i+n < l.length) (h:Runs l (prog .function) (mkS i d ns) (Po false n W i d ns)):Runs l (prog .item) (mkS i d ns) (Po false n W i d ns):=by
 refine jd (b:=false) H rfl (jd (b:=false) H rfl (jk h hj))
theorem Zc (Z:Zl l) (t:S) {z u:List dZ} (h1:a0t l xs K) (h2:Sub l .typ z V fun _=>True) (h3:Sub l .block u U fun _=>True):Sub l .item (wd Xo::nm t::sg [40]::(xs++sg [41]::sg [45,62]::(z++u))) (tr 2 t (K.idx 0).length (K.app (V.app U))) fun _=>True:=by
  intro i d ns y ys hd hF H hN;have hj:=H.drop.1.2;simp only[ag,al,aq]at H;simp only[Fo.sz,Fo.eF]at hN;refine WK H hj ?_;refine eI (f:=fun p=> .need _ _) ?_;refine km Z H rfl fun H1=>Eh Z H1 rfl fun H2=>km Z H2 rfl fun H3=>?_;refine fS (h1 Pa.K.o _ d ns _ hd H3 om NP) fun p s' hp=>?_;obtain⟨p0,p1,p2,rfl⟩:=hp;have p1:p.ks.l=K.idx ns.length:=by rw[p1];simp[Pa.K.o]
  have H4:=H3.drop;refine⟨yg H4.1.2,km Z H4 rfl fun H5=>oX Z H5 rfl fun H6=>?_⟩;obtain⟨a,b7,ea⟩:=xJ (xs:=u) (y:=y) (ys:=ys);have H6':=H6;rw[ea]at H6';refine dB h2 hd trivial H6' nN fun v v1 H7=>fu (lC p2 om) ?_;rw[<-ea]at H7;have e1:=mO v1;have kp:Kk (push p.ks v.i) (ns.length+K.sz+V.sz):=j0 p2 om;refine dB h3 hd trivial H7 nN fun q q1 H8=>fu (lC kp om) ?_;have e2:=mO q1;have kq:Kk (push (push p.ks v.i) q.i) (ns.length+K.sz+V.sz+U.sz):=j0 kp om;refine fu (lC kq om) ?_;rw[p0,p1,Fo.Hh K ns.length 0];refine hZ Z H8 nN om YZ ?_ nN;rw[show(push (push p.ks v.i) q.i).l=p.ks.l++[D.int .i64 v.i]++[D.int .i64 q.i] from rfl,p1];exact L1 v1 q1
theorem Zd (Z:Zl l) (t:S) {u:List dZ} (h1:a0t l xs K) (h3:Sub l .block (sg [123]::u) U fun _=>True):Sub l .item (wd Xo::nm t::sg [40]::(xs++sg [41]::sg [123]::u)) (tr 2 t (K.idx 0).length (K.app (.cons 12 [] 0 0 0 .nil U))) fun _=>True:=by
  intro i d ns y ys hd hF H hN;have hj:=H.drop.1.2;simp only[ag,al,aq]at H;simp only[Fo.sz,Fo.eF]at hN;refine WK H hj ?_;refine eI (f:=fun p=> .need _ _) ?_;refine km Z H rfl fun H1=>Eh Z H1 rfl fun H2=>km Z H2 rfl fun H3=>?_;refine fS (h1 Pa.K.o _ d ns _ hd H3 om NP) fun p s' hp=>?_;obtain⟨p0,p1,p2,rfl⟩:=hp;have p1:p.ks.l=K.idx ns.length:=by rw[p1];simp[Pa.K.o]
  have H4:=H3.drop;have en:(ns++K.lay ns.length).length=ns.length+K.sz:=by rw[ah,Fo.cH]
  refine⟨yg H4.1.2,km Z H4 rfl fun H5=>eQ H5 rfl (mu (Ye Z om H5.1.2 (by rw[en];omega) ?_))⟩;have kp:Kk (push p.ks ((ns++K.lay ns.length).length:Nat)) (ns.length+K.sz+1):=j0 p2 om;refine fu (lC p2 om) (dB h3 hd trivial H5 nN fun q q1 H8=>fu (lC kp om) ?_);have e2:=mO q1;have kq:Kk (push (push p.ks ((ns++K.lay ns.length).length:Nat)) q.i) (ns.length+K.sz+1+U.sz):=j0 kp om;refine fu (lC kq om) ?_;rw[p0,p1,Fo.Hh K ns.length 0];refine hZ (K:=K.app ((Fo.cons 12 [] 0 0 0 .nil .nil).app U)) Z H8 nN om (YZ (V:=Fo.cons 12 [] 0 0 0 .nil .nil)) ?_ (by simp only[Fo.eF,Fo.sz];omega);rw[show(push (push p.ks ((ns++K.lay ns.length).length:Nat)) q.i).l=p.ks.l++[D.int .i64 ((ns++K.lay ns.length).length:Nat)]++[D.int .i64 q.i] from rfl,p1];exact L1 (V:=Fo.cons 12 [] 0 0 0 .nil .nil) rfl q1
theorem He (Z:Zl l) (k:Int) {q:Q} {n:Nat} (hk:∀ ks,prog (.fields k ks)=rowP [125] q ks (.fields k)) (t:S) (h:Lp l (.fields k) [125] xs K) (H:Has l i (x::nm t::sg [123]::(xs++sg [125]::y::ys))) (hd:d<=100) (hN:ns.length+K.sz+1 < 1000000) (hn:n=xs.length+4):Runs l (prog (.parts k)) (mkS i d ns) (Po false n (tr k t 0 K) i d ns):=by
 refine eI (f:=fun p=> .dI _) (Gv Z H fun H1=>?_)
 repeat' (first|(refine rs ⟨?_⟩;try intro _)|fail)
 refine Jp (q:= .fields k) h om (by assumption) om fun p p1 p2 _=>?_;rw[p1]
 repeat' (first|(refine rs ⟨?_⟩;try intro _)|refine fu p2 ?_|fail)
 exact hZ Z (by assumption) nN om rfl rfl nN
theorem NT (Z:Zl l) (t:S) (h:Lp l (.fields 3) [125] xs K):Sub l .item (wd wy::nm t::sg [123]::(xs++[sg [125]])) (tr 3 t 0 K) fun _=>True:=by
  intro i d ns y ys hd hF H hN;have hj:=H.drop.1.2;simp only[ag,al,aq]at H;simp only[Fo.sz]at hN;refine jd (b:=true) H rfl (jk ?_ hj);exact He Z 3 (q:= .field) (fun _=>rfl) t h H hd om (by simp)
theorem Vb (Z:Zl l) (t:S) (h:Lp l (.fields 4) [125] xs K):Sub l .item (wd F1::nm t::sg [123]::(xs++[sg [125]])) (tr 4 t 0 K) fun _=>True:=by
  intro i d ns y ys hd hF H hN;have hj:=H.drop.1.2;simp only[ag,al,aq]at H;simp only[Fo.sz]at hN;refine jd (b:=false) H rfl (jd (b:=true) H rfl (jk ?_ hj));exact He Z 4 (q:= .variant) (fun _=>rfl) t h H hd om (by simp)
end
def Gd (l:List TokQ):Cl->List dZ->Fo->Prop
 | .ty,x,W=>Sub l .typ x W fun _=>True
 | .pa,x,W=>Sub l .pattern x W MF
 | .pr,x,W=> ∀ b,Sub l (.primary b) x W (kg b)
 | .po,x,W=> ∀ b,Pp l b x W
 | .e0,x,W=>Sub l (.expr false) x W (eL false)
 | .ci,x,W=>Sub l .cond x W fun y=>lg y sm=false
 | .ma,x,W=>Sub l .match_ x W fun _=>True
 | .bl,x,W=>Sub l .block x W fun _=>True
 | .ex,x,W=>Sub l (.expr false) x W (eL false)/\Tl l x W
 | .st,x,W=>Sub l .stmt x W fun _=>True
 | .ni,x,W=>Sub l .init x W (eL false)
 | .ar,x,W=>Ar l x W
 | .fd,x,W=>Sub l .field x W fun _=>True
 | .pm,x,W=>Sub l .param x W fun _=>True
 | .va,x,W=>Sub l .variant x W fun y=>lg y [40]=false
 | .it,x,W=>Sub l .item x W fun _=>True
 | .ls .ex,x,W=>Lp l .args [41] x W
 | .ls .ni,x,W=>Lp l .inits [125] x W
 | .ls .fd,x,W=>Lp l (.fields 3) [125] x W
 | .ls .va,x,W=>Lp l (.fields 4) [125] x W
 | .ls .pm,x,W=>a0t l x W
 | .ls .ar,x,W=>a3i l x W
 | .ls _,_,_=>True
 | .sq .st,x,W=>Sq l .stmts x W
 | .sq .it,x,W=>Sq l .items x W
 | .sq _,_,_=>True
section
variable {l:List TokQ} {xs:List dZ} {K:Fo}
theorem mC {c:Cl} {t:S} (h:Rd c xs K) (hc:WM c=true) (hno:∀ x,Me c x->lg x t=false):∃ x r,xs=x::r/\lg x t=false:=by
 obtain⟨x,r,e,hx⟩:=dy h hc;exact⟨x,r,e,hno x hx⟩
theorem Jv (h:∀ b,Sub l (.primary b) xs K (kg b)) (r:Rd .pr xs K) (b:Bool):Sub l (.expr b) xs K (eL b):=Et (vp (h b)) (dy r rfl)
theorem a8y (r:Rd .pr xs K):∃ x r,xs=x::r/\Hx true true Tu x:=by
 obtain⟨x,r,e,hx⟩:=dy r rfl;exact⟨x,r,e,Hx.sub hx (fun _=>rfl) (fun _=>rfl) (by decide)⟩
theorem FA (r:Rd .ci xs K):∃ x r,xs=x::r/\Xd x:=by obtain⟨q,rfl⟩:=Fw r;exact⟨_,_,rfl,.inl rfl⟩
theorem Fz (r:Rd .ma xs K):∃ x r,xs=x::r/\Xd x:=by obtain⟨q,rfl⟩:=LU r;exact⟨_,_,rfl,.inr (.inl rfl)⟩
theorem KA (r:Rd .bl xs K):∃ x r,xs=x::r/\Xd x:=by obtain⟨q,rfl⟩:=oH r;exact⟨_,_,rfl,.inr (.inr rfl)⟩
theorem Z3 {x:dZ} (h:Xd x):Hx false false [wd Ce,wd kX,sg [123]] x:=by
 rcases h with rfl|rfl|rfl<;>exact .inr (.inr (by decide))
theorem SN {F:dZ->Prop} (h:Sub l .branch xs K F) (hh:∃ x r,xs=x::r/\Xd x) (hF:∀ y,eL false y->F y):Sub l (.expr false) xs K (eL false):=by
 obtain⟨x,r,e,hx⟩:=hh;have:=VL h ⟨x,r,e,Z3 hx⟩;intro i d ns y ys hd hy H hN;exact this i d ns y ys hd ⟨hF y hy,hy⟩ H hN
theorem Ms (r:Rd .ci xs K) (h:Sub l .cond xs K fun y=>lg y sm=false):Sub l .branch xs K fun y=>lg y sm=false:=by obtain⟨q,rfl⟩:=Fw r;exact a9i h
theorem LW (r:Rd .ma xs K) (h:Sub l .match_ xs K fun _=>True):Sub l .branch xs K fun _=>True:=by obtain⟨q,rfl⟩:=LU r;exact a9h h
theorem SX (r:Rd .bl xs K) (h:Sub l .block xs K fun _=>True):Sub l .branch xs K fun _=>True:=by obtain⟨q,rfl⟩:=oH r;exact a9j h
theorem a7b {x:dZ} (h:Hx true true a2i x):lg x [125]=false:=h.no (by decide)
theorem Ue (Z:Zl l) {c:Cl} {W:Fo} (h:Rd c xs W):Gd l c xs W:=by
 induction h
 case tInt=>exact qY Z .tInt rfl
 case tBool=>exact qY Z .tBool rfl
 case tUnit=>exact qY Z .tUnit rfl
 case tName t=>exact qY Z (.tName t) rfl
 case tRef r _=>exact qY Z (.tRef r) rfl
 case tMut r _=>exact qY Z (.tMut r) rfl
 case tBox r _=>exact qY Z (.tBox r) rfl
 case pAny=>exact pV Z .pAny rfl
 case pTrue=>exact pV Z .pTrue rfl
 case pFalse=>exact pV Z .pFalse rfl
 case pNum v=>exact pV Z (.pNum v) rfl
 case pNeg v=>exact pV Z (.pNeg v) rfl
 case pVar t=>exact pV Z (.pVar t) rfl
 case pPick a b=>exact pV Z (.pPick a b) rfl
 case pPick1 a b _ _ r _=>exact pV Z (.pPick1 a b r) rfl
 case num v=>exact Yq Z v
 case tru=>exact Yp Z
 case fal=>exact Yt Z
 case nil_=>exact Yr Z
 case paren r ih=>exact fun b=>Qn Z b ih.1 (dy r rfl)
 case new r ih=>exact fun b=>Ys Z b ih.1
 case call t _ _ r ih=>exact fun b=>Uk Z b t ih
 case pick a b=>exact fun c=>Ui Z c a b
 case pick1 a b _ _ r ih=>exact fun c=>Qm Z c a b ih.1
 case var t=>exact fun b=>Yo Z b t
 case ofPr r ih=>exact fun b=>vp (ih b)
 case get t _ _ r ih=>exact fun b=>Yw Z t (ih b)
 case ofPo r ih=>exact Et (ih false) (dy r rfl)
 case make t _ _ r ih=>exact Et (vp (Uj Z t ih)) ⟨_,_,rfl,.inl ⟨rfl,rfl⟩⟩
 case neg r ih=>exact Fi Z (.inl ⟨rfl,rfl⟩) (vp (ih false)) (dy r rfl)
 case not r ih=>exact Fi Z (.inr (.inl ⟨rfl,rfl⟩)) (vp (ih false)) (dy r rfl)
 case star r ih=>exact Fi Z (.inr (.inr ⟨rfl,rfl⟩)) (vp (ih false)) (dy r rfl)
 case bor r ih=>exact ZH Z (vp (ih false)) (dy r rfl)
 case borM r ih=>exact VD Z (vp (ih false)) (dy r rfl)
 case bin hg r r2 ih ih2=>exact SY Z hg (vp (ih false)) (dy r rfl) (vp (ih2 false)) (dy r2 rfl)
 case if1 r r2 ih ih2=>obtain⟨q,rfl⟩:=oH r2;exact ZZ Z (Jv ih r true) ih2
 case if2 r r2 r3 ih ih2 ih3=>obtain⟨q,rfl⟩:=oH r2;obtain⟨q3,rfl⟩:=oH r3;exact ZY Z (Jv ih r true) ih2 ih3
 case if3 r r2 r3 ih ih2 ih3=>obtain⟨q,rfl⟩:=oH r2;obtain⟨q3,rfl⟩:=Fw r3;exact ZX Z (Jv ih r true) ih2 ih3
 case mat r r2 ih ih2=>exact UP Z (Jv ih r true) ih2
 case blk r ih=>exact VO Z ih
 case blkE r r2 ih ih2=>exact SW Z ih ih2.2 (mC r2 rfl fun x hx=>a7b hx)
 case exE r ih=>exact⟨ih,TV (dy r rfl) ih⟩
 case exC r ih=>exact⟨SN (Ms r ih) (FA r) fun y h=>h.a6,FB (FA r) (Ms r ih) rfl⟩
 case exM r ih=>exact⟨SN (LW r ih) (Fz r) fun y h=>trivial,FB (Fz r) (LW r ih) trivial⟩
 case exB r ih=>exact⟨SN (SX r ih) (KA r) fun y h=>trivial,FB (KA r) (SX r ih) trivial⟩
 case let0 t _ _ r ih=>exact T2 Z t ih.1
 case let0M t _ _ r ih=>exact PC Z t ih.1
 case let1 t _ _ _ _ r r2 ih ih2=>exact TZ Z t ih ih2.1
 case let1M t _ _ _ _ r r2 ih ih2=>exact PB Z t ih ih2.1
 case doE r ih=>exact a4z Z (dy r rfl) ih
 case doC r ih=>exact SO Z (FA r) (Ms r ih) rfl
 case doM r ih=>exact SO Z (Fz r) (LW r ih) trivial
 case doB r ih=>exact SO Z (KA r) (SX r ih) trivial
 case set r r2 ih ih2=>exact XW Z (a8y r) (Jv ih r false) (Jv ih2 r2 false)
 case whl r r2 ih ih2=>obtain⟨q,rfl⟩:=oH r2;exact XV Z (Jv ih r true) ih2
 case ret0=>exact TX Z
 case ret1 r ih=>exact TW Z ih.1 (mC r rfl fun x hx=>Hx.no hx (by decide))
 case brk=>exact XY Z
 case nxt=>exact XX Z
 case init t _ _ r ih=>exact UK Z t ih.1
 case armB r r2 ih ih2=>obtain⟨q,rfl⟩:=oH r2;exact a0j Z ih ih2
 case armE r r2 ih ih2=>exact FM Z ih ih2 (mC r2 rfl fun x hx=>Hx.no hx (by decide))
 case armC r r2 ih ih2=>exact FM Z ih (SN (Ms r2 ih2) (FA r2) fun y h=>h.a6) (mC r2 rfl fun x hx=>Hx.no hx (by decide))
 case armM r r2 ih ih2=>exact FM Z ih (SN (LW r2 ih2) (Fz r2) fun y h=>trivial) (mC r2 rfl fun x hx=>Hx.no hx (by decide))
 case field t _ _ r ih=>exact Vy Z t ih
 case param t _ _ r ih=>exact Um Z t ih
 case paramM t _ _ r ih=>exact Qq Z t ih
 case var0 t=>exact O4 Z t
 case var1 t _ _ r ih=>exact O3 Z t ih
 case fn0 t _ _ _ _ r r2 ih ih2=>obtain⟨q,rfl⟩:=oH r2;exact Zd Z t ih ih2
 case fn1 t _ _ _ _ _ _ r r2 r3 ih ih2 ih3=>exact Zc Z t ih ih2 ih3
 case struct t _ _ r ih=>exact NT Z t ih
 case enum t _ _ r ih=>exact Vb Z t ih
 case ls0 c=>
  cases c<;>first|trivial|exact UT|exact UW|exact YR (fun _=>rfl) rfl
 case ls1 c _ _ r ih=>
  cases c
  case ex=>exact EM (q:= .expr false) (fun _=>rfl) ih.1 T4 rfl (mC r rfl fun x hx=>Hx.no hx (by decide))
  case ni=>exact EM (q:= .init) (fun _=>rfl) ih PD rfl (mC r rfl fun x hx=>Hx.no hx (by decide))
  case fd=>exact EM (q:= .field) (fun _=>rfl) ih trivial rfl (mC r rfl fun x hx=>Hx.no hx (by decide))
  case va=>exact EM (q:= .variant) (fun _=>rfl) ih rfl rfl (mC r rfl fun x hx=>Hx.no hx (by decide))
  case pm=>exact US ih trivial (mC r rfl fun x hx=>Hx.no hx (by decide))
  case ar=>exact UU ih (mC r rfl fun x hx=>Hx.no hx (by decide))
  all_goals trivial
 case lsm c _ _ _ _ r r2 ih ih2=>
  cases c
  case ex=>exact zE Z (q:= .expr false) (fun _=>rfl) ih.1 XZ (mC r rfl fun x hx=>Hx.no hx (by decide)) ih2
  case ni=>exact zE Z (q:= .init) (fun _=>rfl) ih XZ (mC r rfl fun x hx=>Hx.no hx (by decide)) ih2
  case fd=>exact zE Z (q:= .field) (fun _=>rfl) ih trivial (mC r rfl fun x hx=>Hx.no hx (by decide)) ih2
  case va=>exact zE Z (q:= .variant) (fun _=>rfl) ih rfl (mC r rfl fun x hx=>Hx.no hx (by decide)) ih2
  case pm=>exact Rc Z ih trivial (mC r rfl fun x hx=>Hx.no hx (by decide)) ih2
  case ar=>exact Re ih (mC r rfl fun x hx=>Hx.no hx (by decide)) ih2
  all_goals trivial
 case sq0 c=>cases c<;>first|trivial|exact X2
 case sqm c _ _ _ _ r r2 ih ih2=>
  cases c
  case st=>exact a5b ih (fun _=>trivial) (mC r rfl fun x hx=>Hx.no hx (by decide)) ih2
  case it=>
   refine a5c ih (fun _=>trivial) ?_ ih2;obtain⟨x,q,e,hx⟩:=dy r rfl;refine⟨x,q,e,?_⟩;rcases hx with hx|hx|hx
   ·cases hx.1
   ·cases hx.1
   ·exact(by decide:∀ x∈[wd Xo,wd wy,wd F1],decide (x.k=5)=false) x hx
  all_goals trivial
end
end Go.Vm.Pa
