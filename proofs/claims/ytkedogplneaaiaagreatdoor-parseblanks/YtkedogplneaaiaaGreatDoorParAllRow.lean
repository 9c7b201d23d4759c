/- Laws of the parser: order, places, brackets, blanks. -/
import Derived.Test.YtkedogplneaaiaaGreatDoorParOrdRow
import Derived.Test.YtkedogplneaaiaaGreatDoorTreP
import Derived.SizedLaws
set_option maxRecDepth 100000
set_option linter.unusedVariables false
set_option linter.unusedSimpArgs false
namespace Go.Proofs.YtkedogplneaaiaaGreatDoor
open Go Go.Vm Go.ChangeShapes Go.WideShapes Go.ChangeAt Go.RowKit
theorem c7h {H:Type} {W:World} (hW:laidMetH Tryz.prog a9a W) (ds:List (DataW H)) (h1:ds.length=Tryz.f4.params.size) (h2:∀ (i:Nat) t x,Tryz.f4.params[i]? =some t->ds[i]? =some x->c1o Tryz.prog 8 t (dwD x)):∃ H',evF (pgW hW) 4 ((ds.map dwD).map V.d) []=some (.d (.bool true),H'):=by
 have hp:Tryz.f4.params= #[9]:=Tryz.params4
 match ds,h1 with
 |[d0],_=>
  have hd0:=h2 0 9 d0 (by rw[hp];rfl) rfl
  obtain⟨s,e,_⟩:=c3w d9z hd0
  exact⟨[],by show evF _ 4 [.d (dwD d0)] []=_;rw[e];exact Go.Vm.Px.f6n (Go.Proofs.YtkedogplneaaiaaGreatDoor.g5a hW) s []⟩
theorem c1q (os:Os) (started:os.Started) (H:Type) (enc:TypeId×Value->H):
 ReturnsInHanded {} Tryz.checked os 4 .any (fun w args=>(Rows.parseRightSpec.pre enc Tryz.prog Tryz.f4 [] false w args/\laidMetH Tryz.prog a9a w)/\sizedMet enc Tryz.prog Tryz.f4 (OpenSpec.ofChange Rows.parseRightSpec) false w args)
   (Rows.parseRightSpec.post enc Tryz.prog Tryz.f4 false true false false):=by
 refine returnsInHanded_of_change_and (C:=Tryz.checked) (X:=fun w _=>laidMetH Tryz.prog a9a w) (fun _ _ _ hh h=>h.of_heap hh) own started kr Tryz.func4
   (ChangeSpec.witness_shaped (enc:=enc) (C:=Tryz.checked) (os:=os) (X:=fun w _=>laidMetH Tryz.prog a9a w) false (w8 os) #[.string ⟨#[]⟩] 8 (f3n _) (c0d os) kr kr kr (c3l os _)) ?_
 intro W base args ds gs before hval hW _ _ hL _
 refine b0a (m:=8) (tb:=4) (pg:=pgW hL) (tOk hL) mixed laidOut rfl (fun ds h=>?_) (fun t ht=>?_) kr Tryz.underlying4 hval hW (e0f hL) (c7h hL ds)
 ·match ds,h with
  |[d0],_=>rfl
 ·rw[Tryz.params4]at ht
  simp only[List.mem_cons,List.not_mem_nil,or_false]at ht
  subst ht
  ·exact⟨⟨kr,of_decide_eq_true kr⟩,kr⟩
theorem c7f:Rows.ParseRightSaid:=
 OpenClaim.holds_of_wide 4 Tryz.f4 rfl rfl rfl rfl rfl rfl rfl ⟨rfl,rfl,rfl,rfl,rfl⟩ rfl rfl rfl rfl rfl kr Tryz.func4 kr
   (of_decide_eq_true kr) (by unfold Func.isWrapper;first|(rw[if_pos (by decide+kernel)];kernel_rfl)|(rw[if_neg (by decide+kernel)];exact⟨rfl,rfl⟩))
   (fun os started H enc _=>c1q os started H enc)
theorem parseRight_holds:Rows.ParseRightCardSaid:=
 Claim7.holds_tied_plain_at .later [] [.data,.data,.data,.data,.handle,.sentinel,.sentinel,.pinned] true (true, "653402f5dad1351d736720f1617cfc36bd946f5f0e15fbc589575ddbaea529e7") true
  c7f (fun _ h=>by cases h) kr (fun _ h=>by cases h) parseRight_row_tie rfl ⟨rfl,rfl⟩ kr rfl
  (fun f fn hf hfn=>by
    obtain rfl:f=4:=Option.some.inj ((show Tryz.prog.funcNamed "patina/patinalaw12.ParseRight" =some 4 by kernel_rfl).symm.trans hf)|>.symm
    obtain rfl:fn=Tryz.f4:=(Option.some.inj (Tryz.func4.symm.trans hfn)).symm
    exact⟨kr,fun j t ht=>by
      rw[Tryz.params4]at ht
      have ht:=Array.mem_of_getElem? ht
      simp only[List.mem_toArray,List.mem_cons,List.not_mem_nil,or_false]at ht
      subst ht
      ·exact(show Tryz.prog.wantsStandIn 9=false by kernel_rfl)⟩)
  kr
end Go.Proofs.YtkedogplneaaiaaGreatDoor
namespace Go.Vm.Px
open Go.Vm.Lex (TokQ a0l a5z dgD Dg)
open Go.Vm.Ite
open Go.Vm.Tp (Nd c0y)
abbrev ints (l:List Int):V:= .d (.sl (l.map (D.int .i64)))
section
variable {fx:Nat->Option Obj} {F:Nat->Option a1j} (H:Hp)
theorem e8f (l:List Int) (hl:l.length<=1000000):evF (pgL fx F) d0v [ints l,ints l] H=some (boo true,H):=by
 refine b2d (d3k (F:=F)) rfl rfl ?_ H
 have hnl:(l.map (D.int .i64)).length=l.length:=List.length_map ..
 have h0:(!decide (((l.map (D.int .i64)).length:Int)=((l.map (D.int .i64)).length:Int)))=false:=by rw[decide_eq_true rfl];rfl
 refine run ⟨?_⟩
 refine b3k (α:=Nat) (fun i=>l.length - i) (fun i=>[(0,ints l),(1,ints l),(12,i64 l.length),(13,i64 i)]) (fun _=>[]) (fun i=>i<=l.length) ?_ 0 (Nat.zero_le _) ?_ rfl
 ·intro i hi
  by_cases hlt:i < l.length
  ·have h1:(i:Int) < (l.length:Int):=om
   have pk:=f4t hlt
   generalize l.getD i 0=x at pk
   have h2:(!decide (x=x))=false:=by rw[decide_eq_true rfl];rfl
   repeat' (first|refine run ⟨?_⟩|refine b2t pk ?_|refine And.intro (a9i _) ?_|fail)
   exact⟨i+1,by show i+1<=_;omega,by show _ - (i+1) < _ - i;omega,by rw[a2x (n:=(i:Int)+1) om];rfl,rfl⟩
  ·have h1:¬ (i:Int) < (l.length:Int):=om
   refine run ⟨?_⟩
   exact rfl
 ·show[_,_,(12,i64 ((l.map (D.int .i64)).length:Int)),_]=_
  rw[hnl];rfl
structure Alk (t t':List Nd):Prop where
 len:t.length=t'.length
 hl:t.length<=1000000
 kl:∀ i,i < t.length->(t.getD i default).kids.length<=1000000
 eq:∀ i,i < t.length->(t.getD i default).k=(t'.getD i default).k/\(t.getD i default).t=(t'.getD i default).t/\(t.getD i default).v=(t'.getD i default).v/\(t.getD i default).kids=(t'.getD i default).kids
set_option maxHeartbeats 4000000 in
theorem e0h (t t':List Nd) (A:Alk t t'):evF (pgL fx F) c8s [.d (c0y t),.d (c0y t')] H=some (boo true,H):=by
 refine b2d (c9j (F:=F)) rfl rfl ?_ H
 have hl:=A.hl
 have hnl:(t.map Nd.D).length=t.length:=List.length_map ..
 have hnl':(t'.map Nd.D).length=t.length:=(List.length_map ..).trans A.len.symm
 have h0:(!decide (((t.map Nd.D).length:Int)=((t'.map Nd.D).length:Int)))=false:=by rw[decide_eq_true om];rfl
 refine run ⟨?_⟩
 refine b3k (α:=Nat) (fun i=>t.length - i) (fun i=>[(2,.ptr 0 0),(3,.ptr 1 0),(5,i64 i)]) (fun _=>[.box [.d (.sl (t.map Nd.D))],.box [.d (.sl (t'.map Nd.D))]]) (fun i=>i<=t.length) ?_ 0 (Nat.zero_le _) rfl rfl
 intro i hi
 by_cases hlt:i < t.length
 ·have h1:(i:Int) < ((t.map Nd.D).length:Int):=om
  have pn:=e3q hlt
  have pn':=e3q (t:=t') (i:=i) (by have:=A.len;omega)
  obtain⟨q1,q2,q3,q4⟩:=A.eq i hlt
  have hkl:=A.kl i hlt
  generalize t.getD i default=x at pn q1 q2 q3 q4 hkl
  generalize t'.getD i default=y at pn' q1 q2 q3 q4
  obtain⟨k,tx,v,ks,f,e⟩:=x
  obtain⟨k',tx',v',ks',f',e'⟩:=y
  simp only at q1 q2 q3 q4 hkl
  subst q1;subst q2;subst q3;subst q4
  have hb1:(!decide (k=k))=false:=by rw[decide_eq_true rfl];rfl
  have hb2:(!decide (tx=tx))=false:=by rw[decide_eq_true rfl];rfl
  have hb3:(!decide (v=v))=false:=by rw[decide_eq_true rfl];rfl
  have ei:=fun H=>e8f (fx:=fx) (F:=F) H ks hkl
  have hgz:grew [.box [.d (.sl (t.map Nd.D))],.box [.d (.sl (t'.map Nd.D))]] ([.box [.d (.sl (t.map Nd.D))],.box [.d (.sl (t'.map Nd.D))]]++[.box [i64 0,.d (.str []),i64 0,.nils,i64 0,i64 0]])=true:=(c4g _ _).trans rfl
  have hgz2:grew [.box [.d (.sl (t.map Nd.D))],.box [.d (.sl (t'.map Nd.D))],.box [i64 0,.d (.str []),i64 0,.nils,i64 0,i64 0]] ([.box [.d (.sl (t.map Nd.D))],.box [.d (.sl (t'.map Nd.D))],.box [i64 0,.d (.str []),i64 0,.nils,i64 0,i64 0]]++[.box [i64 0,.d (.str []),i64 0,.nils,i64 0,i64 0]])=true:=(c4g _ _).trans rfl
  repeat' (first|refine h9p ⟨?_⟩|refine g0y (a:=10) rfl rfl ?_|refine ca (ei _) ?_|refine And.intro hgz2 ?_|refine b2t pn ?_|refine b2t pn' ?_|refine And.intro (a9i _) ?_|refine And.intro hgz ?_|fail)
  exact⟨i+1,by show i+1<=_;omega,by show _ - (i+1) < _ - i;omega,by rw[a2x (n:=(i:Int)+1) om];rfl,rfl⟩
 ·have h1:¬ (i:Int) < ((t.map Nd.D).length:Int):=om
  refine run ⟨?_⟩
  exact rfl
end
end Go.Vm.Px
namespace Go.Vm.Pa
open Go.Vm.Lex (TokQ a0l)
def b0l:D->D
 | .agg [a,b,c,d,_,_]=> .agg [a,b,c,d]
 |x=>x
structure g9n (l l':List TokQ):Prop where
 len:l.length=l'.length
 eq:∀ i,(l.getD i default).k=(l'.getD i default).k/\(l.getD i default).t=(l'.getD i default).t/\(l.getD i default).v=(l'.getD i default).v
structure e8o (s s':PS):Prop where
 at_:s.at_=s'.at_
 deep:s.deep=s'.deep
 n:s.n=s'.n
 ns:s.ns.map b0l=s'.ns.map b0l
def ExEq:Option EX->Option EX->Prop
 |none,none=>True
 |some (.ok r s),some (.ok r' s')=>r=r'/\e8o s s'
 |some (.bad c _ _),some (.bad c' _ _)=>c=c'
 |_,_=>False
section
variable {l l':List TokQ} {s s':PS} (T:g9n l l') (h:e8o s s')
include T h
theorem c5m:(now l s).k=(now l' s').k/\(now l s).t=(now l' s').t/\(now l s).v=(now l' s').v:=by
 unfold now;rw[h.at_];exact T.eq _
theorem e2n (x:S):isS l s x=isS l' s' x:=by
 obtain⟨h1,h2,_⟩:=c5m T h
 unfold isS;rw[h1,h2]
theorem ok_eq:okS l s=okS l' s':=by unfold okS;rw[h.at_,T.len]
theorem any_eq (xs:List S):anyS l s xs=anyS l' s' xs:=by
 unfold anyS
 rw[show isS l s=isS l' s' from funext (e2n T h)]
theorem f2m (c:Int):a1e l c s=a1e l' c s':=by
 unfold a1e
 rw[(c5m T h).1,any_eq T h,any_eq T h,any_eq T h,e2n T h]
theorem sign_eq (hb:s.bc=s'.bc) (r:Int):a7p l r s=a7p l' r s':=by
 unfold a7p
 rw[show(fun x=>okB s && isS l s x)=(fun x=>okB s' && isS l' s' x)from funext fun x=>by rw[e2n T h x];unfold okB;rw[hb]]
theorem g3e {fr:Int} (n:N):match a2p l fr n s,a2p l' fr n s' with
 |some (i,s1),some (i',s1')=>i=i'/\e8o s1 s1'/\s1.bc=s.bc/\s1'.bc=s'.bc
 |none,none=>True
 |_,_=>False:=by
 have hl:s.ns.length=s'.ns.length:=by have:=congrArg List.length h.ns;simpa using this
 have hf:∀ x,okF l x=okF l' x:=fun x=>by unfold okF;rw[T.len]
 unfold a2p
 rw[hl,h.n,h.at_,hf,hf]
 by_cases c:s'.ns.length=s'.n/\s'.n < 1000000/\okF l' fr=true/\(fr < s'.at_->okF l' (w (s'.at_ - 1))=true)
 ·rw[if_pos c,if_pos c]
  refine⟨rfl,⟨rfl,h.deep,rfl,?_⟩,rfl,rfl⟩
  show(s.ns++[_]).map b0l=(s'.ns++[_]).map b0l
  rw[List.map_append,List.map_append,h.ns]
  rfl
 ·rw[if_neg c,if_neg c]
  trivial
theorem unit_eq:match a6p l s,a6p l' s' with
 |some (i,s1),some (i',s1')=>i=i'/\e8o s1 s1'/\s1.bc=s.bc/\s1'.bc=s'.bc
 |none,none=>True
 |_,_=>False:=by
 have hl:s.ns.length=s'.ns.length:=by have:=congrArg List.length h.ns;simpa using this
 have hf:∀ x,okF l x=okF l' x:=fun x=>by unfold okF;rw[T.len]
 unfold a6p
 rw[hl,h.n,h.at_,hf]
 by_cases c:s'.ns.length=s'.n/\s'.n < 1000000/\okF l' (w (s'.at_ - 1))=true
 ·rw[if_pos c,if_pos c]
  refine⟨rfl,⟨rfl,h.deep,rfl,?_⟩,rfl,rfl⟩
  show(s.ns++[_]).map b0l=(s'.ns++[_]).map b0l
  rw[List.map_append,List.map_append,h.ns]
  rfl
 ·rw[if_neg c,if_neg c]
  trivial
end
theorem d2y {s s':PS} (h:e8o s s'):e8o (adv s) (adv s'):=⟨by show w (s.at_+1)=w (s'.at_+1);rw[h.at_],h.deep,h.n,h.ns⟩
theorem g1l {s s':PS} (h:e8o s s'):e8o (down s) (down s'):=⟨h.at_,by show w (s.deep - 1)=w (s'.deep - 1);rw[h.deep],h.n,h.ns⟩
theorem g4z {s s':PS} (h:e8o s s'):e8o (a3h s) (a3h s'):=⟨h.at_,by show w (s.deep+1)=w (s'.deep+1);rw[h.deep],h.n,h.ns⟩
section
variable {l l':List TokQ} (T:g9n l l')
include T
structure StZ (s s':PS):Prop where
 eq:e8o s s'
 b:s.bc=0
 b':s'.bc=0
def ExZ:Option EX->Option EX->Prop
 |none,none=>True
 |some (.ok r s),some (.ok r' s')=>r=r'/\StZ s s'
 |some (.bad c _ _),some (.bad c' _ _)=>c=c'
 |_,_=>False
omit T in
theorem c5z {l l':List TokQ} {s s':PS} (c:Int):ExZ (c9y l c s) (c9y l' c s'):=rfl
theorem g9w {g g':Q->PS->Option EX} (hg:∀ q s s',StZ s s'->ExZ (g q s) (g' q s')):∀ (p:Pr) (s s':PS),StZ s s'->ExZ (a0a l g p s) (a0a l' g' p s'):=by
 intro p
 induction p with
 |ret r=>intro s s' h;exact⟨rfl,h⟩
 |dead=>intro s s' h;trivial
 |tail q=>intro s s' h;exact hg q s s' h
 |fail k ih=>intro s s' h;exact c5z _
 |take x k ih=>
  intro s s' h
  simp only[a0a]
  rw[e2n T h.eq x]
  cases isS l' s' x with
  |true=>exact ih _ _ _ ⟨d2y h.eq,h.b,h.b'⟩
  |false=>exact ih _ _ _ h
 |need x k ih=>
  intro s s' h
  simp only[a0a]
  rw[e2n T h.eq x]
  cases isS l' s' x with
  |true=>exact ih _ _ ⟨d2y h.eq,h.b,h.b'⟩
  |false=>exact c5z _
 |name k ih=>
  intro s s' h
  obtain⟨h1,h2,h3⟩:=c5m T h.eq
  simp only[a0a]
  rw[h1,h2]
  cases decide ((now l' s').k=1)with
  |true=>exact ih _ _ _ ⟨d2y h.eq,h.b,h.b'⟩
  |false=>exact c5z _
 |is x k ih=>intro s s' h;simp only[a0a];rw[e2n T h.eq x];exact ih _ _ _ h
 |ok k ih=>intro s s' h;exact ih _ _ _ h
 |kind c k ih=>intro s s' h;simp only[a0a];rw[(c5m T h.eq).1];exact ih _ _ _ h
 |text c k ih=>intro s s' h;simp only[a0a];rw[(c5m T h.eq).2.1];exact ih _ _ _ h
 |val k ih=>intro s s' h;simp only[a0a];rw[(c5m T h.eq).2.2];exact ih _ _ _ h
 |sign c k ih=>intro s s' h;simp only[a0a];rw[sign_eq T h.eq (h.b.trans h.b'.symm)];exact ih _ _ _ h
 |pos k ih=>intro s s' h;simp only[a0a];rw[h.eq.at_];exact ih _ _ _ h
 |down k ih=>intro s s' h;exact ih _ _ ⟨g1l h.eq,h.b,h.b'⟩
 |adv k ih=>
  intro s s' h
  simp only[a0a]
  rw[ok_eq T (d2y h.eq)]
  cases okS l' (adv s')with
  |true=>exact ih _ _ ⟨d2y h.eq,h.b,h.b'⟩
  |false=>trivial
 |into c k ih=>
  intro s s' h
  simp only[a0a]
  rw[f2m T h.eq,h.eq.deep]
  cases a1e l' c s' with
  |true=>
   cases decide (100<=s'.deep)with
   |true=>exact c5z _
   |false=>exact ih _ _ _ ⟨g4z h.eq,h.b,h.b'⟩
  |false=>exact c5z _
 |node fr n k ih=>
  intro s s' h
  have hn:=g3e T h.eq (fr:=fr) n
  simp only[a0a]
  revert hn
  cases a2p l fr n s with
  |none=>
   cases a2p l' fr n s' with
   |none=>intro _;trivial
   |some y=>intro hn;exact hn.elim
  |some x=>
   cases a2p l' fr n s' with
   |none=>intro hn;exact hn.elim
   |some y=>
    obtain⟨i,s1⟩:=x
    obtain⟨i',s1'⟩:=y
    rintro⟨rfl,h1,h2,h3⟩
    exact ih _ _ _ ⟨h1,h2.trans h.b,h3.trans h.b'⟩
 |unit k ih=>
  intro s s' h
  have hn:=unit_eq T h.eq
  simp only[a0a]
  revert hn
  cases a6p l s with
  |none=>
   cases a6p l' s' with
   |none=>intro _;trivial
   |some y=>intro hn;exact hn.elim
  |some x=>
   cases a6p l' s' with
   |none=>intro hn;exact hn.elim
   |some y=>
    obtain⟨i,s1⟩:=x
    obtain⟨i',s1'⟩:=y
    rintro⟨rfl,h1,h2,h3⟩
    exact ih _ _ _ ⟨h1,h2.trans h.b,h3.trans h.b'⟩
 |call q k ih=>
  intro s s' h
  have hn:=hg q s s' h
  simp only[a0a]
  revert hn
  cases g q s with
  |none=>
   cases g' q s' with
   |none=>intro _;trivial
   |some y=>intro hn;exact hn.elim
  |some x=>
   cases g' q s' with
   |none=>intro hn;cases x<;>exact hn.elim
   |some y=>
    cases x with
    |bad c f e=>cases y with
     |bad c' f' e'=>intro hn;exact hn
     |ok r1 s1=>intro hn;exact hn.elim
    |ok r1 s1=>cases y with
     |bad c' f' e'=>intro hn;exact hn.elim
     |ok r2 s2=>
      rintro⟨rfl,h1⟩
      simp only
      rw[ok_eq T h1.eq]
      cases okS l' s2 with
      |true=>exact ih _ _ _ h1
      |false=>trivial
theorem eq_go:∀ (n:Nat) (q:Q) (s s':PS),StZ s s'->ExZ (goE l n q s) (goE l' n q s')
 |0,_,_,_,_=>trivial
 |n+1,q,s,s',h=>g9w T (fun q s s' h=>eq_go n q s s' h) (prog q) s s' h
theorem h7w (n:Nat) (u:Ru):ExZ (u.run l n) (u.run l' n):=by
 have z:StZ S0 S0:=⟨⟨rfl,rfl,rfl,rfl⟩,rfl,rfl⟩
 cases u with
 |crate=>
  have h:=eq_go T n (.items K.o) S0 S0 z
  simp only[Ru.run]
  revert h
  cases goE l n (.items K.o) S0 with
  |none=>
   cases goE l' n (.items K.o) S0 with
   |none=>intro _;trivial
   |some y=>intro hn;exact hn.elim
  |some x=>
   cases goE l' n (.items K.o) S0 with
   |none=>intro hn;cases x<;>exact hn.elim
   |some y=>
    cases x with
    |bad c f e=>cases y with
     |bad c' f' e'=>intro hn;exact hn
     |ok r1 s1=>intro hn;exact hn.elim
    |ok r1 s1=>cases y with
     |bad c' f' e'=>intro hn;exact hn.elim
     |ok r2 s2=>
      rintro⟨rfl,h1⟩
      have hl:s1.ns.length=s2.ns.length:=by have:=congrArg List.length h1.eq.ns;simpa using this
      simp only[c2c]
      rw[ok_eq T h1.eq,hl,h1.eq.n]
      split
      ·refine⟨rfl,⟨⟨h1.eq.at_,h1.eq.deep,rfl,?_⟩,h1.b,h1.b'⟩⟩
       show(s1.ns++[_]).map b0l=(s2.ns++[_]).map b0l
       rw[List.map_append,List.map_append,h1.eq.ns]
       rfl
      ·trivial
 |expr=>exact eq_go T n _ _ _ z
 |typ=>exact eq_go T n _ _ _ z
 |pat=>exact eq_go T n _ _ _ z
end
end Go.Vm.Pa
namespace Go.Vm.Pa
open Go.Vm.Lex (TokQ a0l toks b8t a1n a0c a2g a2s Good Shape Behind d9n after Dg wsB)
def g0r:S:=[47,47,32,97,32,114,101,109,97,114,107,10]
def d7e (m:S):Prop:=m=[]\/m=[10,9]\/m=g0r
def glue (ms:Nat->S):Nat->List TokQ->S
 |_,[]=>[]
 |i,x::r=>32::(ms i++(x.t++glue ms (i+1) r))
theorem d9o {m:S} (h:d7e m) (u:S):a0c false (m++u)=m.length+a0c false u:=by
 rcases h with rfl|rfl|rfl
 ·simp
 ·show a0c false (10::9::u)=_
  rw[a2g,if_pos (by decide),a2g,if_pos (by decide)]
  simp only[List.length_cons,List.length_nil]
  omega
 ·show a0c false (47::47::32::97::32::114::101::109::97::114::107::10::u)=_
  rw[a2g,if_neg (by decide),if_pos (by simp)]
  rw[a2s,if_neg (by decide),a2s,if_neg (by decide),a2s,if_neg (by decide),a2s,if_neg (by decide),a2s,if_neg (by decide),a2s,if_neg (by decide),a2s,if_neg (by decide),a2s,if_neg (by decide),a2s,if_neg (by decide),a2s,if_neg (by decide),a2s,if_pos rfl]
  simp only[g0r,List.length_cons,List.length_nil]
  omega
theorem f0e {m:S} (h:d7e m):∀ c∈m,c.toNat < 128:=by
 rcases h with rfl|rfl|rfl<;>decide
def Row:List TokQ->Prop
 |[]=>False
 |[x]=>x.k=5/\x.t=[]/\x.v=0
 |x::r=>x.k≠5/\Lex.Good x.k x.t x.v/\(x.k≠3->x.v=0)/\Row r
theorem c9o {x y:TokQ} {r:List TokQ} (h:Row (x::y::r)):x.k≠5/\Lex.Good x.k x.t x.v/\(x.k≠3->x.v=0)/\Row (y::r):=h
def TkE (a b:TokQ):Prop:=a.k=b.k/\a.t=b.t/\a.v=b.v
inductive TkL:List TokQ->List TokQ->Prop
 |nil:TkL [] []
 |cons {a b:TokQ} {x y:List TokQ}:TkE a b->TkL x y->TkL (a::x) (b::y)
theorem TkL.eq {x y:List TokQ} (h:TkL x y):g9n x y:=by
 induction h with
 |nil=>exact⟨rfl,fun i=>by simp⟩
 |cons h1 _ ih=>
  refine⟨by simp[ih.len],fun i=>?_⟩
  cases i with
  |zero=>exact h1
  |succ i=>exact ih.eq i
theorem d1w (ms:Nat->S) (hm:∀ i,d7e (ms i)):∀ (l:List TokQ),Row l->∀ (a i:Nat),∃ l',toks a (glue ms i l)=(l',Dg.ok)/\TkL l l'
 |[],h,_,_=>h.elim
 |[x],h,a,i=>by
  obtain⟨h1,h2,h3⟩:=h
  have e:glue ms i [x]=32::(ms i++[]):=by simp[glue,h2]
  have hs:a0c false (glue ms i [x])=(glue ms i [x]).length:=by
   rw[e,a2g,if_pos (by decide),d9o (hm i)]
   simp[Lex.a7b]
  refine⟨_,a1n a (List.drop_eq_nil_of_le (by rw[hs];exact Nat.le_refl _)),.cons ⟨h1,h2,h3⟩ .nil⟩
 |x::y::r,h,a,i=>by
  obtain⟨h1,hg,h3,h4⟩:=c9o h
  have hb:Behind (glue ms (i+1) (y::r)):= .inr ⟨_,rfl⟩
  obtain⟨t1,t2⟩:=d9n hg hb
  have hsk:a0c false (glue ms i (x::y::r))=1+(ms i).length:=by
   show a0c false (32::(ms i++(x.t++glue ms (i+1) (y::r))))=_
   rw[a2g,if_pos (by decide),d9o (hm i),t2]
   omega
  have hd1:List.drop (1+(ms i).length) (glue ms i (x::y::r))=x.t++glue ms (i+1) (y::r):=by
   show List.drop (1+(ms i).length) (32::(ms i++(x.t++glue ms (i+1) (y::r))))=_
   rw[Nat.add_comm,List.drop_succ_cons,List.drop_left]
  obtain⟨l',i1,i2⟩:=d1w ms hm (y::r) h4 (a+(1+(ms i).length+x.t.length)) (i+1)
  have hd2:List.drop (1+(ms i).length+x.t.length) (glue ms i (x::y::r))=glue ms (i+1) (y::r):=by
   rw[<-List.drop_drop,hd1,List.drop_left]
  have hne:x.t++glue ms (i+1) (y::r)≠[]:=by simp[hg.ne]
  rw[b8t (1+(ms i).length) ⟨x.k,x.t,if x.k=3 then x.v else 0,x.t.length,0⟩ hsk (by rw[hd1];exact t1) rfl (by rw[hd1];exact hne)]
  rw[hd2,i1]
  refine⟨⟨x.k,x.t,if x.k=3 then x.v else 0,a+(1+(ms i).length),a+(1+(ms i).length)+x.t.length⟩::l',by simp[after,Dg.ok],.cons ⟨rfl,rfl,?_⟩ i2⟩
  show x.v=if x.k=3 then x.v else 0
  by_cases c:x.k=3
  ·rw[if_pos c]
  ·rw[if_neg c];exact h3 c
theorem d8x (ms:Nat->S) (hm:∀ i,d7e (ms i)):∀ (l:List TokQ),Row l->∀ (i:Nat),∀ c∈glue ms i l,c.toNat < 128
 |[],h,_,_,_=>h.elim
 |[x],h,i,c,hc=>by
  obtain⟨_,h2,_⟩:=h
  simp only[glue,h2,List.nil_append,List.append_nil,List.mem_cons]at hc
  rcases hc with rfl|hc
  ·decide
  ·exact f0e (hm i) c hc
 |x::y::r,h,i,c,hc=>by
  obtain⟨_,hg,_,h4⟩:=c9o h
  have hc:c∈32::(ms i++(x.t++glue ms (i+1) (y::r))):=hc
  simp only[List.mem_cons,List.mem_append]at hc
  rcases hc with rfl|hc|hc|hc
  ·decide
  ·exact f0e (hm i) c hc
  ·exact hg.low c hc
  ·exact d8x ms hm (y::r) h4 (i+1) c hc
theorem d3r {s:S}:∀ {l:List TokQ} {a:Nat},Lex.Chain s a l->l≠[]->(∀ x∈l,Shape x)->Row l
 |[],_,_,h,_=>absurd rfl h
 |[x],a,hc,_,hs=>by
  obtain⟨_,_,_,_,h5,_⟩:=hc
  have h5:=h5.2 rfl
  have sx:=hs x (by simp)
  exact⟨h5,sx.k5 h5,sx.v0 om⟩
 |x::y::r,a,hc,_,hs=>by
  obtain⟨_,_,_,_,h5,_,h7⟩:=hc
  have h5:x.k≠5:=fun e=>by have:=h5.1 e;cases this
  have sx:=hs x (by simp)
  exact⟨h5,sx.good h5,sx.v0,d3r h7 (by simp) fun z hz=>hs z (by simp only[List.mem_cons]at hz⊢;exact .inr hz)⟩
theorem e1r {s:S} (h:(a0l s).2.c=0):Row (a0l s).1:=by
 obtain⟨_,_,_,h4,h5,_⟩:=Lex.a6g s h
 exact d3r h4 h5 Lex.c7r
theorem f6x {s:S} (h:(a0l s).2.c=0) (ms:Nat->S) (hm:∀ i,d7e (ms i)) (hl:(glue ms 0 (a0l s).1).length<=65536):(a0l (glue ms 0 (a0l s).1)).2.c=0/\g9n (a0l s).1 (a0l (glue ms 0 (a0l s).1)).1:=by
 have hr:=e1r h
 obtain⟨l',h1,h2⟩:=d1w ms hm _ hr 0 0
 have e:a0l (glue ms 0 (a0l s).1)=(l',Dg.ok):=(Lex.d6b hl (Lex.c4z _ (d8x ms hm _ hr 0))).trans h1
 rw[e]
 exact⟨rfl,h2.eq⟩
end Go.Vm.Pa
namespace Go.Vm.Px
open Go.Vm.Lex (TokQ a0l a5z dgD Dg)
open Go.Vm.Pa hiding go
open Go.Vm.Ite
open Go.Vm.Tp (Nd c0y)
def b3w (marks:List Int) (i:Nat):S:=if i < marks.length then(if(marks.getD i 0).tmod 3=1 then[10,9] else if(marks.getD i 0).tmod 3=2 then g0r else[]) else[]
theorem d3z (marks:List Int) (i:Nat):d7e (b3w marks i):=by
 unfold b3w
 split
 ·split
  ·exact .inr (.inl rfl)
  ·split
   ·exact .inr (.inr rfl)
   ·exact .inl rfl
 ·exact .inl rfl
theorem g4d {l:List TokQ} {i:Nat} (h:i < l.length):0<=(i:Int)/\(l.map TokQ.D)[(i:Int).toNat]? =some (l.getD i default).D:=⟨om,by
  rw[Int.toNat_natCast,List.getElem?_map,List.getElem?_eq_getElem h]
  simp[List.getD_eq_getElem?_getD,List.getElem?_eq_getElem h]⟩
theorem e0s (ms:Nat->S) (hm:∀ i,d7e (ms i)):∀ (l:List TokQ) (i:Nat),(∀ x∈l,x.t.length<=65536)->(glue ms i l).length<=l.length*65549
 |[],_,_=>Nat.zero_le _
 |x::r,i,h=>by
  have h1:=e0s ms hm r (i+1) fun y hy=>h y (by simp[hy])
  have h2:=h x (by simp)
  have h3:(ms i).length<=12:=by rcases hm i with e|e|e<;>rw[e]<;>decide
  simp only[glue,List.length_cons,List.length_append]
  omega
theorem g0p {x y:Nd} (h:b0l x.D=b0l y.D):x.k=y.k/\x.t=y.t/\x.v=y.v/\x.kids=y.kids:=by
 simp only[Nd.D,b0l,D.agg.injEq,List.cons.injEq,D.int.injEq,D.str.injEq,D.sl.injEq,true_and,and_true]at h
 exact⟨h.1,h.2.1,h.2.2.1,(List.map_inj_right (fun a b e=>by cases e;rfl)).1 h.2.2.2⟩
theorem d8y {T T':Fo} (h:(T.lay 0).map b0l=(T'.lay 0).map b0l) (hs:T.sz<=1000000):Alk (T.tn 0) (T'.tn 0):=by
 rw[Fo.d4n,Fo.d4n,List.map_map,List.map_map]at h
 have hl:(T.tn 0).length=(T'.tn 0).length:=by have:=congrArg List.length h;simpa using this
 refine⟨hl,by rw[Fo.a8w];exact hs,fun i hi=>?_,fun i hi=>?_⟩
 ·obtain⟨a,m,h1,h2,_⟩:=Fo.d0m T 0 i _ (c2j hi)
  rw[h1,List.length_map]
  have h3:=(Fo.c2z a m).1
  rw[Fo.a8w]at hi
  omega
 ·have e1:=c2j hi
  have e2:=c2j (F:=T') (n:=0) (i:=i) om
  have:=congrArg (·[i]?) h
  simp only[List.getElem?_map,e1,e2,Option.map_some,Option.some.injEq,Function.comp]at this
  exact g0p this
theorem f9l (T:Fo) (j:Nat):(Go.Vm.Pk.b2z (T.nds 0) j).map (fun k:Nat=>(k:Int))=(match(T.tn 0)[j]? with|some x=>x.kids|none=>[]):=by
  have key:∀ (T:Fo) (n j:Nat),((T.nds n)[j]?).map (fun x=>x.ks.map fun k:Nat=>(k:Int))=((T.tn n)[j]?).map (·.kids):=by
    intro T
    induction T with
    |nil=>intro n j;simp[Fo.nds,Fo.tn]
    |cons k t v f e a b iha ihb=>
     intro n j
     simp only[Fo.nds,Fo.tn]
     by_cases c1:j < a.sz
     ·rw[List.getElem?_append_left (by rw[Fo.a6m];exact c1),List.getElem?_append_left (by rw[Fo.a8w];exact c1)]
      exact iha n j
     ·rw[List.getElem?_append_right (by rw[Fo.a6m];omega),List.getElem?_append_right (by rw[Fo.a8w];omega),Fo.a6m,Fo.a8w]
      cases hj:j - a.sz with
      |zero=>rfl
      |succ m=>simp only[List.getElem?_cons_succ];exact ihb _ m
  have:=key T 0 j
  unfold Go.Vm.Pk.b2z
  cases h1:(T.nds 0)[j]? with
  |none=>rw[h1]at this;cases h2:(T.tn 0)[j]? with
   |none=>rfl
   |some y=>rw[h2]at this;cases this
  |some x=>rw[h1]at this;cases h2:(T.tn 0)[j]? with
   |none=>rw[h2]at this;cases this
   |some y=>rw[h2]at this;exact Option.some.inj this
theorem d0x {T T':Fo} (A:Alk (T.tn 0) (T'.tn 0)):T.sz=T'.sz/\Go.Vm.Pk.a2v (T.nds 0)=Go.Vm.Pk.a2v (T'.nds 0):=by
 have hl:=A.len
 rw[Fo.a8w,Fo.a8w]at hl
 have hk:Go.Vm.Pk.b2z (T.nds 0)=Go.Vm.Pk.b2z (T'.nds 0):=by
  funext j
  have e:(match(T.tn 0)[j]? with|some x=>x.kids|none=>[])=(match(T'.tn 0)[j]? with|some x=>x.kids|none=>[]):=by
    by_cases hj:j < (T.tn 0).length
    ·rw[c2j hj,c2j (F:=T') (n:=0) (i:=j) (by rw[<-A.len];exact hj)]
     exact(A.eq j hj).2.2.2
    ·rw[List.getElem?_eq_none om,List.getElem?_eq_none (by rw[<-A.len];omega)]
  rw[<-f9l,<-f9l]at e
  exact(List.map_inj_right (fun a b h=>om)).1 e
 refine⟨hl,?_⟩
 unfold Go.Vm.Pk.a2v
 rw[hk,Fo.a6m,Fo.a6m,hl]
theorem c8p:Alk (Fo.nil.tn 0) (Fo.nil.tn 0):=⟨rfl,Nat.zero_le _,(fun i hi=>by cases hi),(fun i hi=>by cases hi)⟩
theorem f0u {u:Ru} {s t:S} {W W':Fo} {c f e c' f' e':Int} (h:f5a u s W c f e) (h':f5a u t W' c' f' e') (h1:s.length<=65536) (h2:t.length<=65536) (h3:(a0l s).2.c=0) (h4:(a0l t).2.c=0) (h5:g9n (a0l s).1 (a0l t).1):c=c'/\Alk (W.tn 0) (W'.tn 0):=by
 rcases h with⟨q,_⟩|⟨_,q,_⟩|⟨_,_,n,x,hx,ho⟩
 ·omega
 ·exact absurd h3 q
 rcases h' with⟨q,_⟩|⟨_,q,_⟩|⟨_,_,n',x',hx',ho'⟩
 ·omega
 ·exact absurd h4 q
 have z:=h7w h5 (max n n') u
 rw[Ru.mono (Nat.le_max_left n n') hx,Ru.mono (Nat.le_max_right n n') hx']at z
 cases x with
 |bad c0 f0 e0=>cases x' with
  |bad c1 f1 e1=>
   obtain⟨rfl,rfl,_⟩:=ho
   obtain⟨rfl,rfl,_⟩:=ho'
   exact⟨z,c8p⟩
  |ok r s1=>exact z.elim
 |ok r s1=>cases x' with
  |bad c1 f1 e1=>exact z.elim
  |ok r' s1'=>
   obtain⟨_,z⟩:=z
   obtain⟨T,hT,ho⟩:=ho
   obtain⟨T',hT',ho'⟩:=ho'
   have hb:=z.eq.ns
   rw[hT.ns,hT'.ns]at hb
   have A:=d8y hb hT.sz
   obtain⟨d1,d2⟩:=d0x A
   rw[(c5m h5 z.eq).1]at ho
   split at ho
   ·rename_i hk
    rw[if_pos hk]at ho'
    unfold d4y at ho ho'
    rw[<-d1,<-d2]at ho'
    split at ho
    ·rename_i hk2
     rw[if_pos hk2]at ho'
     cases ho;cases ho'
     exact⟨rfl,c8p⟩
    ·rename_i hk2
     rw[if_neg hk2]at ho'
     split at ho
     ·rename_i hk3
      rw[if_pos hk3]at ho'
      cases ho;cases ho'
      exact⟨rfl,c8p⟩
     ·rename_i hk3
      rw[if_neg hk3]at ho'
      cases ho;cases ho'
      exact⟨rfl,A⟩
   ·rename_i hk
    rw[if_neg hk]at ho'
    obtain⟨rfl,rfl,_⟩:=ho
    obtain⟨rfl,rfl,_⟩:=ho'
    exact⟨rfl,c8p⟩
section
variable {fx:Nat->Option Obj} (X:e0r fx)
set_option maxHeartbeats 4000000 in
theorem e6c (s:S) (marks:List Int) (hs:s.length<=maxLen) (hm:marks.length<=maxLen) (H:Hp):evF (pgL fx (FW X)) b6n [.d (.str s),ints marks] H=some (boo true,H):=by
 have p1:=fun s H=>c3i X s H
 have sp:=fun H=>b8u X H
 have tk:=fun H=>Go.Vm.Lex.e4d (fx:=fx) (F:=FW X) H s hs
 refine b2d (b6s (F:=FW X)) rfl rfl ?_ H
 by_cases hc:(a0l s).2.c=0
 rotate_left
 ·have n1:(!decide ((a0l s).2.c=0))=true:=by rw[decide_eq_false hc];rfl
  repeat' (first|refine run ⟨?_⟩|refine ca (tk _) ?_|refine ca (sp _) ?_|fail)
  exact rfl
 have n1:(!decide ((a0l s).2.c=0))=false:=by rw[decide_eq_true hc];rfl
 by_cases hlen:10000 < s.length
 ·have h1:(10000:Int) < (s.length:Int):=om
  repeat' (first|refine run ⟨?_⟩|refine ca (tk _) ?_|refine ca (sp _) ?_|fail)
  exact rfl
 have h1:¬ (10000:Int) < (s.length:Int):=om
 have hlt:=Go.Vm.Lex.d8k s
 have hnl:((a0l s).1.map TokQ.D).length=(a0l s).1.length:=List.length_map ..
 have hml:(marks.map (D.int .i64)).length=marks.length:=List.length_map ..
 unfold maxLen at hm
 have hG:=e0s (b3w marks) (d3z marks) (a0l s).1 0 fun x hx=>by
   obtain⟨j,hj,e⟩:=List.getElem_of_mem hx
   have:=(f1q hc).txt j
   rw[List.getD_eq_getElem?_getD,List.getElem?_eq_getElem hj]at this
   rw[<-e];exact this
 have hG2:(glue (b3w marks) 0 (a0l s).1).length<=4295884813:=Nat.le_trans hG om
 repeat' (first|refine run ⟨?_⟩|refine ca (tk _) ?_|refine ca (sp _) ?_|fail)
 refine b3k (α:=Nat×S) (fun a=>(a0l s).1.length - a.1) (fun a=>[(0,.d (.str s)),(1,ints marks),(5,.d (.sl ((a0l s).1.map TokQ.D))),(7,.d (.str a.2)),(8,i64 a.1)]) (fun _=>[.box [i64 (a0l s).2.c,i64 (a0l s).2.f,i64 (a0l s).2.e]]) (fun a=>a.1<=(a0l s).1.length/\a.2++glue (b3w marks) a.1 ((a0l s).1.drop a.1)=glue (b3w marks) 0 (a0l s).1) ?_ (0,[]) ⟨Nat.zero_le _,by rw[List.drop_zero];rfl⟩ ?_ rfl
 ·rintro⟨i,t⟩ ⟨hi,hg⟩
  simp only at hi hg⊢
  by_cases hlt2:i < (a0l s).1.length
  ·have h2:(i:Int) < (((a0l s).1.map TokQ.D).length:Int):=om
   have pt:=g4d hlt2
   rw[List.drop_eq_getElem_cons hlt2,show(a0l s).1[i]=(a0l s).1.getD i default by simp[List.getD_eq_getElem?_getD,List.getElem?_eq_getElem hlt2],glue]at hg
   generalize(a0l s).1.getD i default=x at pt hg
   have hgl:t.length+(1+((b3w marks i).length+x.t.length))<=4295884813:=by
    have:=congrArg List.length hg
    simp only[List.length_append,List.length_cons]at this
    omega
   have hb1:t.length+[32].length<=9223372036854775807:=by simp only[List.length_cons,List.length_nil];omega
   by_cases hmk:i < marks.length
   ·have h3:(i:Int) < ((marks.map (D.int .i64)).length:Int):=om
    have pj:=f4t hmk
    have es:b3w marks i=if(marks.getD i 0).tmod 3=1 then[10,9] else if(marks.getD i 0).tmod 3=2 then g0r else[]:=by unfold b3w;rw[if_pos hmk]
    generalize marks.getD i 0=m at pj es
    by_cases m1:m.tmod 3=1
    ·rw[if_pos m1]at es
     have m2:¬ m.tmod 3=2:=om
     rw[es]at hg hgl
     have hb2:(t++[32]).length+[10,9].length<=9223372036854775807:=by simp only[List.length_append,List.length_cons,List.length_nil]at hgl⊢;omega
     have hb3:(t++[32]++[10,9]).length+x.t.length<=9223372036854775807:=by simp only[List.length_append,List.length_cons,List.length_nil]at hgl⊢;omega
     repeat' (first|refine run ⟨?_⟩|refine b2t pj ?_|refine b2t pt ?_|refine And.intro hb1 ?_|refine And.intro hb2 ?_|refine And.intro hb3 ?_|fail)
     exact⟨(i+1,t++[32]++[10,9]++x.t),⟨by show i+1<=_;omega,by simpa [List.append_assoc] using hg⟩,by show _ - (i+1) < _ - i;omega,by rw[a2x (n:=(i:Int)+1) om];rfl,rfl⟩
    ·rw[if_neg m1]at es
     by_cases m2:m.tmod 3=2
     ·rw[if_pos m2]at es
      rw[es]at hg hgl
      have hb2:(t++[32]).length+[47,47,32,97,32,114,101,109,97,114,107,10].length<=9223372036854775807:=by simp only[g0r,List.length_append,List.length_cons,List.length_nil]at hgl⊢;omega
      have hb3:(t++[32]++[47,47,32,97,32,114,101,109,97,114,107,10]).length+x.t.length<=9223372036854775807:=by simp only[g0r,List.length_append,List.length_cons,List.length_nil]at hgl⊢;omega
      repeat' (first|refine run ⟨?_⟩|refine b2t pj ?_|refine b2t pt ?_|refine And.intro hb1 ?_|refine And.intro hb2 ?_|refine And.intro hb3 ?_|fail)
      exact⟨(i+1,t++[32]++[47,47,32,97,32,114,101,109,97,114,107,10]++x.t),⟨by show i+1<=_;omega,by simpa [g0r,List.append_assoc] using hg⟩,by show _ - (i+1) < _ - i;omega,by rw[a2x (n:=(i:Int)+1) om];rfl,rfl⟩
     ·rw[if_neg m2]at es
      rw[es]at hg hgl
      have hb3:(t++[32]).length+x.t.length<=9223372036854775807:=by simp only[List.length_append,List.length_cons,List.length_nil]at hgl⊢;omega
      repeat' (first|refine run ⟨?_⟩|refine b2t pj ?_|refine b2t pt ?_|refine And.intro hb1 ?_|refine And.intro hb3 ?_|fail)
      exact⟨(i+1,t++[32]++x.t),⟨by show i+1<=_;omega,by simpa [List.append_assoc] using hg⟩,by show _ - (i+1) < _ - i;omega,by rw[a2x (n:=(i:Int)+1) om];rfl,rfl⟩
   ·have h3:¬ (i:Int) < ((marks.map (D.int .i64)).length:Int):=om
    have es:b3w marks i=[]:=by unfold b3w;rw[if_neg hmk]
    rw[es]at hg hgl
    have hb3:(t++[32]).length+x.t.length<=9223372036854775807:=by simp only[List.length_append,List.length_cons,List.length_nil]at hgl⊢;omega
    repeat' (first|refine run ⟨?_⟩|refine b2t pt ?_|refine And.intro hb1 ?_|refine And.intro hb3 ?_|fail)
    exact⟨(i+1,t++[32]++x.t),⟨by show i+1<=_;omega,by simpa [List.append_assoc] using hg⟩,by show _ - (i+1) < _ - i;omega,by rw[a2x (n:=(i:Int)+1) om];rfl,rfl⟩
  ·have h2:¬ (i:Int) < (((a0l s).1.map TokQ.D).length:Int):=om
   have hie:i=(a0l s).1.length:=om
   rw[hie,List.drop_length,glue,List.append_nil]at hg
   subst hg
   by_cases hl2:65536 < (glue (b3w marks) 0 (a0l s).1).length
   ·have h3:(65536:Int) < ((glue (b3w marks) 0 (a0l s).1).length:Int):=om
    repeat' (first|refine run ⟨?_⟩|refine ca (sp _) ?_|fail)
    exact rfl
   ·have h3:¬ (65536:Int) < ((glue (b3w marks) 0 (a0l s).1).length:Int):=om
    obtain⟨g1,g2⟩:=f6x hc (b3w marks) (d3z marks) om
    have ea:=p1 s
    have eb:=p1 (glue (b3w marks) 0 (a0l s).1)
    obtain⟨k1,k2⟩:=f0u (b0r X .crate s) (b0r X .crate (glue (b3w marks) 0 (a0l s).1)) om om hc g1 g2
    unfold rdV at ea eb
    rw[c3f]at ea eb
    rw[<-k1]at eb
    have al:=fun H=>e0h (fx:=fx) (F:=FW X) H _ _ k2
    have dc:rdC X .crate s=rdC X .crate s:=rfl
    repeat' (first|refine run ⟨?_⟩|refine ca (ea _) ?_|refine ca (eb _) ?_|refine ca (al _) ?_|refine ca (sp _) ?_|fail)
    exact rfl
 ·rfl
end
end Go.Vm.Px
namespace Go.Vm.Pa
open Go.Vm.Lex (TokQ a0l toks b8t a1n e1y c7t d4l a0c a2g after Dg a1b szL)
theorem f2d (r:S):a1b szL (40::r)=⟨4,[40],0,1,0⟩:=by
 have h0:Lex.a2h (40::r)=0:=by rw[Lex.a9l];rfl
 have h1:Lex.a2l (40::r)=[40]:=by
  unfold Lex.a2l
  rw[if_neg,if_pos ⟨by simp,by simp only[Lex.hd0];decide⟩]
  ·rfl
  ·rintro⟨_,h⟩
   cases r with
   |nil=>revert h;decide
   |cons c r=>
    simp only[List.take_succ_cons,List.take_zero,Lex.a9x,List.mem_cons,List.cons.injEq,List.not_mem_nil,or_false]at h
    rcases h with h|h|h|h|h|h|h|h|h<;>exact absurd h.1 (by decide)
 unfold a1b
 rw[h0,h1,if_neg (by simp),if_neg (by simp),if_pos (by simp)]
 rfl
def e4v (l:List TokQ) (p:Nat):List TokQ:=⟨4,[40],0,0,1⟩::((l.map (d4l 1)).dropLast++[⟨4,[41],0,p+1,p+2⟩,⟨5,[],0,p+2,p+2⟩])
theorem g3u {s:S} (h:(a0l s).2.c=0) (hl:s.length<=60000):a0l (40::(s++[10,41]))=(e4v (a0l s).1 (1+s.length),Dg.ok):=by
 obtain⟨_,hv,h3,_,_,_⟩:=Lex.a6g s h
 have hv2:Lex.Val (40::(s++[10,41])):=by
  rw[Lex.c3y (by decide)]
  exact Lex.g0o _ s _ (Nat.le_refl _) hv (Lex.c4z _ (by decide))
 rw[Lex.d6b (by simp;omega) hv2]
 have hsk:a0c false (40::(s++[10,41]))=0:=by
  rw[a2g,if_neg (by decide),if_neg (by simp)]
 rw[b8t 0 ⟨4,[40],0,1,0⟩ hsk (f2d _) rfl (by simp)]
 have hd:List.drop (0+(⟨4,[40],0,1,0⟩:Lex.Tk).n) (40::(s++[10,41]))=s++10::[41]:=rfl
 rw[hd]
 have hs:=c7t 1 _ 0 s (Nat.le_refl _)
 rw[Nat.zero_add]at hs
 have hc0:(toks 0 s).2.c=0:=by rw[<-h3];exact h
 rw[show 0+(0+(⟨4,[40],0,1,0⟩:Lex.Tk).n)=1 from rfl,(e1y [41] _ 1 s (Nat.le_refl _) hv).1 (by rw[hs.2];exact hc0),hs.1,<-h3]
 have he:toks (1+s.length) [10,41]=([⟨4,[41],0,1+s.length+1,1+s.length+2⟩,⟨5,[],0,1+s.length+2,1+s.length+2⟩],Dg.ok):=by
  have t41:a1b szL (List.drop 1 [10,41])=⟨4,[41],0,1,0⟩:=by
   obtain⟨a,b,c,d,e,_⟩:=Lex.c8j 41 (by decide)
   exact Lex.f0f a b c d e
  rw[b8t 1 ⟨4,[41],0,1,0⟩ (by decide) t41 rfl (by decide),a1n _ (by decide)]
  rfl
 rw[he]
 simp[after,Dg.ok,e4v]
structure TkB (l l':List TokQ) (m:Nat):Prop where
 len:l.length=m+1
 len':l'.length=m+3
 le:m<=70000
 eq:∀ i,i < m->(l.getD i default).k=(l'.getD (i+1) default).k/\(l.getD i default).t=(l'.getD (i+1) default).t/\(l.getD i default).v=(l'.getD (i+1) default).v
 k5:∀ i,i < m->(l.getD i default).k≠5
 en:(l.getD m default).k=5/\(l.getD m default).t=[]/\(l.getD m default).v=0
 br:(l'.getD (m+1) default).k=4/\(l'.getD (m+1) default).t=[41]/\(l'.getD (m+1) default).v=0
 en':(l'.getD (m+2) default).k=5
 op:(l'.getD 0 default).k=4/\(l'.getD 0 default).t=[40]
theorem e0j:∀ {l:List TokQ},Row l->∃ m,l.length=m+1/\(l.getD m default).k=5/\(l.getD m default).t=[]/\(l.getD m default).v=0/\∀ i,i < m->(l.getD i default).k≠5
 |[],h=>h.elim
 |[x],h=>⟨0,rfl,h.1,h.2.1,h.2.2,fun i hi=>om⟩
 |x::y::r,h=>by
  obtain⟨h1,_,_,h4⟩:=c9o h
  obtain⟨m,q1,q2,q3,q4,q5⟩:=e0j h4
  refine⟨m+1,by rw[List.length_cons,q1],q2,q3,q4,fun i hi=>?_⟩
  cases i with
  |zero=>exact h1
  |succ i=>exact q5 i om
theorem g2n {s:S} (h:(a0l s).2.c=0) (p:Nat):∃ m,TkB (a0l s).1 (e4v (a0l s).1 p) m:=by
 obtain⟨m,q1,q2,q3,q4,q5⟩:=e0j (e1r h)
 have hle:=Lex.d8k s
 generalize(a0l s).1=l at*
 have hd:((l.map (d4l 1)).dropLast).length=m:=by simp[q1]
 refine⟨m,q1,by simp[e4v,q1],om,fun i hi=>?_,q5,⟨q2,q3,q4⟩,?_,?_,rfl,rfl⟩
 ·have e:(e4v l p).getD (i+1) default=d4l 1 (l.getD i default):=by
   unfold e4v
   rw[List.getD_cons_succ,List.getD_eq_getElem?_getD,List.getElem?_append_left om,List.getElem?_dropLast,if_pos (by simp;omega),List.getElem?_map,List.getD_eq_getElem?_getD,List.getElem?_eq_getElem om]
   rfl
  rw[e]
  exact⟨rfl,rfl,rfl⟩
 ·have e:(e4v l p).getD (m+1) default=⟨4,[41],0,p+1,p+2⟩:=by
   unfold e4v
   rw[List.getD_cons_succ,List.getD_eq_getElem?_getD,List.getElem?_append_right om,hd,Nat.sub_self]
   rfl
  rw[e]
  exact⟨rfl,rfl,rfl⟩
 ·have e:(e4v l p).getD (m+2) default=⟨5,[],0,p+2,p+2⟩:=by
   unfold e4v
   rw[List.getD_cons_succ,List.getD_eq_getElem?_getD,List.getElem?_append_right om,hd,show m+1 - m=1 by omega]
   rfl
  rw[e]
end Go.Vm.Pa
namespace Go.Vm.Pa
open Go.Vm.Lex (TokQ a0l)
def shQ (d:Int):Q->Q
 | .typed fr=> .typed (fr+d)
 | .let_ fr=> .let_ (fr+d)
 | .blocky fr=> .blocky (fr+d)
 | .patterned fr=> .patterned (fr+d)
 | .named fr b=> .named (fr+d) b
 | .rows r b fr a=> .rows r b (fr+d) a
 | .gets fr a=> .gets (fr+d) a
 |q=>q
def g1d:Q->Prop
 | .items _=>False
 |_=>True
def StkQ:Q->Prop
 | .expr _| .param=>True
 |_=>False
def Stk:Pr->Prop
 | .call q _=>StkQ q
 |_=>False
inductive ShP (d:Int):Pr->Pr->Prop
 |ret (r:R):ShP d (.ret r) (.ret r)
 |dead:ShP d .dead .dead
 |fail (k k':Pr):ShP d (.fail k) (.fail k')
 |take (x:S) (k k':Bool->Pr) (h:x=[41]->Stk (k false)) (ht:ShP d (k true) (k' true)) (hf:ShP d (k false) (k' false)):ShP d (.take x k) (.take x k')
 |is (x:S) (k k':Bool->Pr) (h:x=[41]->Stk (k false)) (ht:ShP d (k true) (k' true)) (hf:ShP d (k false) (k' false)):ShP d (.is x k) (.is x k')
 |ok (k k':Bool->Pr) (ht:ShP d (k true) (k' true)):ShP d (.ok k) (.ok k')
 |into (c:Int) (k k':Bool->Pr) (ht:ShP d (k true) (k' true)):ShP d (.into c k) (.into c k')
 |kind (c:Int) (k k':Bool->Pr) (h:c=1\/c=3) (ht:ShP d (k true) (k' true)) (hf:ShP d (k false) (k' false)):ShP d (.kind c k) (.kind c k')
 |text (x:S) (k k':Bool->Pr) (h:x≠[]/\x≠[41]) (ht:ShP d (k true) (k' true)) (hf:ShP d (k false) (k' false)):ShP d (.text x k) (.text x k')
 |need (x:S) (k k':Pr) (h:ShP d k k'):ShP d (.need x k) (.need x k')
 |down (k k':Pr) (h:ShP d k k'):ShP d (.down k) (.down k')
 |adv (k k':Pr) (h:ShP d k k'):ShP d (.adv k) (.adv k')
 |name (k k':S->Pr) (h:∀ t,ShP d (k t) (k' t)):ShP d (.name k) (.name k')
 |sign (r:Int) (k k':S->Pr) (h:∀ t,ShP d (k t) (k' t)):ShP d (.sign r k) (.sign r k')
 |val (k k':Int->Pr) (h:∀ t,ShP d (k t) (k' t)):ShP d (.val k) (.val k')
 |unit (k k':Int->Pr) (h:∀ t,ShP d (k t) (k' t)):ShP d (.unit k) (.unit k')
 |node (fr:Int) (n:N) (k k':Int->Pr) (h:∀ t,ShP d (k t) (k' t)):ShP d (.node fr n k) (.node (fr+d) n k')
 |pos (k k':Int->Pr) (h:∀ t,ShP d (k t) (k' (t+d))):ShP d (.pos k) (.pos k')
 |call (q:Q) (k k':R->Pr) (hq:g1d q) (h:∀ t,ShP d (k t) (k' t)):ShP d (.call q k) (.call (shQ d q) k')
 |tail (q:Q) (hq:g1d q):ShP d (.tail q) (.tail (shQ d q))
theorem f4f {d:Int} {b:Bool} {p p':Pr} (h:ShP d p p'):ShP d (guard b p) (guard b p'):=by
 cases b
 ·exact .dead
 ·exact h
theorem i0n {d:Int} (q:Q) (k k':R->Pr) (e:shQ d q=q) (hq:g1d q) (h:∀ t,ShP d (k t) (k' t)):ShP d (.call q k) (.call q k'):=by
 have:=ShP.call (d:=d) q k k' hq h
 rwa [e]at this
theorem h8e {d:Int} (q:Q) (e:shQ d q=q) (hq:g1d q):ShP d (.tail q) (.tail q):=by
 have:=ShP.tail (d:=d) q hq
 rwa [e]at this
theorem g3w (d:Int) (q:Q) (h:g1d q):ShP d (prog q) (prog (shQ d q)):=by
 cases q
 all_goals first|exact h.elim|skip
 all_goals(
   simp only[shQ,prog,c6i,f8r,newP,d7a,rowP,mkP,endP]
   repeat' (first
     |dsimp only
     |exact trivial
     |exact ShP.ret _
     |exact ShP.dead
     |exact ShP.fail _ _
     |refine f4f ?_
     |refine ShP.take _ _ _ (fun h=>by first|exact trivial|(exact absurd h (by decide))) ?_ ?_
     |refine ShP.is _ _ _ (fun h=>by first|exact trivial|(exact absurd h (by decide))) ?_ ?_
     |refine ShP.ok _ _ ?_
     |refine ShP.into _ _ _ ?_
     |refine ShP.kind _ _ _ (by decide) ?_ ?_
     |refine ShP.text _ _ _ (by decide) ?_ ?_
     |refine ShP.need _ _ _ ?_
     |refine ShP.down _ _ ?_
     |refine ShP.adv _ _ ?_
     |refine ShP.name _ _ fun _=>?_
     |refine ShP.sign _ _ _ fun _=>?_
     |refine ShP.val _ _ fun _=>?_
     |refine ShP.unit _ _ fun _=>?_
     |refine ShP.node _ _ _ _ fun _=>?_
     |refine ShP.pos _ _ fun _=>?_
     |refine i0n _ _ _ rfl trivial fun _=>?_
     |refine ShP.call _ _ _ trivial fun _=>?_
     |exact h8e _ rfl trivial
     |exact ShP.tail _ trivial
     |split
     |fail))
end Go.Vm.Pa
namespace Go.Vm.Pa
open Go.Vm.Lex (TokQ a0l)
theorem w_w (a b:Int):w (w a+b)=w (a+b):=by
 simp only[w,IntKind.wrap,IntKind.bits,IntKind.signed];simp;omega
structure BrS (m:Nat) (s s':PS):Prop where
 lo:0<=s.at_
 hi:s.at_<=m
 at_:s'.at_=s.at_+1
 deep:s'.deep=w (s.deep+1)
 n:s.n=s'.n
 ns:s.ns.map b0l=s'.ns.map b0l
 b:s.bc=0
 b':s'.bc=0
def BrE (m:Nat) (x y:Option EX):Prop:=∀ r s1,x=some (.ok r s1)->(∃ s1',y=some (.ok r s1')/\BrS m s1 s1')\/∃ f e,y=some (.bad 121 f e)
theorem b3e {m:Nat} {l:List TokQ} {c:Int} {s:PS} {y:Option EX}:BrE m (c9y l c s) y:=fun r s1 h=>by simp only[c9y]at h;cases h
theorem b0f {m:Nat} {y:Option EX}:BrE m none y:=fun r s1 h=>by cases h
section
variable {l l':List TokQ} {m:Nat} (T:TkB l l' m) {s s':PS} (h:BrS m s s')
include T h
theorem e3a (hlt:s.at_ < m):(now l s).k=(now l' s').k/\(now l s).t=(now l' s').t/\(now l s).v=(now l' s').v:=by
 have:=T.eq s.at_.toNat (by have:=h.lo;omega)
 unfold now
 rw[h.at_,show(s.at_+1).toNat=s.at_.toNat+1 by have:=h.lo;omega]
 exact this
theorem d1s (he:¬ s.at_ < m):((now l s).k=5/\(now l s).t=[]/\(now l s).v=0)/\(now l' s').k=4/\(now l' s').t=[41]/\(now l' s').v=0:=by
 have e:s.at_=m:=by have:=h.hi;omega
 unfold now
 rw[h.at_,e,show((m:Int)+1).toNat=m+1 by omega,Int.toNat_natCast]
 exact⟨T.en,T.br⟩
theorem g5c (hlt:s.at_ < m) (x:S):isS l s x=isS l' s' x:=by
 obtain⟨h1,h2,_⟩:=e3a T h hlt
 unfold isS;rw[h1,h2]
theorem d4s (he:¬ s.at_ < m) (x:S):isS l s x=false/\isS l' s' x=decide (x=[41]):=by
 obtain⟨⟨h1,h2,_⟩,h3,h4,_⟩:=d1s T h he
 unfold isS
 rw[h1,h3,h4]
 refine⟨by simp,?_⟩
 rw[Bool.eq_iff_iff]
 simp[eq_comm]
theorem f4v (hlt:s.at_ < m):BrS m (adv s) (adv s'):=by
 have hm:=T.le
 have h0:=h.lo
 have e1:(adv s).at_=s.at_+1:=a2x (n:=s.at_+1) om
 have e2:(adv s').at_=s'.at_+1:=a2x (n:=s'.at_+1) (by have:=h.at_;omega)
 exact⟨om,om,by rw[e1,e2,h.at_],h.deep,h.n,h.ns,h.b,h.b'⟩
theorem e9t (hlt:s.at_ < m) (c:Int):a1e l c s=a1e l' c s':=by
 have ha:∀ xs,anyS l s xs=anyS l' s' xs:=fun xs=>by
   unfold anyS
   rw[show isS l s=isS l' s' from funext (g5c T h hlt)]
 unfold a1e
 rw[(e3a T h hlt).1,ha,ha,ha,g5c T h hlt]
theorem e0p (he:¬ s.at_ < m) (c:Int):a1e l c s=false:=by
 have hk:=(d1s T h he).1.1
 have ha:∀ xs,anyS l s xs=false:=fun xs=>by
   unfold anyS
   rw[List.any_eq_false]
   intro x _
   rw[(d4s T h he x).1];simp
 unfold a1e
 rw[hk,ha,ha,ha,(d4s T h he _).1]
 simp
theorem h0p (r:Int):a7p l r s=a7p l' r s':=by
 have o1:okB s=true:=by simp[okB,h.b]
 have o2:okB s'=true:=by simp[okB,h.b']
 by_cases hlt:s.at_ < m
 ·unfold a7p
  rw[show(fun x=>okB s && isS l s x)=(fun x=>okB s' && isS l' s' x)from funext fun x=>by rw[o1,o2,g5c T h hlt x]]
 ·have h1:a7p l r s=[]:=by
   unfold a7p
   rw[List.find?_eq_none.2 fun x _=>by rw[(d4s T h hlt x).1];simp]
   rfl
  have h2:a7p l' r s'=[]:=by
   unfold a7p
   rw[List.find?_eq_none.2 fun x hx=>by
     rw[(d4s T h hlt x).2]
     have:x≠[41]:=fun e=>by
       subst e
       unfold b9w at hx
       split at hx
       ·revert hx;decide
       ·split at hx
        ·revert hx;decide
        ·split at hx
         ·revert hx;decide
         ·split at hx
          ·revert hx;decide
          ·revert hx;decide
     simp[this]]
   rfl
  rw[h1,h2]
theorem g8r {fr:Int} (n:N) {i:Int} {s1:PS} (e:a2p l fr n s=some (i,s1)):∃ s1',a2p l' (fr+1) n s'=some (i,s1')/\BrS m s1 s1':=by
 have hl:s.ns.length=s'.ns.length:=by have:=congrArg List.length h.ns;simpa using this
 have hm:=T.le
 have h0:=h.lo
 have h1:=h.hi
 have h2:=h.at_
 have e1:=T.len
 have e2:=T.len'
 unfold a2p at e⊢
 split at e
 ·rename_i c
  obtain⟨c1,c2,c3,c4⟩:=c
  simp only[Option.some.injEq,Prod.mk.injEq]at e
  obtain⟨rfl,rfl⟩:=e
  unfold okF at c3 c4
  simp only[Bool.and_eq_true,decide_eq_true_eq]at c3 c4
  have w1:w (s'.at_ - 1)=s'.at_ - 1:=a2x om
  rw[if_pos,show w (((s.n+1:Nat):Int) - 1)=w (((s'.n+1:Nat):Int) - 1)by rw[h.n]]
  ·refine⟨_,rfl,⟨h0,h1,h2,h.deep,?_,?_,h.b,h.b'⟩⟩<;>first|(show s.n+1=s'.n+1;rw[h.n])|skip
   show(s.ns++[_]).map b0l=(s'.ns++[_]).map b0l
   rw[List.map_append,List.map_append,h.ns]
   rfl
  ·refine⟨by rw[<-hl,<-h.n];exact c1,by rw[<-h.n];exact c2,?_,fun hh=>?_⟩
   ·unfold okF;simp only[Bool.and_eq_true,decide_eq_true_eq];omega
   ·unfold okF;simp only[Bool.and_eq_true,decide_eq_true_eq];rw[w1];omega
 ·cases e
theorem g9v {i:Int} {s1:PS} (e:a6p l s=some (i,s1)):∃ s1',a6p l' s'=some (i,s1')/\BrS m s1 s1':=by
 have hl:s.ns.length=s'.ns.length:=by have:=congrArg List.length h.ns;simpa using this
 have hm:=T.le
 have h0:=h.lo
 have h1:=h.hi
 have h2:=h.at_
 have e2:=T.len'
 unfold a6p at e⊢
 split at e
 ·rename_i c
  obtain⟨c1,c2,c3⟩:=c
  simp only[Option.some.injEq,Prod.mk.injEq]at e
  obtain⟨rfl,rfl⟩:=e
  have w1:w (s'.at_ - 1)=s'.at_ - 1:=a2x om
  rw[if_pos,show w (((s.n+1:Nat):Int) - 1)=w (((s'.n+1:Nat):Int) - 1)by rw[h.n]]
  ·refine⟨_,rfl,⟨h0,h1,h2,h.deep,?_,?_,h.b,h.b'⟩⟩<;>first|(show s.n+1=s'.n+1;rw[h.n])|skip
   show(s.ns++[_]).map b0l=(s'.ns++[_]).map b0l
   rw[List.map_append,List.map_append,h.ns]
   rfl
  ·refine⟨by rw[<-hl,<-h.n];exact c1,by rw[<-h.n];exact c2,?_⟩
   unfold okF;simp only[Bool.and_eq_true,decide_eq_true_eq];rw[w1];omega
 ·cases e
end
section
variable {l l':List TokQ} {m:Nat} (T:TkB l l' m)
include T
def h7u (l:List TokQ) (g:Q->PS->Option EX):Prop:=∀ q s r s1,StkQ q->(now l s).k=5->g q s≠some (.ok r s1)
theorem e5e {g:Q->PS->Option EX} (hs:h7u l g) {p:Pr} {s:PS} (hp:Stk p) (hk:(now l s).k=5) {r:R} {s1:PS} (h:a0a l g p s=some (.ok r s1)):False:=by
 have _u:=T
 cases p with
 |call q k=>
  simp only[a0a]at h
  cases hq:g q s with
  |none=>rw[hq]at h;cases h
  |some x=>cases x with
   |bad c f e=>rw[hq]at h;cases h
   |ok r2 s2=>exact hs q s r2 s2 hp hk hq
 |_=>exact hp.elim
theorem g8s {g g':Q->PS->Option EX} (hs:h7u l g) (hg:∀ q s s',g1d q->BrS m s s'->BrE m (g q s) (g' (shQ 1 q) s')):∀ {p p':Pr},ShP 1 p p'->∀ {s s':PS},BrS m s s'->BrE m (a0a l g p s) (a0a l' g' p' s'):=by
 intro p p' hp
 induction hp with
 |ret r=>intro s s' h r1 s1 e;simp only[a0a,Option.some.injEq,EX.ok.injEq]at e;obtain⟨rfl,rfl⟩:=e;exact .inl ⟨s',rfl,h⟩
 |dead=>intro s s' h;exact b0f
 |fail k k'=>intro s s' h;exact b3e
 |take x k k' hx _ _ iht ihf=>
  intro s s' h
  simp only[a0a]
  by_cases hlt:s.at_ < m
  ·rw[g5c T h hlt x]
   cases isS l' s' x with
   |true=>exact iht (f4v T h hlt)
   |false=>exact ihf h
  ·obtain⟨h1,h2⟩:=d4s T h hlt x
   rw[h1,h2]
   by_cases hc:x=[41]
   ·intro r s1 e
    exact(e5e T hs (hx hc) (d1s T h hlt).1.1 e).elim
   ·rw[decide_eq_false hc];exact ihf h
 |is x k k' hx _ _ iht ihf=>
  intro s s' h
  simp only[a0a]
  by_cases hlt:s.at_ < m
  ·rw[g5c T h hlt x]
   cases isS l' s' x with
   |true=>exact iht h
   |false=>exact ihf h
  ·obtain⟨h1,h2⟩:=d4s T h hlt x
   rw[h1,h2]
   by_cases hc:x=[41]
   ·intro r s1 e
    exact(e5e T hs (hx hc) (d1s T h hlt).1.1 e).elim
   ·rw[decide_eq_false hc];exact ihf h
 |need x k k' _ ih=>
  intro s s' h
  simp only[a0a]
  by_cases hlt:s.at_ < m
  ·rw[g5c T h hlt x]
   cases isS l' s' x with
   |true=>exact ih (f4v T h hlt)
   |false=>exact b3e
  ·rw[(d4s T h hlt x).1];exact b3e
 |name k k' _ ih=>
  intro s s' h
  simp only[a0a]
  by_cases hlt:s.at_ < m
  ·obtain⟨h1,h2,_⟩:=e3a T h hlt
   rw[h1,h2]
   cases decide ((now l' s').k=1)with
   |true=>exact ih _ (f4v T h hlt)
   |false=>exact b3e
  ·rw[(d1s T h hlt).1.1];exact b3e
 |ok k k' _ iht=>intro s s' h;exact iht h
 |kind c k k' hc _ _ iht ihf=>
  intro s s' h
  simp only[a0a]
  by_cases hlt:s.at_ < m
  ·rw[(e3a T h hlt).1]
   cases decide ((now l' s').k=c)with
   |true=>exact iht h
   |false=>exact ihf h
  ·obtain⟨⟨h1,_⟩,h2,_⟩:=d1s T h hlt
   rw[h1,h2,decide_eq_false om,decide_eq_false om]
   exact ihf h
 |text x k k' hc _ _ iht ihf=>
  intro s s' h
  simp only[a0a]
  by_cases hlt:s.at_ < m
  ·rw[(e3a T h hlt).2.1]
   cases decide ((now l' s').t=x)with
   |true=>exact iht h
   |false=>exact ihf h
  ·obtain⟨⟨_,h1,_⟩,_,h2,_⟩:=d1s T h hlt
   rw[h1,h2,decide_eq_false (fun e=>hc.1 e.symm),decide_eq_false (fun e=>hc.2 e.symm)]
   exact ihf h
 |val k k' _ ih=>
  intro s s' h
  simp only[a0a]
  have e:(now l s).v=(now l' s').v:=by
   by_cases hlt:s.at_ < m
   ·exact(e3a T h hlt).2.2
   ·obtain⟨⟨_,_,h1⟩,_,_,h2⟩:=d1s T h hlt
    rw[h1,h2]
  rw[e]
  exact ih _ h
 |sign r k k' _ ih=>intro s s' h;simp only[a0a];rw[h0p T h r];exact ih _ h
 |pos k k' _ ih=>intro s s' h;simp only[a0a];rw[h.at_];exact ih _ h
 |down k k' _ ih=>
  intro s s' h
  exact ih (s:=down s) (s':=down s') ⟨h.lo,h.hi,h.at_,by
    show w (s'.deep - 1)=w (w (s.deep - 1)+1)
    rw[h.deep,show w (s.deep+1) - 1=w (s.deep+1)+ -1 by omega,w_w,w_w]
    congr 1
    omega,h.n,h.ns,h.b,h.b'⟩
 |adv k k' _ ih=>
  intro s s' h
  simp only[a0a]
  by_cases hlt:s.at_ < m
  ·have h2:=f4v T h hlt
   have h3:okS l' (adv s')=true:=by
    have:=h2.lo;have:=h2.hi;have:=h2.at_;have:=T.len'
    unfold okS;simp only[Bool.and_eq_true,decide_eq_true_eq];omega
   rw[h3]
   cases okS l (adv s)with
   |true=>exact ih h2
   |false=>exact b0f
  ·have h3:okS l (adv s)=false:=by
    have hm:=T.le
    have h0:=h.lo
    have h1:=h.hi
    have e1:(adv s).at_=s.at_+1:=a2x (n:=s.at_+1) om
    have:=T.len
    unfold okS
    rw[e1,decide_eq_false (show ¬ s.at_+1 < (l.length:Int)by omega),Bool.and_false]
   rw[h3];exact b0f
 |into c k k' _ ih=>
  intro s s' h
  simp only[a0a]
  by_cases hlt:s.at_ < m
  ·rw[e9t T h hlt c]
   cases a1e l' c s' with
   |false=>exact b3e
   |true=>
    simp only
    cases hd:decide (100<=s.deep)with
    |true=>exact b3e
    |false=>
     cases hd':decide (100<=s'.deep)with
     |true=>intro r s1 _;exact .inr ⟨_,_,rfl⟩
     |false=>
      exact ih (s:=a3h s) (s':=a3h s') ⟨h.lo,h.hi,h.at_,by
        show w (s'.deep+1)=w (w (s.deep+1)+1)
        rw[h.deep],h.n,h.ns,h.b,h.b'⟩
  ·rw[e0p T h hlt c];exact b3e
 |node fr n k k' _ ih=>
  intro s s' h
  simp only[a0a]
  cases hn:a2p l fr n s with
  |none=>exact b0f
  |some x=>
   obtain⟨i,s1⟩:=x
   obtain⟨s1',h1,h2⟩:=g8r T h n hn
   rw[h1]
   exact ih i h2
 |unit k k' _ ih=>
  intro s s' h
  simp only[a0a]
  cases hn:a6p l s with
  |none=>exact b0f
  |some x=>
   obtain⟨i,s1⟩:=x
   obtain⟨s1',h1,h2⟩:=g9v T h hn
   rw[h1]
   exact ih i h2
 |call q k k' hq _ ih=>
  intro s s' h
  simp only[a0a]
  have hh:=hg q s s' hq h
  cases hx:g q s with
  |none=>exact b0f
  |some x=>
   cases x with
   |bad c f e=>intro r s1 e;cases e
   |ok r2 s2=>
    rcases hh r2 s2 hx with⟨s2',h1,h2⟩|⟨f,e,h1⟩
    ·rw[h1]
     simp only
     have h3:okS l' s2'=true:=by
      have:=h2.lo;have:=h2.hi;have:=h2.at_;have:=T.len'
      unfold okS;simp only[Bool.and_eq_true,decide_eq_true_eq];omega
     rw[h3]
     cases okS l s2 with
     |true=>exact ih r2 h2
     |false=>exact b0f
    ·rw[h1]
     intro r s1 _
     exact .inr ⟨f,e,rfl⟩
 |tail q hq=>intro s s' h;exact hg q s s' hq h
theorem g7r:∀ n,h7u l (goE l n)
 |0=>fun q s r s1 _ _ h=>by have _u:=T;cases h
 |n+1=>fun q s r s1 hq hk h=>by
  have h:a0a l (goE l n) (prog q) s=some (.ok r s1):=h
  have hi:∀ x,isS l s x=false:=fun x=>by unfold isS;rw[hk];simp
  cases q with
  |expr b=>
   simp only[prog,c6i,a0a]at h
   have hb:a1e l 101 s=false:=by
    have ha:∀ xs,anyS l s xs=false:=fun xs=>by
     unfold anyS
     rw[List.any_eq_false]
     intro x _
     rw[hi];simp
    unfold a1e
    rw[hk,ha,ha,ha,hi]
    simp
   rw[hb]at h
   simp only[c9y]at h
   cases h
  |param=>
   simp only[prog,a0a,hi,hk]at h
   simp only[c9y]at h
   cases h
  |_=>exact hq.elim
theorem h2t:∀ (n:Nat) (q:Q) (s s':PS),g1d q->BrS m s s'->BrE m (goE l n q s) (goE l' n (shQ 1 q) s')
 |0,_,_,_,_,_=>b0f
 |n+1,q,s,s',hq,h=>g8s T (g7r T n) (fun q s s' hq h=>h2t n q s s' hq h) (g3w 1 q hq) h
end
end Go.Vm.Pa
namespace Go.Vm.Pa
open Go.Vm.Lex (TokQ a0l)
section
variable {l l':List TokQ} {m n:Nat} (T:TkB l l' m)
include T
abbrev s00:PS:=a3h S0
abbrev sAA:PS:=adv s00
theorem at0:s00.at_=0/\sAA.at_=1/\s00.deep=1/\sAA.deep=1:=by
 have _u:=T
 exact⟨rfl,by decide,by decide,by decide⟩
theorem h8g:(now l' s00).k=4/\(now l' s00).t=[40]:=T.op
theorem is0 (x:S):isS l' s00 x=decide (x=[40]):=by
 obtain⟨h1,h2⟩:=h8g T
 unfold isS
 rw[h1,h2,Bool.eq_iff_iff]
 simp[eq_comm]
theorem ok0:okS l' s00=true/\okS l' S0=true/\okS l' sAA=true:=by
 have h:=T.len'
 obtain⟨h1,h2,_⟩:=at0 T
 refine⟨?_,?_,?_⟩
 ·unfold okS;rw[h1];simp only[Bool.and_eq_true,decide_eq_true_eq];omega
 ·unfold okS;simp only[Bool.and_eq_true,decide_eq_true_eq];omega
 ·unfold okS;rw[h2];simp only[Bool.and_eq_true,decide_eq_true_eq];omega
theorem h8h:BrS m S0 sAA:=by
 have _u:=T
 exact⟨Int.le_refl _,by show(0:Int)<=m;omega,by decide,by decide,rfl,rfl,rfl,rfl⟩
theorem is1 {r:R} {s1:PS} (h:goE l n (.expr false) S0=some (.ok r s1)):isS l' sAA [41]=false:=by
 cases n with
 |zero=>cases h
 |succ n=>
  have h:a0a l (goE l n) (prog (.expr false)) S0=some (.ok r s1):=h
  simp only[prog,c6i,a0a]at h
  cases hb:a1e l 101 S0 with
  |false=>rw[hb]at h;simp only[c9y]at h;cases h
  |true=>
   have hlt:S0.at_ < m:=Classical.byContradiction fun e=>by
     rw[e0p T (h8h T) e]at hb;cases hb
   rw[e9t T (h8h T) hlt]at hb
   cases hi:isS l' sAA [41] with
   |false=>rfl
   |true=>
    exfalso
    unfold isS at hi
    simp only[Bool.and_eq_true,Bool.or_eq_true,decide_eq_true_eq]at hi
    obtain⟨h1,h2⟩:=hi
    unfold a1e at hb
    have hx:anyS l' sAA e3j=false:=by
     unfold anyS isS
     rw[h2]
     simp[e3j]
    rw[hx]at hb
    simp only[show((101:Int)=116)=False by simp,if_false,if_true,Bool.or_false,Bool.or_eq_true,decide_eq_true_eq]at hb
    omega
structure Beh (m:Nat) (s:PS):Prop where
 at_:s.at_=m+2
 b:s.bc=0
theorem b6i {s:PS} (h:Beh m s):okS l' s=true/\(now l' s).k=5/\∀ x,isS l' s x=false:=by
 have hk:(now l' s).k=5:=by
  unfold now
  rw[h.at_,show((m:Int)+2).toNat=m+2 by omega]
  exact T.en'
 refine⟨?_,hk,fun x=>by unfold isS;rw[hk];simp⟩
 have:=T.len'
 unfold okS;rw[h.at_];simp only[Bool.and_eq_true,decide_eq_true_eq];omega
theorem f3s {s:PS} (h:Beh m s) (r:Int):a7p l' r s=[]:=by
 unfold a7p
 rw[List.find?_eq_none.2 fun x _=>by rw[(b6i T h).2.2 x];simp]
 rfl
theorem f9v {r:R} {s1:PS} {s':PS} (h:goE l n (.expr false) S0=some (.ok r s1)) (hy:goE l' n (.expr false) sAA=some (.ok r s')) (hi:isS l' s' [41]=true) (ho:okS l' s'=true):goE l' (n+1) (.primary false) s00=some (.ok (rI r.i) (adv s')):=by
 show a0a l' (goE l' n) (prog (.primary false)) s00=_
 have hk:decide ((now l' s00).k=3)=false:=by rw[(h8g T).1];rfl
 simp only[prog,a0a,is0 T,hk]
 simp only[show decide (([116,114,117,101]:S)=[40])=false by decide,show decide (([102,97,108,115,101]:S)=[40])=false by decide,show decide (([40]:S)=[40])=true by decide,a0a,is1 T h,decide_true]
 rw[hy]
 simp only[ho,a0a,hi]
theorem f6z {r:R} {s1:PS} {f e:Int} (h:goE l n (.expr false) S0=some (.ok r s1)) (hy:goE l' n (.expr false) sAA=some (.bad 121 f e)):goE l' (n+1) (.primary false) s00=some (.bad 121 f e):=by
 show a0a l' (goE l' n) (prog (.primary false)) s00=_
 have hk:decide ((now l' s00).k=3)=false:=by rw[(h8g T).1];rfl
 simp only[prog,a0a,is0 T,hk]
 simp only[show decide (([116,114,117,101]:S)=[40])=false by decide,show decide (([102,97,108,115,101]:S)=[40])=false by decide,show decide (([40]:S)=[40])=true by decide,a0a,is1 T h,decide_true]
 rw[hy]
theorem g0a {N:Nat} {i:Int} {s:PS} (hs:Beh m s) (h:goE l' (N+1) (.primary false) s00=some (.ok (rI i) s)):goE l' (N+2) (.postfix_ false) s00=some (.ok (rI i) s):=by
 show a0a l' (goE l' (N+1)) (prog (.postfix_ false)) s00=_
 simp only[prog,a0a,h,(b6i T hs).1]
 rw[show goE l' (N+1) (.gets s00.at_ i) s=some (.ok (rI i) s)from by
   show a0a l' (goE l' N) (prog (.gets s00.at_ i)) s=_
   simp only[prog,a0a,(b6i T hs).2.2]]
 simp only[(b6i T hs).1,a0a]
theorem f2s {N:Nat} {f e:Int} (h:goE l' (N+1) (.primary false) s00=some (.bad 121 f e)):goE l' (N+2) (.postfix_ false) s00=some (.bad 121 f e):=by
 have _u:=T
 show a0a l' (goE l' (N+1)) (prog (.postfix_ false)) s00=_
 simp only[prog,a0a,h]
theorem e6l {N:Nat}:goE l' (N+1) (.prefix_ false) s00=a0a l' (goE l' N) (.call (.postfix_ false) .ret) s00:=by
 show a0a l' (goE l' N) (prog (.prefix_ false)) s00=_
 simp only[prog,a0a,is0 T]
 simp only[show decide (([45]:S)=[40])=false by decide,show decide (([33]:S)=[40])=false by decide,show decide (([42]:S)=[40])=false by decide,show decide (([38]:S)=[40])=false by decide,a0a]
theorem rows_ok {N:Nat} {r p i:Int} {s:PS} (hs:Beh m s):goE l' (N+1) (.rows r false p i) s=some (.ok (rI i) s):=by
 show a0a l' (goE l' N) (prog (.rows r false p i)) s=_
 simp only[prog,a0a,f3s T hs]
 simp only[decide_true,Bool.not_true,a0a]
theorem d1f {N:Nat} {r i:Int} {s:PS} (hs:Beh m s) (hr:0<=r/\r < 5) (h:goE l' (N+1) (.row (r+1) false) s00=some (.ok (rI i) s)):goE l' (N+2) (.row r false) s00=some (.ok (rI i) s):=by
 show a0a l' (goE l' (N+1)) (prog (.row r false)) s00=_
 have hw:w (r+1)=r+1:=a2x om
 simp only[prog,decide_eq_false (show ¬ r=5 by omega),hw,a0a,h,(b6i T hs).1]
 rw[rows_ok T hs]
 simp only[(b6i T hs).1,a0a]
theorem c6l {N:Nat} {r f e:Int} (hr:0<=r/\r < 5) (h:goE l' (N+1) (.row (r+1) false) s00=some (.bad 121 f e)):goE l' (N+2) (.row r false) s00=some (.bad 121 f e):=by
 have _u:=T
 show a0a l' (goE l' (N+1)) (prog (.row r false)) s00=_
 have hw:w (r+1)=r+1:=a2x om
 simp only[prog,decide_eq_false (show ¬ r=5 by omega),hw,a0a,h]
theorem h2c:a1e l' 101 S0=true:=by
 have h:isS l' S0 [40]=true:=by
  have:=is0 T [40]
  rw[decide_eq_true rfl]at this
  exact this
 unfold a1e anyS
 simp[e3j,h]
theorem f6b {r:R} {s1:PS} (h:goE l n (.expr false) S0=some (.ok r s1)) (hk:(now l s1).k=5) (h0:0<=s1.at_) (hl1:s1.at_ < l.length):(∃ r' s2,goE l' (n+10) (.expr false) S0=some (.ok r' s2)/\(now l' s2).k=5/\s1.n=s2.n/\s1.ns.map b0l=s2.ns.map b0l)\/∃ f e,goE l' (n+10) (.expr false) S0=some (.bad 121 f e):=by
 have hm1:s1.at_=m:=Classical.byContradiction fun e=>by
   have:=T.len
   have:=T.k5 s1.at_.toNat om
   exact this hk
 have ex:∀ (N:Nat) (x:Option EX),goE l' N (.row 0 false) s00=x->goE l' (N+1) (.expr false) S0=(match x with|some (.ok a s2)=>(match okS l' s2 with|true=>some (.ok (rI a.i) (down s2))|false=>none)|x=>x):=fun N x hx=>by
   show a0a l' (goE l' N) (prog (.expr false)) S0=_
   simp only[prog,c6i,a0a,h2c T,show decide ((100:Int)<=S0.deep)=false by decide]
   rw[show goE l' N (.row 0 false) (a3h S0)=x from hx]
   cases x with
   |none=>rfl
   |some y=>cases y<;>rfl
 rcases h2t T n (.expr false) S0 sAA trivial (h8h T) r s1 h with⟨s',h1,h2⟩|⟨f,e,h1⟩
 ·have hat:=h2.at_
  have hlo:=h2.lo
  have hl':=T.len'
  have hml:=T.le
  have ho:okS l' s'=true:=by unfold okS;simp only[Bool.and_eq_true,decide_eq_true_eq];omega
  have hi:isS l' s' [41]=true:=by
   have:=(d4s T h2 om [41]).2
   rw[this];rfl
  have hw:(adv s').at_=s'.at_+1:=a2x (n:=s'.at_+1) om
  have hs:Beh m (adv s'):=⟨by rw[hw];omega,h2.b'⟩
  have q1:=f9v T h h1 hi ho
  have q2:=g0a T hs q1
  have q3:goE l' (n+3) (.prefix_ false) s00=some (.ok (rI r.i) (adv s')):=by rw[e6l T];simp only[a0a,q2,(b6i T hs).1]
  have q4:goE l' (n+4) (.row 5 false) s00=some (.ok (rI r.i) (adv s')):=by
   show a0a l' (goE l' (n+3)) (prog (.row 5 false)) s00=_
   simp only[prog,decide_true,a0a,q3,(b6i T hs).1]
  have q5:=d1f T (N:=n+3) (r:=4) hs om q4
  have q6:=d1f T (N:=n+4) (r:=3) hs om q5
  have q7:=d1f T (N:=n+5) (r:=2) hs om q6
  have q8:=d1f T (N:=n+6) (r:=1) hs om q7
  have q9:=d1f T (N:=n+7) (r:=0) hs om q8
  refine .inl ⟨rI r.i,down (adv s'),?_,?_,h2.n,h2.ns⟩
  ·rw[show n+10=n+9+1 from rfl,ex (n+9) _ q9]
   simp only[(b6i T hs).1]
  ·exact(b6i T (s:=down (adv s')) ⟨hs.at_,hs.b⟩).2.1
 ·have q1:=f6z T h h1
  have q2:=f2s T q1
  have q3:goE l' (n+3) (.prefix_ false) s00=some (.bad 121 f e):=by rw[e6l T];simp only[a0a,q2]
  have q4:goE l' (n+4) (.row 5 false) s00=some (.bad 121 f e):=by
   show a0a l' (goE l' (n+3)) (prog (.row 5 false)) s00=_
   simp only[prog,decide_true,a0a,q3]
  have q5:=c6l T (N:=n+3) (r:=4) om q4
  have q6:=c6l T (N:=n+4) (r:=3) om q5
  have q7:=c6l T (N:=n+5) (r:=2) om q6
  have q8:=c6l T (N:=n+6) (r:=1) om q7
  have q9:=c6l T (N:=n+7) (r:=0) om q8
  refine .inr ⟨f,e,?_⟩
  rw[show n+10=n+9+1 from rfl,ex (n+9) _ q9]
end
end Go.Vm.Pa
namespace Go.Vm.Px
open Go.Vm.Lex (TokQ a0l a5z dgD Dg)
open Go.Vm.Pa hiding go
open Go.Vm.Ite
open Go.Vm.Tp (Nd c0y)
theorem g3j {s:S} {W W':Fo} {c f e c' f' e':Int} (h:f5a .expr s W c f e) (h':f5a .expr (40::(s++[10,41])) W' c' f' e') (hc:c=0) (hl:s.length<=60000):c'=121\/c'=0/\Alk (W.tn 0) (W'.tn 0):=by
 have hlen:(40::(s++[10,41])).length=s.length+3:=by simp
 rcases h with⟨q,_⟩|⟨_,q,_,q2,_⟩|⟨_,h3,n,x,hx,ho⟩
 ·omega
 ·exact absurd (q2.symm.trans hc) q
 cases x with
 |bad c0 f0 e0=>exfalso;obtain⟨_,h1,_,_,h2,_⟩:=ho;omega
 |ok r s1=>
 obtain⟨T,hT,ho⟩:=ho
 by_cases hk:(now (a0l s).1 s1).k=5
 rotate_left
 ·rw[if_neg hk]at ho;exfalso;omega
 rw[if_pos hk]at ho
 have hfin:W=T/\T.sz<=20000/\Go.Vm.Pk.a2v (T.nds 0)<=400:=by
  unfold d4y at ho
  split at ho
  ·cases ho;cases hc
  ·split at ho
   ·cases ho;cases hc
   ·cases ho;exact⟨rfl,om,om⟩
 obtain⟨rfl,hz1,hz2⟩:=hfin
 have hb:=g3u h3 hl
 obtain⟨m,hm⟩:=g2n h3 (1+s.length)
 have ho1:=c2t hT.ok
 have key:=f6b hm hx hk ho1.1 ho1.2
 rcases h' with⟨q,_⟩|⟨_,q,_⟩|⟨_,_,n',x',hx',ho'⟩
 ·omega
 ·rw[hb]at q;exact absurd rfl q
 rw[hb]at hx' ho'
 rcases key with⟨r',s2,k1,k2,k3,k4⟩|⟨f0,e0,k1⟩
 ·have k1:Ru.expr.run (e4v (a0l s).1 (1+s.length)) (n+10)=some (.ok r' s2):=k1
  obtain rfl:=Ru.uniq k1 hx'
  obtain⟨T',hT',ho'⟩:=ho'
  rw[if_pos k2]at ho'
  rw[hT.ns,hT'.ns]at k4
  have A:=d8y k4 hT.sz
  obtain⟨d1,d2⟩:=d0x A
  unfold d4y at ho'
  rw[<-d1,<-d2,if_neg om,if_neg om]at ho'
  cases ho'
  exact .inr ⟨rfl,A⟩
 ·have k1:Ru.expr.run (e4v (a0l s).1 (1+s.length)) (n+10)=some (.bad 121 f0 e0):=k1
  obtain rfl:=Ru.uniq k1 hx'
  exact .inl ho'.2.1
section
variable {fx:Nat->Option Obj} (X:e0r fx)
theorem d5c (s:S) (hs:s.length<=140737488355328) (H:Hp):evF (pgL fx (FW X)) b3s [.d (.str s)] H=some (boo true,H):=by
 have p1:=fun H=>d0t X s H
 have p2:=fun H=>d0t X (40::(s++[10,41])) H
 have sp:=fun H=>b8u X H
 have r1:=b4y (b0r X .expr s)
 have k:=fun hc hl=>g3j (b0r X .expr s) (b0r X .expr (40::(s++[10,41]))) hc hl
 unfold rdV at p1 p2
 revert r1 k p1 p2
 generalize rdW X .expr s=W
 generalize rdC X .expr s=c
 generalize rdF X .expr s=f
 generalize rdE X .expr s=e
 generalize rdW X .expr (40::(s++[10,41]))=W'
 generalize rdC X .expr (40::(s++[10,41]))=c'
 generalize rdF X .expr (40::(s++[10,41]))=f'
 generalize rdE X .expr (40::(s++[10,41]))=e'
 intro p1 p2 r1 k
 rw[c3f]at p1 p2
 have hb1:[40].length+s.length<=9223372036854775807:=by simp only[List.length_cons,List.length_nil];omega
 have hb2:([40]++s).length+[10,41].length<=9223372036854775807:=by simp only[List.length_append,List.length_cons,List.length_nil];omega
 refine b2d (b3d (F:=FW X)) rfl rfl ?_ H
 by_cases hl:60000 < s.length
 ·have h1:(60000:Int) < (s.length:Int):=om
  rcases r1 with r1|r1
  ·obtain rfl:=r1.W
   have n1:(!decide (c=0))=true:=by rw[decide_eq_false r1.c];rfl
   repeat' (first|refine run ⟨?_⟩|refine And.intro hb1 ?_|refine And.intro hb2 ?_|refine ca (p1 _) ?_|refine ca (p2 _) ?_|refine ca (sp _) ?_|fail)
   exact rfl
  ·obtain rfl:=r1.c
   repeat' (first|refine run ⟨?_⟩|refine And.intro hb1 ?_|refine And.intro hb2 ?_|refine ca (p1 _) ?_|refine ca (p2 _) ?_|refine ca (sp _) ?_|fail)
   exact rfl
 ·have h1:¬ (60000:Int) < (s.length:Int):=om
  rcases r1 with r1|r1
  ·obtain rfl:=r1.W
   have n1:(!decide (c=0))=true:=by rw[decide_eq_false r1.c];rfl
   repeat' (first|refine run ⟨?_⟩|refine And.intro hb1 ?_|refine And.intro hb2 ?_|refine ca (p1 _) ?_|refine ca (p2 _) ?_|refine ca (sp _) ?_|fail)
   exact rfl
  ·obtain rfl:=r1.c
   rcases k rfl om with rfl|⟨rfl,A⟩
   ·repeat' (first|refine run ⟨?_⟩|refine And.intro hb1 ?_|refine And.intro hb2 ?_|refine ca (p1 _) ?_|refine ca (p2 _) ?_|refine ca (sp _) ?_|fail)
    exact rfl
   ·have al:=fun H=>e0h (fx:=fx) (F:=FW X) H _ _ A
    repeat' (first|refine run ⟨?_⟩|refine And.intro hb1 ?_|refine And.intro hb2 ?_|refine ca (p1 _) ?_|refine ca (p2 _) ?_|refine ca (sp _) ?_|refine ca (al _) ?_|fail)
    exact rfl
end
end Go.Vm.Px
namespace Go.Proofs.YtkedogplneaaiaaGreatDoor
open Go Go.Vm Go.ChangeShapes Go.WideShapes Go.ChangeAt Go.RowKit
theorem g6p {H:Type} {d:DataW H} {s:List UInt8} (h:dwD d= .str s):d= .lit (.string s):=by
 unfold dwD at h
 split at h<;>cases h
 rfl
theorem c1h {H:Type} {W:World} (hW:laidMetH Tryz.prog a9a W) (ds:List (DataW H)) (h1:ds.length=Tryz.f5.params.size) (h2:∀ (i:Nat) t x,Tryz.f5.params[i]? =some t->ds[i]? =some x->c1o Tryz.prog 8 t (dwD x)) (gs:List (DataW H)) (hsz:(DataW.weightsEach Tryz.prog (Tryz.f5.params.toList++Rows.parseBracketsSpec.plain.varTypes Tryz.prog) (ds++gs)).all (· <=reachBytes)=true):∃ H',evF (pgW hW) 5 ((ds.map dwD).map V.d) []=some (.d (.bool true),H'):=by
 have hp:Tryz.f5.params= #[9]:=Tryz.params5
 match ds,h1 with
 |[d0],_=>
  have hd0:=h2 0 9 d0 (by rw[hp];rfl) rfl
  obtain⟨s,e,_⟩:=c3w d9z hd0
  have l0:=sized_string hsz (j:=0) (t:=9) (bytes:=s) (by rw[hp];rfl) (by rw[g6p e];rfl)
  have hr:=reachBytes_lt
  exact⟨[],by show evF _ 5 [.d (dwD d0)] []=_;rw[e];exact Go.Vm.Px.d5c (Go.Proofs.YtkedogplneaaiaaGreatDoor.g5a hW) s om []⟩
theorem b5z (os:Os) (started:os.Started) (H:Type) (enc:TypeId×Value->H):
 ReturnsInHanded {} Tryz.checked os 5 .any (fun w args=>(Rows.parseBracketsSpec.pre enc Tryz.prog Tryz.f5 [] false w args/\laidMetH Tryz.prog a9a w)/\sizedMet enc Tryz.prog Tryz.f5 (OpenSpec.ofChange Rows.parseBracketsSpec) false w args)
   (Rows.parseBracketsSpec.post enc Tryz.prog Tryz.f5 false true false false):=by
 refine returnsInHanded_of_change_and (C:=Tryz.checked) (X:=fun w _=>laidMetH Tryz.prog a9a w) (fun _ _ _ hh h=>h.of_heap hh) own started kr Tryz.func5
   (ChangeSpec.witness_shaped (enc:=enc) (C:=Tryz.checked) (os:=os) (X:=fun w _=>laidMetH Tryz.prog a9a w) false (w8 os) #[.string ⟨#[]⟩] 8 (f3n _) (c0d os) kr kr kr (c3l os _)) ?_
 intro W base args ds gs before hval hW _ hsz hL _
 refine b0a (m:=8) (tb:=4) (pg:=pgW hL) (tOk hL) mixed laidOut rfl (fun ds h=>?_) (fun t ht=>?_) kr Tryz.underlying4 hval hW (e0f hL) (fun h1 h2=>c1h hL ds h1 h2 gs hsz)
 ·match ds,h with
  |[d0],_=>rfl
 ·rw[Tryz.params5]at ht
  simp only[List.mem_cons,List.not_mem_nil,or_false]at ht
  subst ht
  ·exact⟨⟨kr,of_decide_eq_true kr⟩,kr⟩
theorem c0w:Rows.ParseBracketsSaid:=
 OpenClaim.holds_of_wide 5 Tryz.f5 rfl rfl rfl rfl rfl rfl rfl ⟨rfl,rfl,rfl,rfl,rfl⟩ rfl rfl rfl rfl rfl kr Tryz.func5 kr
   (of_decide_eq_true kr) (by unfold Func.isWrapper;first|(rw[if_pos (by decide+kernel)];kernel_rfl)|(rw[if_neg (by decide+kernel)];exact⟨rfl,rfl⟩))
   (fun os started H enc _=>b5z os started H enc)
theorem parseBrackets_holds:Rows.ParseBracketsCardSaid:=
 Claim7.holds_tied_plain_at .later [] [.data,.data,.data,.data,.handle,.sentinel,.sentinel,.pinned] true (true, "653402f5dad1351d736720f1617cfc36bd946f5f0e15fbc589575ddbaea529e7") true
  c0w (fun _ h=>by cases h) kr (fun _ h=>by cases h) parseBrackets_row_tie rfl ⟨rfl,rfl⟩ kr rfl
  (fun f fn hf hfn=>by
    obtain rfl:f=5:=Option.some.inj ((show Tryz.prog.funcNamed "patina/patinalaw12.ParseBrackets" =some 5 by kernel_rfl).symm.trans hf)|>.symm
    obtain rfl:fn=Tryz.f5:=(Option.some.inj (Tryz.func5.symm.trans hfn)).symm
    exact⟨kr,fun j t ht=>by
      rw[Tryz.params5]at ht
      have ht:=Array.mem_of_getElem? ht
      simp only[List.mem_toArray,List.mem_cons,List.not_mem_nil,or_false]at ht
      subst ht
      ·exact(show Tryz.prog.wantsStandIn 9=false by kernel_rfl)⟩)
  kr
end Go.Proofs.YtkedogplneaaiaaGreatDoor
namespace Go.Proofs.YtkedogplneaaiaaGreatDoor
open Go Go.Vm Go.ChangeShapes Go.WideShapes Go.ChangeAt Go.RowKit
theorem g2g:Tryz.prog.underlying 33=some (.slice 3):=kr
theorem g6y:Tryz.prog.underlying 3=some (.int .i64):=kr
theorem g1u:∀ l:List D,(∀ y∈l,c1o Tryz.prog 7 3 y)->∃ m:List Int,l=m.map (D.int .i64)/\∀ a∈m,True:=fun l h=>Go.Vm.Ip.f0g fun y hy=>by
  obtain⟨n,e,_⟩:=f2l g6y (h y hy)
  exact⟨n,e,trivial⟩
theorem c5h {H:Type} {W:World} (hW:laidMetH Tryz.prog a9a W) (ds:List (DataW H)) (h1:ds.length=Tryz.f6.params.size) (h2:∀ (i:Nat) t x,Tryz.f6.params[i]? =some t->ds[i]? =some x->c1o Tryz.prog 8 t (dwD x)):∃ H',evF (pgW hW) 6 ((ds.map dwD).map V.d) []=some (.d (.bool true),H'):=by
 have hp:Tryz.f6.params= #[9,33]:=Tryz.params6
 match ds,h1 with
 |[d0,d1],_=>
  have hd0:=h2 0 9 d0 (by rw[hp];rfl) rfl
  have hd1:=h2 1 33 d1 (by rw[hp];rfl) rfl
  obtain⟨s,e,hs⟩:=c3w d9z hd0
  obtain⟨l,e2,hl,hx⟩:=e4p g2g hd1
  obtain⟨m,rfl,_⟩:=g1u l hx
  rw[List.length_map]at hl
  exact⟨[],by show evF _ 6 [.d (dwD d0),.d (dwD d1)] []=_;rw[e,e2];exact Go.Vm.Px.e6c (Go.Proofs.YtkedogplneaaiaaGreatDoor.g5a hW) s m hs hl []⟩
theorem b9c (os:Os) (started:os.Started) (H:Type) (enc:TypeId×Value->H):
 ReturnsInHanded {} Tryz.checked os 6 .any (fun w args=>(Rows.parseBlanksSpec.pre enc Tryz.prog Tryz.f6 [] false w args/\laidMetH Tryz.prog a9a w)/\sizedMet enc Tryz.prog Tryz.f6 (OpenSpec.ofChange Rows.parseBlanksSpec) false w args)
   (Rows.parseBlanksSpec.post enc Tryz.prog Tryz.f6 false true false false):=by
 refine returnsInHanded_of_change_and (C:=Tryz.checked) (X:=fun w _=>laidMetH Tryz.prog a9a w) (fun _ _ _ hh h=>h.of_heap hh) own started kr Tryz.func6
   (ChangeSpec.witness_shaped (enc:=enc) (C:=Tryz.checked) (os:=os) (X:=fun w _=>laidMetH Tryz.prog a9a w) false (w8 os) #[.string ⟨#[]⟩,.slice none 0 0] 8 (f3n _) (c0d os) kr kr kr (c3l os _)) ?_
 intro W base args ds gs before hval hW _ _ hL _
 refine b0a (m:=8) (tb:=4) (pg:=pgW hL) (tOk hL) mixed laidOut rfl (fun ds h=>?_) (fun t ht=>?_) kr Tryz.underlying4 hval hW (e0f hL) (c5h hL ds)
 ·match ds,h with
  |[d0,d1],_=>rfl
 ·rw[Tryz.params6]at ht
  simp only[List.mem_cons,List.not_mem_nil,or_false]at ht
  rcases ht with rfl|rfl
  ·exact⟨⟨kr,of_decide_eq_true kr⟩,kr⟩
  ·exact⟨⟨kr,of_decide_eq_true kr⟩,kr⟩
theorem c5s:Rows.ParseBlanksSaid:=
 OpenClaim.holds_of_wide 6 Tryz.f6 rfl rfl rfl rfl rfl rfl rfl ⟨rfl,rfl,rfl,rfl,rfl⟩ rfl rfl rfl rfl rfl kr Tryz.func6 kr
   (of_decide_eq_true kr) (by unfold Func.isWrapper;first|(rw[if_pos (by decide+kernel)];kernel_rfl)|(rw[if_neg (by decide+kernel)];exact⟨rfl,rfl⟩))
   (fun os started H enc _=>b9c os started H enc)
theorem parseBlanks_holds:Rows.ParseBlanksCardSaid:=
 Claim7.holds_tied_plain_at .later [] [.data,.data,.data,.data,.handle,.sentinel,.sentinel,.pinned] true (true, "653402f5dad1351d736720f1617cfc36bd946f5f0e15fbc589575ddbaea529e7") true
  c5s (fun _ h=>by cases h) kr (fun _ h=>by cases h) parseBlanks_row_tie rfl ⟨rfl,rfl⟩ kr rfl
  (fun f fn hf hfn=>by
    obtain rfl:f=6:=Option.some.inj ((show Tryz.prog.funcNamed "patina/patinalaw12.ParseBlanks" =some 6 by kernel_rfl).symm.trans hf)|>.symm
    obtain rfl:fn=Tryz.f6:=(Option.some.inj (Tryz.func6.symm.trans hfn)).symm
    exact⟨kr,fun j t ht=>by
      rw[Tryz.params6]at ht
      have ht:=Array.mem_of_getElem? ht
      simp only[List.mem_toArray,List.mem_cons,List.not_mem_nil,or_false]at ht
      rcases ht with rfl|rfl
      ·exact(show Tryz.prog.wantsStandIn 9=false by kernel_rfl)
      ·exact(show Tryz.prog.wantsStandIn 33=false by kernel_rfl)⟩)
  kr
end Go.Proofs.YtkedogplneaaiaaGreatDoor

