import Derived.Test.YtkedogplneaaiaaGreatDoorPaG
set_option linter.unusedVariables false
set_option linter.unusedSimpArgs false
namespace Go.Vm.Pa
open Go.Vm.Lex (TokQ)
open Go.Vm.Tp (Nd I64)
set_option maxRecDepth 10000
section
variable {l:List TokQ} {n:Nat} {s:PS}
set_option maxHeartbeats 1000000 in
theorem h5n (hl:TOk l) (IH:IHt l n) (p:Pre l .cond s) (mu:Mu l .cond s (n+1)):G l .cond s (step l (go l n) .cond s):=by
 obtain⟨lo,hi,ns,bd,ok,ex⟩:=p
 obtain⟨mu1,mu2⟩:=mu
 have hlen:=hl.len
 simp only[cQ,nQ,rQ,Ext]at bd mu1 ex
 replace ok:=ok rfl
 replace bd:=bd.1 ok
 replace mu1:=mu1 ok
 clear mu2
 rw[step]
 exact b5e
set_option maxHeartbeats 1000000 in
theorem g2v (hl:TOk l) (IH:IHt l n) (p:Pre l .match_ s) (mu:Mu l .match_ s (n+1)):G l .match_ s (step l (go l n) .match_ s):=by
 obtain⟨lo,hi,ns,bd,ok,ex⟩:=p
 obtain⟨mu1,mu2⟩:=mu
 have hlen:=hl.len
 simp only[cQ,nQ,rQ,Ext]at bd mu1 ex
 replace ok:=ok rfl
 replace bd:=bd.1 ok
 replace mu1:=mu1 ok
 clear mu2
 rw[step]
 exact b5e
set_option maxHeartbeats 1000000 in
theorem h5j {ks:K} (hl:TOk l) (IH:IHt l n) (p:Pre l (.arms ks) s) (mu:Mu l (.arms ks) s (n+1)):G l (.arms ks) s (step l (go l n) (.arms ks) s):=by
 obtain⟨lo,hi,ns,bd,ok,ex⟩:=p
 obtain⟨mu1,mu2⟩:=mu
 have hlen:=hl.len
 simp only[cQ,nQ,rQ,Ext]at bd mu1 ex
 obtain⟨ex1,ex2,ex3⟩:=ex
 clear ok
 by_cases ok:s.bc=0
 all_goals first|(replace bd:=bd.1 ok;replace mu1:=mu1 ok;clear mu2)|(replace bd:=bd.2 ok;replace mu2:=mu2 ok;clear mu1)
 all_goals rw[step]
 all_goals exact b5e
set_option maxHeartbeats 1000000 in
theorem e9f (hl:TOk l) (IH:IHt l n) (p:Pre l .pattern s) (mu:Mu l .pattern s (n+1)):G l .pattern s (step l (go l n) .pattern s):=by
 obtain⟨lo,hi,ns,bd,ok,ex⟩:=p
 obtain⟨mu1,mu2⟩:=mu
 have hlen:=hl.len
 simp only[cQ,nQ,rQ,Ext]at bd mu1 ex
 clear ok
 by_cases ok:s.bc=0
 all_goals first|(replace bd:=bd.1 ok;replace mu1:=mu1 ok;clear mu2)|(replace bd:=bd.2 ok;replace mu2:=mu2 ok;clear mu1)
 all_goals rw[step]
 all_goals unfold deeper
 all_goals exact b5e
set_option maxHeartbeats 1000000 in
theorem h2e {bare:Bool} (hl:TOk l) (IH:IHt l n) (p:Pre l (.expr bare) s) (mu:Mu l (.expr bare) s (n+1)):G l (.expr bare) s (step l (go l n) (.expr bare) s):=by
 obtain⟨lo,hi,ns,bd,ok,ex⟩:=p
 obtain⟨mu1,mu2⟩:=mu
 have hlen:=hl.len
 simp only[cQ,nQ,rQ,Ext]at bd mu1 ex
 clear ok
 by_cases ok:s.bc=0
 all_goals first|(replace bd:=bd.1 ok;replace mu1:=mu1 ok;clear mu2)|(replace bd:=bd.2 ok;replace mu2:=mu2 ok;clear mu1)
 all_goals rw[step]
 all_goals unfold deeper
 all_goals exact b5e
set_option maxHeartbeats 1000000 in
theorem i2i {k:Int} {bare:Bool} (hl:TOk l) (IH:IHt l n) (p:Pre l (.row k bare) s) (mu:Mu l (.row k bare) s (n+1)):G l (.row k bare) s (step l (go l n) (.row k bare) s):=by
 obtain⟨lo,hi,ns,bd,ok,ex⟩:=p
 obtain⟨mu1,mu2⟩:=mu
 have hlen:=hl.len
 simp only[cQ,nQ,rQ,Ext]at bd mu1 ex
 obtain⟨ex1,ex2⟩:=ex
 have hw:w (k+1)=k+1:=a3z om
 replace ok:=ok rfl
 replace bd:=bd.1 ok
 replace mu1:=mu1 ok
 clear mu2
 rw[step]
 rw[hw]
 exact b5e
set_option maxHeartbeats 1000000 in
theorem e7m {bare:Bool} (hl:TOk l) (IH:IHt l n) (p:Pre l (.operand bare) s) (mu:Mu l (.operand bare) s (n+1)):G l (.operand bare) s (step l (go l n) (.operand bare) s):=by
 obtain⟨lo,hi,ns,bd,ok,ex⟩:=p
 obtain⟨mu1,mu2⟩:=mu
 have hlen:=hl.len
 simp only[cQ,nQ,rQ,Ext]at bd mu1 ex
 clear ok
 by_cases ok:s.bc=0
 all_goals first|(replace bd:=bd.1 ok;replace mu1:=mu1 ok;clear mu2)|(replace bd:=bd.2 ok;replace mu2:=mu2 ok;clear mu1)
 all_goals rw[step]
 all_goals unfold deeper
 all_goals exact b5e
set_option maxHeartbeats 1000000 in
theorem f9q {bare:Bool} (hl:TOk l) (IH:IHt l n) (p:Pre l (.prefix_ bare) s) (mu:Mu l (.prefix_ bare) s (n+1)):G l (.prefix_ bare) s (step l (go l n) (.prefix_ bare) s):=by
 obtain⟨lo,hi,ns,bd,ok,ex⟩:=p
 obtain⟨mu1,mu2⟩:=mu
 have hlen:=hl.len
 simp only[cQ,nQ,rQ,Ext]at bd mu1 ex
 replace ok:=ok rfl
 replace bd:=bd.1 ok
 replace mu1:=mu1 ok
 clear mu2
 rw[step]
 exact b5e
set_option maxHeartbeats 1000000 in
theorem e9w {bare:Bool} (hl:TOk l) (IH:IHt l n) (p:Pre l (.postfix_ bare) s) (mu:Mu l (.postfix_ bare) s (n+1)):G l (.postfix_ bare) s (step l (go l n) (.postfix_ bare) s):=by
 obtain⟨lo,hi,ns,bd,ok,ex⟩:=p
 obtain⟨mu1,mu2⟩:=mu
 have hlen:=hl.len
 simp only[cQ,nQ,rQ,Ext]at bd mu1 ex
 replace ok:=ok rfl
 replace bd:=bd.1 ok
 replace mu1:=mu1 ok
 clear mu2
 rw[step]
 exact b5e
set_option maxHeartbeats 1000000 in
theorem h1n {ks:K} (hl:TOk l) (IH:IHt l n) (p:Pre l (.args ks) s) (mu:Mu l (.args ks) s (n+1)):G l (.args ks) s (step l (go l n) (.args ks) s):=by
 obtain⟨lo,hi,ns,bd,ok,ex⟩:=p
 obtain⟨mu1,mu2⟩:=mu
 have hlen:=hl.len
 simp only[cQ,nQ,rQ,Ext]at bd mu1 ex
 obtain⟨ex1,ex2,ex3⟩:=ex
 clear ok
 by_cases ok:s.bc=0
 all_goals first|(replace bd:=bd.1 ok;replace mu1:=mu1 ok;clear mu2)|(replace bd:=bd.2 ok;replace mu2:=mu2 ok;clear mu1)
 all_goals rw[step]
 all_goals exact b5e
set_option maxHeartbeats 1000000 in
theorem g6q {ks:K} (hl:TOk l) (IH:IHt l n) (p:Pre l (.inits ks) s) (mu:Mu l (.inits ks) s (n+1)):G l (.inits ks) s (step l (go l n) (.inits ks) s):=by
 obtain⟨lo,hi,ns,bd,ok,ex⟩:=p
 obtain⟨mu1,mu2⟩:=mu
 have hlen:=hl.len
 simp only[cQ,nQ,rQ,Ext]at bd mu1 ex
 obtain⟨ex1,ex2,ex3⟩:=ex
 clear ok
 by_cases ok:s.bc=0
 all_goals first|(replace bd:=bd.1 ok;replace mu1:=mu1 ok;clear mu2)|(replace bd:=bd.2 ok;replace mu2:=mu2 ok;clear mu1)
 all_goals rw[step]
 all_goals exact b5e
set_option maxHeartbeats 1000000 in
theorem h7g (hl:TOk l) (IH:IHt l n) (p:Pre l .init s) (mu:Mu l .init s (n+1)):G l .init s (step l (go l n) .init s):=by
 obtain⟨lo,hi,ns,bd,ok,ex⟩:=p
 obtain⟨mu1,mu2⟩:=mu
 have hlen:=hl.len
 simp only[cQ,nQ,rQ,Ext]at bd mu1 ex
 replace ok:=ok rfl
 replace bd:=bd.1 ok
 replace mu1:=mu1 ok
 clear mu2
 rw[step]
 exact b5e
end
end Go.Vm.Pa
