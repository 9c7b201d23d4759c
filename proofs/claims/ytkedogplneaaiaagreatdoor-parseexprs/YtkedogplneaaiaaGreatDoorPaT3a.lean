import Derived.Test.YtkedogplneaaiaaGreatDoorPaG
set_option linter.unusedVariables false
set_option linter.unusedSimpArgs false
namespace Go.Vm.Pa
open Go.Vm.Lex (TokQ)
open Go.Vm.Tp (Nd I64)
set_option maxRecDepth 10000
section
variable {l:List TokQ} {n:Nat} {s:PS}
set_option maxHeartbeats 1000000 in
theorem i2u (hl:TOk l) (IH:IHt l n) (p:Pre l .typ s) (mu:Mu l .typ s (n+1)):G l .typ s (step l (go l n) .typ s):=by
 obtain⟨lo,hi,ns,bd,ok,ex⟩:=p
 obtain⟨mu1,mu2⟩:=mu
 have hlen:=hl.len
 simp only[cQ,nQ,rQ,Ext]at bd mu1 ex
 clear ok
 by_cases ok:s.bc=0
 all_goals first|(replace bd:=bd.1 ok;replace mu1:=mu1 ok;clear mu2)|(replace bd:=bd.2 ok;replace mu2:=mu2 ok;clear mu1)
 all_goals rw[step]
 all_goals unfold deeper
 all_goals exact b5e
set_option maxHeartbeats 1000000 in
theorem g5o {fr:Int} (hl:TOk l) (IH:IHt l n) (p:Pre l (.typed fr) s) (mu:Mu l (.typed fr) s (n+1)):G l (.typed fr) s (step l (go l n) (.typed fr) s):=by
 obtain⟨lo,hi,ns,bd,ok,ex⟩:=p
 obtain⟨mu1,mu2⟩:=mu
 have hlen:=hl.len
 simp only[cQ,nQ,rQ,Ext]at bd mu1 ex
 obtain⟨ex1,ex2⟩:=ex
 replace ok:=ok rfl
 replace bd:=bd.1 ok
 replace mu1:=mu1 ok
 clear mu2
 rw[step]
 exact b5e
set_option maxHeartbeats 1000000 in
theorem g2p (hl:TOk l) (IH:IHt l n) (p:Pre l .param s) (mu:Mu l .param s (n+1)):G l .param s (step l (go l n) .param s):=by
 obtain⟨lo,hi,ns,bd,ok,ex⟩:=p
 obtain⟨mu1,mu2⟩:=mu
 have hlen:=hl.len
 simp only[cQ,nQ,rQ,Ext]at bd mu1 ex
 replace ok:=ok rfl
 replace bd:=bd.1 ok
 replace mu1:=mu1 ok
 clear mu2
 rw[step]
 exact b5e
set_option maxHeartbeats 1000000 in
theorem g4y (hl:TOk l) (IH:IHt l n) (p:Pre l .field s) (mu:Mu l .field s (n+1)):G l .field s (step l (go l n) .field s):=by
 obtain⟨lo,hi,ns,bd,ok,ex⟩:=p
 obtain⟨mu1,mu2⟩:=mu
 have hlen:=hl.len
 simp only[cQ,nQ,rQ,Ext]at bd mu1 ex
 replace ok:=ok rfl
 replace bd:=bd.1 ok
 replace mu1:=mu1 ok
 clear mu2
 rw[step]
 exact b5e
set_option maxHeartbeats 1000000 in
theorem e8e (hl:TOk l) (IH:IHt l n) (p:Pre l .variant s) (mu:Mu l .variant s (n+1)):G l .variant s (step l (go l n) .variant s):=by
 obtain⟨lo,hi,ns,bd,ok,ex⟩:=p
 obtain⟨mu1,mu2⟩:=mu
 have hlen:=hl.len
 simp only[cQ,nQ,rQ,Ext]at bd mu1 ex
 replace ok:=ok rfl
 replace bd:=bd.1 ok
 replace mu1:=mu1 ok
 clear mu2
 rw[step]
 exact b5e
set_option maxHeartbeats 1000000 in
theorem f8n {ks:K} {v:Int} (hl:TOk l) (IH:IHt l n) (p:Pre l (.params ks v) s) (mu:Mu l (.params ks v) s (n+1)):G l (.params ks v) s (step l (go l n) (.params ks v) s):=by
 obtain⟨lo,hi,ns,bd,ok,ex⟩:=p
 obtain⟨mu1,mu2⟩:=mu
 have hlen:=hl.len
 simp only[cQ,nQ,rQ,Ext]at bd mu1 ex
 obtain⟨⟨ex1,ex2,ex4⟩,ex3⟩:=ex
 clear ok
 by_cases ok:s.bc=0
 all_goals first|(replace bd:=bd.1 ok;replace mu1:=mu1 ok;clear mu2)|(replace bd:=bd.2 ok;replace mu2:=mu2 ok;clear mu1)
 all_goals rw[step]
 all_goals exact b5e
set_option maxHeartbeats 1000000 in
theorem f8p {k:Int} {ks:K} (hl:TOk l) (IH:IHt l n) (p:Pre l (.fields k ks) s) (mu:Mu l (.fields k ks) s (n+1)):G l (.fields k ks) s (step l (go l n) (.fields k ks) s):=by
 obtain⟨lo,hi,ns,bd,ok,ex⟩:=p
 obtain⟨mu1,mu2⟩:=mu
 have hlen:=hl.len
 simp only[cQ,nQ,rQ,Ext]at bd mu1 ex
 obtain⟨ex1,ex2,ex3⟩:=ex
 clear ok
 by_cases ok:s.bc=0
 all_goals first|(replace bd:=bd.1 ok;replace mu1:=mu1 ok;clear mu2)|(replace bd:=bd.2 ok;replace mu2:=mu2 ok;clear mu1)
 all_goals rw[step]
 all_goals exact b5e
set_option maxHeartbeats 1000000 in
theorem g4u {k:Int} (hl:TOk l) (IH:IHt l n) (p:Pre l (.parts k) s) (mu:Mu l (.parts k) s (n+1)):G l (.parts k) s (step l (go l n) (.parts k) s):=by
 obtain⟨lo,hi,ns,bd,ok,ex⟩:=p
 obtain⟨mu1,mu2⟩:=mu
 have hlen:=hl.len
 simp only[cQ,nQ,rQ,Ext]at bd mu1 ex
 obtain⟨a1,a2⟩:=f2m hl ex lo hi
 have a3:(adv s).n=s.n:=rfl
 have a4:(adv s).bc=s.bc:=rfl
 have a5:b3d (adv s):=a7q ns rfl rfl
 replace ok:=ok rfl
 replace bd:=bd.1 ok
 replace mu1:=mu1 ok
 clear mu2
 rw[step]
 exact b5e
set_option maxHeartbeats 1000000 in
theorem g3f {ks:K} (hl:TOk l) (IH:IHt l n) (p:Pre l (.items ks) s) (mu:Mu l (.items ks) s (n+1)):G l (.items ks) s (step l (go l n) (.items ks) s):=by
 obtain⟨lo,hi,ns,bd,ok,ex⟩:=p
 obtain⟨mu1,mu2⟩:=mu
 have hlen:=hl.len
 simp only[cQ,nQ,rQ,Ext]at bd mu1 ex
 obtain⟨ex1,ex2,ex3⟩:=ex
 clear ok
 by_cases ok:s.bc=0
 all_goals first|(replace bd:=bd.1 ok;replace mu1:=mu1 ok;clear mu2)|(replace bd:=bd.2 ok;replace mu2:=mu2 ok;clear mu1)
 all_goals rw[step]
 all_goals exact b5e
set_option maxHeartbeats 1000000 in
theorem g5j {ks:K} (hl:TOk l) (IH:IHt l n) (p:Pre l (.stmts ks) s) (mu:Mu l (.stmts ks) s (n+1)):G l (.stmts ks) s (step l (go l n) (.stmts ks) s):=by
 obtain⟨lo,hi,ns,bd,ok,ex⟩:=p
 obtain⟨mu1,mu2⟩:=mu
 have hlen:=hl.len
 simp only[cQ,nQ,rQ,Ext]at bd mu1 ex
 obtain⟨ex1,ex2,ex3⟩:=ex
 clear ok
 by_cases ok:s.bc=0
 all_goals first|(replace bd:=bd.1 ok;replace mu1:=mu1 ok;clear mu2)|(replace bd:=bd.2 ok;replace mu2:=mu2 ok;clear mu1)
 all_goals rw[step]
 all_goals exact b5e
set_option maxHeartbeats 1000000 in
theorem g7f (hl:TOk l) (IH:IHt l n) (p:Pre l .block s) (mu:Mu l .block s (n+1)):G l .block s (step l (go l n) .block s):=by
 obtain⟨lo,hi,ns,bd,ok,ex⟩:=p
 obtain⟨mu1,mu2⟩:=mu
 have hlen:=hl.len
 simp only[cQ,nQ,rQ,Ext]at bd mu1 ex
 clear ok
 by_cases ok:s.bc=0
 all_goals first|(replace bd:=bd.1 ok;replace mu1:=mu1 ok;clear mu2)|(replace bd:=bd.2 ok;replace mu2:=mu2 ok;clear mu1)
 all_goals rw[step]
 all_goals exact b5e
set_option maxHeartbeats 1000000 in
theorem f6n {fr:Int} (hl:TOk l) (IH:IHt l n) (p:Pre l (.blocky fr) s) (mu:Mu l (.blocky fr) s (n+1)):G l (.blocky fr) s (step l (go l n) (.blocky fr) s):=by
 obtain⟨lo,hi,ns,bd,ok,ex⟩:=p
 obtain⟨mu1,mu2⟩:=mu
 have hlen:=hl.len
 simp only[cQ,nQ,rQ,Ext]at bd mu1 ex
 obtain⟨ex1,ex2⟩:=ex
 replace ok:=ok rfl
 replace bd:=bd.1 ok
 replace mu1:=mu1 ok
 clear mu2
 rw[step]
 exact b5e
set_option maxHeartbeats 1000000 in
theorem f7b (hl:TOk l) (IH:IHt l n) (p:Pre l .branch s) (mu:Mu l .branch s (n+1)):G l .branch s (step l (go l n) .branch s):=by
 obtain⟨lo,hi,ns,bd,ok,ex⟩:=p
 obtain⟨mu1,mu2⟩:=mu
 have hlen:=hl.len
 simp only[cQ,nQ,rQ,Ext]at bd mu1 ex
 replace ok:=ok rfl
 replace bd:=bd.1 ok
 replace mu1:=mu1 ok
 clear mu2
 rw[step]
 exact b5e
end
end Go.Vm.Pa
