import Derived.Test.YtkedogplneaaiaaGreatDoorPaG
set_option maxRecDepth 100000
set_option linter.unusedVariables false
set_option linter.unusedSimpArgs false
namespace Go.Vm.Pa
open Go.Vm.Lex (TokQ)
open Go.Vm.Tp (Nd I64)
section
variable {l:List TokQ} {n:Nat} {s:PS}
set_option maxHeartbeats 1000000 in
theorem h1m (hl:TOk l) (IH:IHt l n) (p:Pre l .stmt s) (mu:Mu l .stmt s (n+1)):G l .stmt s (step l (go l n) .stmt s):=by
 obtain⟨lo,hi,ns,bd,ok,ex⟩:=p
 obtain⟨mu1,mu2⟩:=mu
 have hlen:=hl.len
 simp only[cQ,nQ,rQ,Ext]at bd mu1 ex
 replace ok:=ok rfl
 replace bd:=bd.1 ok
 replace mu1:=mu1 ok
 clear mu2
 rw[step]
 exact b5e
set_option maxHeartbeats 1000000 in
theorem i5i {fr:Int} (hl:TOk l) (IH:IHt l n) (p:Pre l (.let_ fr) s) (mu:Mu l (.let_ fr) s (n+1)):G l (.let_ fr) s (step l (go l n) (.let_ fr) s):=by
 obtain⟨lo,hi,ns,bd,ok,ex⟩:=p
 obtain⟨mu1,mu2⟩:=mu
 have hlen:=hl.len
 simp only[cQ,nQ,rQ,Ext]at bd mu1 ex
 obtain⟨ex1,ex2⟩:=ex
 replace ok:=ok rfl
 replace bd:=bd.1 ok
 replace mu1:=mu1 ok
 clear mu2
 rw[step]
 unfold b1i
 exact b5e
set_option maxHeartbeats 1000000 in
theorem i3f (hl:TOk l) (IH:IHt l n) (p:Pre l .arm s) (mu:Mu l .arm s (n+1)):G l .arm s (step l (go l n) .arm s):=by
 obtain⟨lo,hi,ns,bd,ok,ex⟩:=p
 obtain⟨mu1,mu2⟩:=mu
 have hlen:=hl.len
 simp only[cQ,nQ,rQ,Ext]at bd mu1 ex
 replace ok:=ok rfl
 replace bd:=bd.1 ok
 replace mu1:=mu1 ok
 clear mu2
 rw[step]
 exact b5e
set_option maxHeartbeats 1000000 in
theorem d8z {fr:Int} (hl:TOk l) (IH:IHt l n) (p:Pre l (.patterned fr) s) (mu:Mu l (.patterned fr) s (n+1)):G l (.patterned fr) s (step l (go l n) (.patterned fr) s):=by
 obtain⟨lo,hi,ns,bd,ok,ex⟩:=p
 obtain⟨mu1,mu2⟩:=mu
 have hlen:=hl.len
 simp only[cQ,nQ,rQ,Ext]at bd mu1 ex
 obtain⟨ex1,ex2⟩:=ex
 replace ok:=ok rfl
 replace bd:=bd.1 ok
 replace mu1:=mu1 ok
 clear mu2
 rw[step]
 unfold step.numS
 exact b5e
set_option maxHeartbeats 1000000 in
theorem h3m {k:Int} {bare:Bool} {fr a:Int} (hl:TOk l) (IH:IHt l n) (p:Pre l (.rows k bare fr a) s) (mu:Mu l (.rows k bare fr a) s (n+1)):G l (.rows k bare fr a) s (step l (go l n) (.rows k bare fr a) s):=by
 obtain⟨lo,hi,ns,bd,ok,ex⟩:=p
 obtain⟨mu1,mu2⟩:=mu
 have hlen:=hl.len
 simp only[cQ,nQ,rQ,Ext]at bd mu1 ex
 obtain⟨⟨ex1,ex2⟩,⟨ex3,ex4⟩,ex5,ex6⟩:=ex
 have hsl:=f9k l k s
 have hw:w (k+1)=k+1:=a3z om
 clear ok
 by_cases ok:s.bc=0
 all_goals first|(replace bd:=bd.1 ok;replace mu1:=mu1 ok;clear mu2)|(replace bd:=bd.2 ok;replace mu2:=mu2 ok;clear mu1)
 all_goals rw[step]
 all_goals rw[hw]
 all_goals exact b5e
set_option maxHeartbeats 1000000 in
theorem h7n {fr a:Int} (hl:TOk l) (IH:IHt l n) (p:Pre l (.gets fr a) s) (mu:Mu l (.gets fr a) s (n+1)):G l (.gets fr a) s (step l (go l n) (.gets fr a) s):=by
 obtain⟨lo,hi,ns,bd,ok,ex⟩:=p
 obtain⟨mu1,mu2⟩:=mu
 have hlen:=hl.len
 simp only[cQ,nQ,rQ,Ext]at bd mu1 ex
 obtain⟨⟨ex3,ex4⟩,ex5,ex6⟩:=ex
 clear ok
 by_cases ok:s.bc=0
 all_goals first|(replace bd:=bd.1 ok;replace mu1:=mu1 ok;clear mu2)|(replace bd:=bd.2 ok;replace mu2:=mu2 ok;clear mu1)
 all_goals rw[step]
 all_goals exact b5e
set_option maxHeartbeats 1000000 in
theorem f3z {bare:Bool} (hl:TOk l) (IH:IHt l n) (p:Pre l (.primary bare) s) (mu:Mu l (.primary bare) s (n+1)):G l (.primary bare) s (step l (go l n) (.primary bare) s):=by
 obtain⟨lo,hi,ns,bd,ok,ex⟩:=p
 obtain⟨mu1,mu2⟩:=mu
 have hlen:=hl.len
 simp only[cQ,nQ,rQ,Ext]at bd mu1 ex
 replace ok:=ok rfl
 replace bd:=bd.1 ok
 replace mu1:=mu1 ok
 clear mu2
 rw[step]
 unfold step.newS
 exact b5e
set_option maxHeartbeats 1000000 in
theorem g7q {fr:Int} {bare:Bool} (hl:TOk l) (IH:IHt l n) (p:Pre l (.named fr bare) s) (mu:Mu l (.named fr bare) s (n+1)):G l (.named fr bare) s (step l (go l n) (.named fr bare) s):=by
 obtain⟨lo,hi,ns,bd,ok,ex⟩:=p
 obtain⟨mu1,mu2⟩:=mu
 have hlen:=hl.len
 simp only[cQ,nQ,rQ,Ext]at bd mu1 ex
 obtain⟨ex1,ex2⟩:=ex
 replace ok:=ok rfl
 replace bd:=bd.1 ok
 replace mu1:=mu1 ok
 clear mu2
 rw[step]
 unfold step.pickS
 exact b5e
set_option maxHeartbeats 1000000 in
theorem h0a (hl:TOk l) (IH:IHt l n) (p:Pre l .item s) (mu:Mu l .item s (n+1)):G l .item s (step l (go l n) .item s):=by
 obtain⟨lo,hi,ns,bd,ok,ex⟩:=p
 obtain⟨mu1,mu2⟩:=mu
 have hlen:=hl.len
 simp only[cQ,nQ,rQ,Ext]at bd mu1 ex
 replace ok:=ok rfl
 replace bd:=bd.1 ok
 replace mu1:=mu1 ok
 clear mu2
 rw[step]
 exact b5e
end
end Go.Vm.Pa
namespace Go.Vm.Pa
open Go.Vm.Lex (TokQ)
open Go.Vm.Tp (Nd I64)
section
variable {l:List TokQ} {n:Nat} {s:PS}
set_option maxHeartbeats 8000000 in
theorem e6j (hl:TOk l) (IH:IHt l n) (p:Pre l .function s) (mu:Mu l .function s (n+1)):G l .function s (step l (go l n) .function s):=by
 obtain⟨lo,hi,ns,bd,ok,ex⟩:=p
 obtain⟨mu1,mu2⟩:=mu
 have hlen:=hl.len
 simp only[cQ,nQ,rQ,Ext]at bd mu1 ex
 replace ok:=ok rfl
 replace bd:=bd.1 ok
 replace mu1:=mu1 ok
 clear mu2
 rw[step]
 exact b5e
end
end Go.Vm.Pa
