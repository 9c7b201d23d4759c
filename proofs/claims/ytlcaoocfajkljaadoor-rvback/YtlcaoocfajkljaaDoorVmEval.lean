import Derived.Test.YtlcaoocfajkljaaDoorVmDefs
namespace Go.Vm

inductive VFun where
  | code (f : VFn)
  | prim (F : List V → Hp → Option (V × Hp))

structure Pg extends Cx where
  tbl : Nat → Option VFun

abbrev Lp := List Nat → VCode → St → Option (Ex × St)

def sq (r : Option (Ex × St)) (k : St → Option (Ex × St)) : Option (Ex × St) :=
  match r with
  | some (.nrm, s) => k s
  | some (.exit i, s) => some (.exit i, s)
  | some (.ret, s) => some (.ret, s)
  | none => none

/-- One level: calls and further rounds of loops are handed on. -/
noncomputable def evC (cx : Cx) (orc : Orc) (lp : Lp) : VCode → St → Option (Ex × St)
  | .skip, s => some (.nrm, s)
  | .reg ops, s => (evOps cx orc ops s).map fun s => (.nrm, s)
  | .draw m ops, s => (evDraw cx orc m ops s).map fun s => (.nrm, s)
  | .seq a b, s => sq (evC cx orc lp a s) fun s' => evC cx orc lp b s'
  | .cond c a b, s => match evO cx s.e c with
    | .d (.bool t) => if t then evC cx orc lp a s else evC cx orc lp b s
    | _ => none
  | .block id b, s => match evC cx orc lp b s with
    | some (.exit i, s') => if i = id then some (.nrm, s') else some (.exit i, s')
    | r => r
  | .scope b, s => evC cx orc lp b s
  | .loop ks b, s => match evC cx orc lp b ⟨keepE ks s.e, s.h, s.h.length⟩ with
    | some (.nrm, s') => lp ks b ⟨cut s.h.length (keepE ks s'.e), s'.h.take s.h.length, s.b⟩
    | some (x, s') => some (x, ⟨s'.e, s'.h, s.b⟩)
    | none => none
  | .exit i, s => some (.exit i, s)
  | .ret, s => some (.ret, s)
  | .newrow sz t, s => match getE s.e t with
    | .nils => if 0 < sz then some (.nrm, ⟨(t, .row s.h.length 0) :: s.e, s.h ++ [.row sz []], s.b⟩) else none
    | _ => none
  | .bindrow sz t off, s => match getE s.e t with
    | .ptr id o => match s.h[id]? with
      | some (.box c) => match c[o + off]? with
        | some .nils => if s.b ≤ id ∧ 0 < sz then some (.nrm, ⟨s.e, s.h.set id (.box (c.set (o + off) (.row s.h.length 0))) ++ [.row sz []], s.b⟩) else none
        | _ => none
      | _ => none
    | _ => none
  | .freeze t, s => match getE s.e t with
    | .arr id _ _ => match s.h[id]? with
      | some (.box c) => match allD c with
        | some ds => some (.nrm, ⟨s.e, s.h.set id (.frz ds), s.b⟩)
        | none => none
      | _ => none
    | _ => none

def resV (e : Env) (h : Hp) : VRes → Option V
  | .tmp t => some (getE e t)
  | .cell t n => loadV h n (getE e t)

def resVs (e : Env) (h : Hp) : List VRes → Option (List V)
  | [] => some []
  | r :: rs => match resV e h r, resVs e h rs with | some v, some vs => some (v :: vs) | _, _ => none

def oneOf : List V → V
  | [v] => v
  | vs => .tup vs

def enterE (args : List V) : Env := (List.range args.length).map fun i => (i, args.getD i .undef)

/-- What a call leaves: the results, and the heap as far as it was there before. -/
def leave (vf : VFn) (h0 : Nat) (s : St) : Option (V × Hp) :=
  match resVs s.e s.h vf.res with
  | none => none
  | some vs =>
    if vf.keep then some (oneOf vs, s.h)
    else let ds := vs.map (toArg s.h); if undL h0 ds then some (oneOf ds, s.h.take h0) else none

/-- A call whose arguments lead to no heap stands on an empty one. -/
def bare (t : Bool) (h : Hp) (k : Hp → Option (V × Hp)) : Option (V × Hp) :=
  match t with
  | true => (k []).map fun r => (r.1, h)
  | false => k h

/-- One call, the calls and the loops in it handed on. -/
noncomputable def stepF (pg : Pg) (orc : Orc) (lp : Lp) (f : Nat) (args : List V) (h : Hp) : Option (V × Hp) :=
  match pg.tbl f with
  | none => none
  | some (.prim F) => F args h
  | some (.code vf) => if args.length = vf.np then
      bare (undL 0 args && !vf.keep) h fun h => match evC pg.toCx orc lp vf.body ⟨enterE args, h, h.length⟩ with
      | some (.nrm, s) | some (.ret, s) => leave vf h.length s
      | _ => none
    else none

noncomputable def atN (pg : Pg) : Nat → Orc × Lp
  | 0 => (fun _ _ _ => none, fun _ _ _ => none)
  | n + 1 => (stepF pg (atN pg n).1 (atN pg n).2, fun ks b s => evC pg.toCx (atN pg n).1 (atN pg n).2 (.loop ks b) s)

noncomputable def fnAt (pg : Pg) (n : Nat) : Orc := (atN pg n).1
noncomputable def lpAt (pg : Pg) (n : Nat) : Lp := (atN pg n).2

theorem fnAt_zero (pg : Pg) (f : Nat) (a : List V) (h : Hp) : fnAt pg 0 f a h = none := rfl
theorem fnAt_succ (pg : Pg) (n f : Nat) (a : List V) (h : Hp) : fnAt pg (n + 1) f a h = stepF pg (fnAt pg n) (lpAt pg n) f a h := rfl
theorem lpAt_zero (pg : Pg) (k : List Nat) (b : VCode) (s : St) : lpAt pg 0 k b s = none := rfl
theorem lpAt_succ (pg : Pg) (n : Nat) (k : List Nat) (b : VCode) (s : St) : lpAt pg (n + 1) k b s = evC pg.toCx (fnAt pg n) (lpAt pg n) (.loop k b) s := rfl

end Go.Vm
