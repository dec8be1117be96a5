/- Part of an evaluator of the program's calls, proved sound: what it yields, the program does in every world. No condition beyond those that each theorem names. -/
import Derived.Test.YtoclidojcihnfaaGreatGvB
import Derived.Deep.MidRow
set_option linter.unusedVariables false
set_option linter.unusedSimpArgs false
namespace Go.Gv
open Go.RowKit

/-! ### A function: in and out -/
def Ret (R : Value → List HP → Prop) : Ending → List HP → Prop
  | .returned v, L => R v L
  | _, _ => False
/-- What a call comes to: out of the entries L0 it makes entries of which R speaks; all else is as it was. -/
def Tri (P : Program) (f : FuncId) (args : Array Value) (w : World) (L0 : List HP) (R : Ending → List HP → Prop) : Prop :=
  Calls P f args w fun e w' => ∃ L', R e L' ∧ St w (doms L0) L' w'
inductive RV (P : Program) (n : Nat) (e : Env) (L : List HP) : ResultVar → Value → Prop where
  | tmp {t : Nat} {v : Value} (h : ev n e (.tmp t) = v) : RV P n e L (.tmp t) v
  | cell {t : Nat} {ty : TypeId} {b off : Nat} {v : Value} (h : ev n e (.tmp t) = .pointer (some ⟨b, off, none⟩)) (hl : ∀ w, Sat L w → (loadVar ty ⟨b, off, none⟩).run P w = .ok v w) : RV P n e L (.cell t ty) v
inductive RVs (P : Program) (n : Nat) (e : Env) (L : List HP) : List ResultVar → List Value → Prop where
  | nil : RVs P n e L [] []
  | cons {r : ResultVar} {v : Value} {rs : List ResultVar} {vs : List Value} (h : RV P n e L r v) (k : RVs P n e L rs vs) : RVs P n e L (r :: rs) (v :: vs)
def resOf : List Value → Value
  | [v] => v
  | vs => .tuple vs.toArray
theorem RVs.run {P : Program} {n : Nat} {e : Env} {L : List HP} {f : ResultVar → Sem Value} {rs : List ResultVar} {vs : List Value} {w : World}
    (hf : ∀ r v, RV P n e L r v → (f r).run P w = .ok v w) (h : RVs P n e L rs vs) : (rs.mapM f).run P w = .ok vs w := by
  induction h with
  | nil => simp [List.mapM_nil]
  | cons h k ih => simp [List.mapM_cons, Sem.run_bind, hf _ _ h, ih]
def isRet (fn : Func) (P : Program) (n : Nat) (e : Env) (L : List HP) (v : Value) : Prop := ∀ w, Sat L w → (results fn (mk n e).tmps).run P w = .ok v w
def postS (P : Program) (fn : Func) (n : Nat) (R : Ending → List HP → Prop) : SPost
  | .ret, e, L | .normal, e, L => e.ds = [] ∧ ∃ v, isRet fn P n e L v ∧ R (.returned v) L
  | .panic ch, e, L => e.ds = [] ∧ R (.panicked ch) L
  | _, _, _ => False
theorem postS.ret {P : Program} {fn : Func} {n : Nat} {R : Ending → List HP → Prop} {e : Env} {L : List HP} (v : Value) (h : isRet fn P n e L v) (hR : R (.returned v) L) (hd : e.ds = [] := by rfl) : postS P fn n R .ret e L := ⟨hd, v, h, hR⟩
theorem postS.nrm {P : Program} {fn : Func} {n : Nat} {R : Ending → List HP → Prop} {e : Env} {L : List HP} (v : Value) (h : isRet fn P n e L v) (hR : R (.returned v) L) (hd : e.ds = [] := by rfl) : postS P fn n R .normal e L := ⟨hd, v, h, hR⟩
theorem Tri.of {P : Program} {f : FuncId} {fn : Func} {c : Code} {n : Nat} {args : List Value} {w : World} {L0 : List HP} {R : Ending → List HP → Prop}
    (hf : P.funcs[f]? = some fn) (hb : fn.body = some c) (hn : fn.ntmps = n) (hl : Nat.ble args.length n = true) (hs : Sat L0 w)
    (h : WC ⟨P, w, doms L0, n, none⟩ c (postS P fn n R) (argEnv args) L0) : Tri P f args.toArray w L0 R := by
  refine (callsIn_wide (n := 0)).1 (callsIn_of_wp_marks hf hb trivial ?_ rfl)
  subst hn
  rw [mk_args _ _ (Nat.le_of_ble_eq_true hl)]
  refine Code.wpIn_mono ?_ (h w (St.init L0 w hs))
  rintro x a w' ⟨e, L', rfl, hst, hq⟩
  cases x with
  | ret => obtain ⟨hd, v, hv, hR⟩ := hq; show LeavesInM _ _ _ _ _ _ (mk fn.ntmps e).defers _ _; rw [mk_defers, hd]; exact ⟨v, hv w' hst.sat, L', hR, hst⟩
  | normal => obtain ⟨hd, v, hv, hR⟩ := hq; show LeavesInM _ _ _ _ _ _ (mk fn.ntmps e).defers _ _; rw [mk_defers, hd]; exact ⟨v, hv w' hst.sat, L', hR, hst⟩
  | panic ch => obtain ⟨hd, hR⟩ := hq; show LeavesInM _ _ _ _ _ _ (mk fn.ntmps e).defers _ _; rw [mk_defers, hd]; exact ⟨L', hR, hst⟩
  | _ => exact hq.elim
section
variable {P : Program} {fn : Func} {n : Nat} {e : Env} {L : List HP}
theorem isRet.of0 (h : fn.results = #[]) : isRet fn P n e L (.tuple #[]) := fun w _ => results_none h _ _ _
theorem isRet.of1 {t : Nat} {v : Value} (h : fn.results = #[.tmp t]) (h1 : ev n e (.tmp t) = v) : isRet fn P n e L v := fun w _ => by
  rw [results_tmp h, ← h1, ← mk_eval]; rfl
theorem isRet.of2 {t u : Nat} {v x : Value} (h : fn.results = #[.tmp t, .tmp u]) (h1 : ev n e (.tmp t) = v) (h2 : ev n e (.tmp u) = x) : isRet fn P n e L (.tuple #[v, x]) := fun w _ => by
  rw [results_tmp2 h, ← h1, ← h2, ← mk_eval]; rfl
theorem isRet.ofs {rs : List ResultVar} {vs : List Value} (h : fn.results = rs.toArray) (hr : RVs P n e L rs vs) : isRet fn P n e L (resOf vs) := fun w hw => by
  unfold results
  simp only [h, List.mapM_toArray]
  rw [Sem.run_bind]
  simp only [map_eq_pure_bind, Sem.run_bind, Sem.run_pure]
  rw [RVs.run (P := P) (n := n) (e := e) (L := L) (w := w) (fun r v hr => ?_) hr]
  · match vs with
    | [] => rfl
    | [v] => rfl
    | v :: u :: vs => simp [resOf, Result.andThen]
  · cases hr with
    | tmp h => rw [← mk_eval] at h; simpa [Act.eval] using h
    | cell h hl => rw [← mk_eval] at h; simp only [Act.eval] at h; simp [h, asAddr, hl w hw]
end

/-! ### Calls -/
def Callable (P : Program) (f : FuncId) : Prop := ∃ fn c, P.funcs[f]? = some fn ∧ (fn.name == "runtime.NumGoroutine") = false ∧ fn.body = some c
theorem run_call {P : Program} {ρ : Operand → Value} {o : Oper} {x : Operand} {as : List Operand} {ts : Array TypeId} {f : FuncId} {fl cl : List Value} {w : World}
    (ho : o.op = .call { callee := .value x, args := as.toArray, argTypes := ts }) (hx : ρ x = .func (.func f) fl.toArray cl.toArray) (hc : Callable P f) :
    (execOp ρ o).run P w = .ok (.enter f (fl ++ as.map ρ ++ cl).toArray) w := by
  obtain ⟨fn, c, h1, h2, h3⟩ := hc
  have h2' : ¬ fn.name = "runtime.NumGoroutine" := by simpa using h2
  simp [execOp, ho, resolve, hx, Deferred.ofValue, invoke, callFunc, h1, h2', h3, List.append_assoc]
end Go.Gv
