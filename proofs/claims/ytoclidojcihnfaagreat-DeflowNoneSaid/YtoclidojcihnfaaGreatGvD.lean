/- Part of an evaluator of the program's calls, proved sound: what it yields, the program does in every world. No condition beyond those that each theorem names. -/
import Derived.Test.YtoclidojcihnfaaGreatGvC
set_option linter.unusedVariables false
set_option linter.unusedSimpArgs false
namespace Go.Gv
open Go.RowKit

/-! ### Operations -/
def wantedS (n : Nat) (ops : Array Oper) (e : Env) (o : Oper) : Bool :=
  match o.guard with
  | none => true
  | some (j, want) => match (ops[j]?).bind (·.dst) with
    | some t => (match ev n e (.tmp t) with | .bool b => b == want | _ => false)
    | none => false
theorem yielded_mk (n : Nat) (ops : Array Oper) (e : Env) (o : Oper) : Region.wanted o (yielded ops (mk n e).tmps) = wantedS n ops e o := by
  unfold Region.wanted wantedS
  cases o.guard with
  | none => rfl
  | some g =>
    obtain ⟨j, want⟩ := g
    simp only [yielded]
    cases h : (ops[j]?).bind (·.dst) with
    | none => simp
    | some t =>
      simp only [Option.bind_some]
      have hg := mk_get n e t
      by_cases ht : t < n
      · have hb : Nat.blt t n = true := by simpa [Nat.blt_eq] using ht
        have h1 : (mk n e).tmps[t]? = some (e t) := by simp [mk, ht]
        simp only [h1, ev, hb, cond_true]
        cases e t <;> simp
      · have hb : Nat.blt t n = false := by rw [Bool.eq_false_iff]; simpa [Nat.blt_eq] using ht
        have h1 : (mk n e).tmps[t]? = none := Array.getElem?_eq_none (by simp only [mk, Array.size_ofFn]; exact Nat.le_of_not_lt ht)
        simp [h1, ev, hb, undef]
theorem semAt_ok {r : Option Nat} {ρ : Operand → Value} {o : Oper} {P : Program} {w w' : World} {x : Next} (h : (execOp ρ o).run P w = .ok x w') (hx : ∀ d, x ≠ .defer d) : (o.semAt r ρ).run P w = .ok x w' := by
  by_cases hd : ∃ c, o.op = .defer c
  · obtain ⟨c, hc⟩ := hd
    exfalso
    simp only [execOp, hc, Sem.run_bind] at h
    cases hr : (resolve ρ c o.type).run P w with
    | ok d w1 => rw [hr] at h; simp at h; exact hx _ h.1.symm
    | halt e w1 => rw [hr] at h; simp [Result.andThen] at h
  · rw [Oper.semAt_eq r ρ o fun c hc => hd ⟨c, hc⟩]; exact h
theorem callsIn_fen {r : Option Nat} {n : Nat} {P : Program} {f : FuncId} {args : Array Value} {w : World} {R : Ending → World → Prop} (h : Calls P f args w R) : CallsIn (fen r) n P f args w R := by
  cases r with
  | none => exact (callsIn_wide (n := n)).2 h
  | some l => exact CallsIn.inRound l ((callsIn_wide (n := n)).2 h)
section
variable {r : Option Nat} {P : Program} {o : Oper} {a : Act} {w w' : World} {K : Act → World → Prop} {Q : Exit → Act → World → Prop}
theorem opIn_value {v : Value} (h : (execOp a.eval o).run P w = .ok (.value v) w') (hk : K (a.put o.dst v) w') : o.wpIn (fen r) 0 P a w K Q := by
  refine ⟨fun _ _ => trivial, ?_⟩
  rw [show (fen r).round = r from rfl, semAt_ok h (fun _ => by simp)]; exact hk
theorem opIn_skip (h : (execOp a.eval o).run P w = .ok .skip w') (hk : K (a.put o.dst undef) w') : o.wpIn (fen r) 0 P a w K Q := by
  refine ⟨fun _ _ => trivial, ?_⟩
  rw [show (fen r).round = r from rfl, semAt_ok h (fun _ => by simp)]; exact hk
theorem opIn_panic {v : Value} (h : (execOp a.eval o).run P w = .halt (.panic v) w') (hq : Q (.panic [{ v, recovered := false }]) a w') : o.wpIn (fen r) 0 P a w K Q := by
  refine ⟨fun _ _ => trivial, ?_⟩
  have h2 : (o.semAt r a.eval).run P w = .halt (.panic v) w' := by
    cases r with
    | none => exact h
    | some l =>
      by_cases hd : ∃ c, o.op = .defer c
      · obtain ⟨c, hc⟩ := hd
        simp only [execOp, hc, Sem.run_bind] at h
        simp only [Oper.semAt, hc, Sem.run_bind]
        cases hr : (resolve a.eval c o.type).run P w with
        | ok d w1 => rw [hr] at h; simp at h
        | halt e w1 => rw [hr] at h; simpa [Result.andThen] using h
      · rw [Oper.semAt_eq (some l) a.eval o fun c hc => hd ⟨c, hc⟩]; exact h
  rw [show (fen r).round = r from rfl, h2]; exact hq
theorem opIn_enter {f : FuncId} {args : Array Value} (h : (execOp a.eval o).run P w = .ok (.enter f args) w') (hc : Calls P f args w' fun
      | .returned v, w'' => K (a.put o.dst v) w''
      | .panicked chain, w'' => Q (.panic chain) a w''
      | .outgrown, _ => LetsOut Q) : o.wpIn (fen r) 0 P a w K Q := by
  refine ⟨fun _ _ => trivial, ?_⟩
  rw [show (fen r).round = r from rfl, semAt_ok h (fun _ => by simp)]
  exact ⟨fun h => (Bool.noConfusion h), callsIn_fen hc⟩
end
/-- The operation has this value, and changes nothing. -/
def Yld (C : Ctx) (L : List HP) (e : Env) (o : Oper) (v : Value) : Prop := ∀ w, St C.w0 C.M L w → (execOp (ev C.n e) o).run C.P w = .ok (.value v) w
section
variable {C : Ctx} {Q : SPost} {e : Env} {L : List HP} {ops : Array Oper} {o : Oper} {l : List Oper}
theorem WL.y {v : Value} {d : Nat} (hw : wantedS C.n ops e o = true) (hd : o.dst = some d) (h : Yld C L e o v) (k : WL C ops Q l (upd e d v) L) : WL C ops Q (o :: l) e L := by
  replace k : WL C ops Q l (updo e o.dst v) L := by rw [hd]; exact k
  intro w hst
  refine wpListIn_step fun K hK => ?_
  rw [yielded_mk, hw]
  simp only [if_true]
  exact opIn_value (by rw [mk_eval]; exact h w hst) (hK _ _ (by rw [mk_put]; exact k w hst))
theorem WL.no {d : Nat} (hw : wantedS C.n ops e o = false) (hd : o.dst = some d) (k : WL C ops Q l (upd e d undef) L) : WL C ops Q (o :: l) e L := by
  replace k : WL C ops Q l (updo e o.dst undef) L := by rw [hd]; exact k
  intro w hst
  refine wpListIn_step fun K hK => ?_
  rw [yielded_mk, hw]
  simp only [Bool.false_eq_true, if_false]
  exact ⟨fun _ _ => trivial, hK _ _ (by rw [mk_put]; exact k w hst)⟩
/-- The operation has a value, and turns the heap. -/
theorem WL.turn (hw : wantedS C.n ops e o = true) (R : Value → List HP → Prop)
    (h : ∀ w, St C.w0 C.M L w → ∃ v w' L', (execOp (ev C.n e) o).run C.P w = .ok (.value v) w' ∧ R v L' ∧ St C.w0 C.M L' w')
    (k : ∀ v L', R v L' → WL C ops Q l (updo e o.dst v) L') : WL C ops Q (o :: l) e L := by
  intro w hst
  refine wpListIn_step fun K hK => ?_
  obtain ⟨v, w', L', h1, h2, h3⟩ := h w hst
  rw [yielded_mk, hw]
  simp only [if_true]
  exact opIn_value (by rw [mk_eval]; exact h1) (hK _ _ (by rw [mk_put]; exact k v L' h2 w' h3))
theorem WL.turn0 (hw : wantedS C.n ops e o = true) (R : List HP → Prop)
    (h : ∀ w, St C.w0 C.M L w → ∃ w' L', (execOp (ev C.n e) o).run C.P w = .ok .skip w' ∧ R L' ∧ St C.w0 C.M L' w')
    (k : ∀ L', R L' → WL C ops Q l (updo e o.dst undef) L') : WL C ops Q (o :: l) e L := by
  intro w hst
  refine wpListIn_step fun K hK => ?_
  obtain ⟨w', L', h1, h2, h3⟩ := h w hst
  rw [yielded_mk, hw]
  simp only [if_true]
  exact opIn_skip (by rw [mk_eval]; exact h1) (hK _ _ (by rw [mk_put]; exact k L' h2 w' h3))
theorem WL.call (hw : wantedS C.n ops e o = true) {x : Operand} {as : List Operand} {ts : Array TypeId} {f : FuncId} {fl cl : List Value} {args : List Value} {L0 r : List HP} {R : Ending → List HP → Prop}
    (ho : o.op = .call { callee := .value x, args := as.toArray, argTypes := ts }) (hx : ev C.n e x = .func (.func f) fl.toArray cl.toArray) (hc : Callable C.P f)
    (ha : fl ++ as.map (ev C.n e) ++ cl = args) (hp : Outs L L0 r) (ht : ∀ w, St C.w0 C.M L w → Tri C.P f args.toArray w L0 R)
    (hout : ∀ L', R .outgrown L' → False) (hpan : ∀ ch L', R (.panicked ch) L' → Q (.panic ch) e (L' ++ r))
    (k : ∀ v L', R (.returned v) L' → WL C ops Q l (updo e o.dst v) (L' ++ r)) : WL C ops Q (o :: l) e L := by
  intro w hst
  refine wpListIn_step fun K hK => ?_
  rw [yielded_mk, hw]
  subst ha
  simp only [if_true]
  refine opIn_enter (by rw [mk_eval]; exact run_call (w := w) ho hx hc) ?_
  refine (ht w hst).mono ?_
  rintro en w' ⟨L', hR, hst'⟩
  have hnew : St C.w0 C.M (L' ++ r) w' := St.step (hst.perm hp.perm) hst'
  cases en with
  | returned v => exact hK _ _ (by rw [mk_put]; exact k v L' hR w' hnew)
  | panicked ch => exact ⟨e, _, rfl, hnew, hpan ch L' hR⟩
  | outgrown => exact (hout L' hR).elim
theorem WL.callR (hw : wantedS C.n ops e o = true) {x : Operand} {as : List Operand} {ts : Array TypeId} {f : FuncId} {fl cl : List Value} {args : List Value} {L0 r : List HP} {R : Value → List HP → Prop}
    (ho : o.op = .call { callee := .value x, args := as.toArray, argTypes := ts }) (hx : ev C.n e x = .func (.func f) fl.toArray cl.toArray) (hc : Callable C.P f)
    (ha : fl ++ as.map (ev C.n e) ++ cl = args) (hp : Outs L L0 r) (ht : ∀ w, St C.w0 C.M L w → Tri C.P f args.toArray w L0 (Ret R))
    (k : ∀ v L', R v L' → WL C ops Q l (updo e o.dst v) (L' ++ r)) : WL C ops Q (o :: l) e L :=
  WL.call hw ho hx hc ha hp ht (fun _ h => h) (fun _ _ h => h.elim) k
end

/-! ### Facts on types, each by a run of the kernel -/
def tyI (P : Program) (t : Nat) : Option (Value × Nat × Nat) := match P.info? t with
  | some i => match i.zero with
    | some z => some (z, i.size, i.bytes)
    | none => none
  | none => none
def fldI (P : Program) (s f : Nat) : Option Nat := match P.underlying s with
  | some (.struct fs) => match fs[f]? with
    | some fl => match P.info? fl.type with
      | some i => bif Nat.beq i.size 0 then none else some fl.offset
      | none => none
    | none => none
  | _ => none
def slI (P : Program) (t : Nat) : Option (Nat × Nat × Nat × Value) := match P.underlying t with
  | some (.slice e) => match tyI P e with
    | some (z, s, b) => some (e, s, b, z)
    | none => none
  | _ => none
def arI (P : Program) (t : Nat) : Option (Nat × Nat × Nat) := match P.underlying t with
  | some (.array n e) => match tyI P e with
    | some (z, s, b) => some (n, e, s)
    | none => none
  | _ => none
def aggI (P : Program) (t : Nat) : Option Bool := match P.underlying t with
  | some (.struct _) => some true
  | some (.array _ _) => some true
  | some _ => some false
  | none => none
def P_int (P : Program) (u : Nat) : Option IntKind := match P.underlying u with | some (.int k) => some k | _ => none
section
variable {P : Program} {t s f : Nat}
theorem tyI.info {z : Value} {sz by_ : Nat} (h : tyI P t = some (z, sz, by_)) : ∃ i, P.info? t = some i ∧ i.zero = some z ∧ i.size = sz ∧ i.bytes = by_ := by
  unfold tyI at h
  split at h
  · rename_i i hi
    split at h
    · rename_i z' hz
      simp only [Option.some.injEq, Prod.mk.injEq] at h
      obtain ⟨rfl, rfl, rfl⟩ := h
      exact ⟨i, hi, hz, rfl, rfl⟩
    · cases h
  · cases h
theorem tyI.size {z : Value} {sz by_ : Nat} (h : tyI P t = some (z, sz, by_)) (w : World) : (sizeOf t).run P w = .ok sz w := by
  obtain ⟨i, h1, h2, h3, h4⟩ := tyI.info h
  simp [sizeOf, typeInfo, h1, h3]
theorem tyI.zero {z : Value} {sz by_ : Nat} (h : tyI P t = some (z, sz, by_)) (w : World) : (zeroValue t).run P w = .ok z w := by
  obtain ⟨i, h1, h2, h3, h4⟩ := tyI.info h
  simp [zeroValue, typeInfo, h1, h2]
theorem aggI.run {b : Bool} (h : aggI P t = some b) (w : World) : (isAgg t).run P w = .ok b w := by
  unfold aggI at h
  split at h
  · rename_i fs hu; injection h with h; subst h; simp [isAgg, run_underlying hu]
  · rename_i n e hu; injection h with h; subst h; simp [isAgg, run_underlying hu]
  · rename_i d hne1 hne2 hu
    injection h with h; subst h
    cases hd : d <;> simp_all [isAgg, run_underlying hu]
  · cases h
theorem slI.info {el sz by_ : Nat} {z : Value} (h : slI P t = some (el, sz, by_, z)) : P.underlying t = some (.slice el) ∧ tyI P el = some (z, sz, by_) := by
  unfold slI at h
  split at h
  · rename_i e hu
    split at h
    · rename_i z' s' b' ht
      simp only [Option.some.injEq, Prod.mk.injEq] at h
      obtain ⟨rfl, rfl, rfl, rfl⟩ := h
      exact ⟨hu, ht⟩
    · cases h
  · cases h
theorem arI.info {n el sz : Nat} (h : arI P t = some (n, el, sz)) : P.underlying t = some (.array n el) ∧ ∃ z b, tyI P el = some (z, sz, b) := by
  unfold arI at h
  split at h
  · rename_i n' e hu
    split at h
    · rename_i z' s' b' ht
      simp only [Option.some.injEq, Prod.mk.injEq] at h
      obtain ⟨rfl, rfl, rfl⟩ := h
      exact ⟨hu, _, _, ht⟩
    · cases h
  · cases h
theorem add_none (b o k : Nat) : (⟨b, o, none⟩ : Addr).add k = ⟨b, o + k, none⟩ := by
  unfold Addr.add; split <;> simp_all
theorem fldI.run {off b o : Nat} (h : fldI P s f = some off) (w : World) : (Instr.fieldAt s (.pointer (some ⟨b, o, none⟩)) f).run P w = .ok (.pointer (some ⟨b, o + off, none⟩)) w := by
  unfold fldI at h
  split at h
  · rename_i fs hu
    split at h
    · rename_i fl hfl
      split at h
      · rename_i i hi
        cases hs : Nat.beq i.size 0 with
        | true => rw [hs] at h; cases h
        | false =>
          rw [hs] at h
          simp only [cond_false, Option.some.injEq] at h
          subst h
          have hne : ¬ i.size = 0 := fun h0 => by rw [h0] at hs; cases hs
          simp [Instr.fieldAt, run_underlying hu, hfl, Instr.sureAddr, fieldPlace, sizeOf, typeInfo, hi, hne, add_none]
      · cases h
    · cases h
  · cases h
end
theorem Yld.cv_run {P : Program} {t u : TypeId} {k : IntKind} (hu : P_int P u = some k) (ht : (P.underlying t).isSome = true) (j : IntKind) (a : Int) (w : World) : (convert t u (.int j a)).run P w = .ok (.int k (k.wrap a)) w := by
  unfold P_int at hu
  split at hu
  · rename_i k' hk
    injection hu with hu; subst hu
    obtain ⟨d, hd⟩ := Option.isSome_iff_exists.1 ht
    cases hd' : d <;> simp [convert, run_underlying hk, run_underlying hd, Conv.intToInt]
  · cases hu

/-! ### Values -/
section
variable {C : Ctx} {Q : SPost} {e : Env} {L : List HP} {ops : Array Oper} {o : Oper} {l : List Oper}
theorem Yld.move {x : Operand} {v : Value} (ho : o.op = .move x) (hx : ev C.n e x = v) : Yld C L e o v := fun w _ => by simp [execOp, ho, hx]
theorem Yld.assign {x : Operand} {v : Value} (ho : o.op = .assign x) (hx : ev C.n e x = v) : Yld C L e o v := fun w _ => by simp [execOp, ho, hx]
theorem Yld.bin {op : BinOp} {t u : TypeId} {x y : Operand} {k : IntKind} {a b : Int} {v : Value} (ho : o.op = .binOp op t x y u) (hx : ev C.n e x = .int k a) (hy : ev C.n e y = .int k b)
    (hv : ∀ w, (binOp op t (.int k a) (.int k b)).run C.P w = .ok v w) : Yld C L e o v := fun w _ => by
  cases op <;> simp [execOp, ho, hx, hy, eqGuard, hv w]
variable {t u : TypeId} {x y : Operand} {k : IntKind} {a b : Int}
theorem Yld.add64 (ho : o.op = .binOp .add t x y u) (hx : ev C.n e x = .int .i64 a) (hy : ev C.n e y = .int .i64 b) (h1 : -9223372036854775808 ≤ a + b) (h2 : a + b ≤ 9223372036854775807) : Yld C L e o (.int .i64 (a + b)) :=
  Yld.bin ho hx hy fun w => by simp [binOp, Op.intArith, IntWalk.i64_in _ ⟨h1, h2⟩]
theorem Yld.sub64 (ho : o.op = .binOp .sub t x y u) (hx : ev C.n e x = .int .i64 a) (hy : ev C.n e y = .int .i64 b) (h1 : -9223372036854775808 ≤ a - b) (h2 : a - b ≤ 9223372036854775807) : Yld C L e o (.int .i64 (a - b)) :=
  Yld.bin ho hx hy fun w => by simp [binOp, Op.intArith, IntWalk.i64_in _ ⟨h1, h2⟩]
theorem Yld.mul64 (ho : o.op = .binOp .mul t x y u) (hx : ev C.n e x = .int .i64 a) (hy : ev C.n e y = .int .i64 b) (h1 : -9223372036854775808 ≤ a * b) (h2 : a * b ≤ 9223372036854775807) : Yld C L e o (.int .i64 (a * b)) :=
  Yld.bin ho hx hy fun w => by simp [binOp, Op.intArith, IntWalk.i64_in _ ⟨h1, h2⟩]
theorem Yld.quo64 (ho : o.op = .binOp .quo t x y u) (hx : ev C.n e x = .int .i64 a) (hy : ev C.n e y = .int .i64 b) (h1 : 0 ≤ a) (h2 : 0 < b) (h3 : a ≤ 9223372036854775807) : Yld C L e o (.int .i64 (a / b)) :=
  Yld.bin ho hx hy fun w => by
    have h4 : 0 ≤ a / b := Int.ediv_nonneg h1 (by omega)
    have h5 : a / b ≤ a := Int.ediv_le_self b h1
    simp [binOp, Op.intDiv, show ¬ b = 0 by omega, Int.tdiv_eq_ediv_of_nonneg h1, IntWalk.i64_in (a / b) ⟨by omega, by omega⟩]
theorem Yld.rem64 (ho : o.op = .binOp .rem t x y u) (hx : ev C.n e x = .int .i64 a) (hy : ev C.n e y = .int .i64 b) (h1 : 0 ≤ a) (h2 : 0 < b) : Yld C L e o (.int .i64 (a % b)) :=
  Yld.bin ho hx hy fun w => by
    simp [binOp, Op.intDiv, show ¬ b = 0 by omega, Int.tmod_eq_emod_of_nonneg h1]
theorem Yld.cv64 {j : IntKind} (ho : o.op = .convert t u x) (hu : P_int C.P u = some .i64) (ht : (C.P.underlying t).isSome = true) (hx : ev C.n e x = .int j a) (h1 : -9223372036854775808 ≤ a) (h2 : a ≤ 9223372036854775807) : Yld C L e o (.int .i64 a) := fun w _ => by
  have := Yld.cv_run (P := C.P) (t := t) hu ht j a w
  simp [execOp, ho, hx, this, IntWalk.i64_in _ ⟨h1, h2⟩]
theorem Yld.addU8 (ho : o.op = .binOp .add t x y u) (hx : ev C.n e x = .int .u8 a) (hy : ev C.n e y = .int .u8 b) (h1 : 0 ≤ a + b) (h2 : a + b ≤ 255) : Yld C L e o (.int .u8 (a + b)) :=
  Yld.bin ho hx hy fun w => by simp [binOp, Op.intArith, IntWalk.u8_in _ ⟨h1, h2⟩]
theorem Yld.subU8 (ho : o.op = .binOp .sub t x y u) (hx : ev C.n e x = .int .u8 a) (hy : ev C.n e y = .int .u8 b) (h1 : 0 ≤ a - b) (h2 : a - b ≤ 255) : Yld C L e o (.int .u8 (a - b)) :=
  Yld.bin ho hx hy fun w => by simp [binOp, Op.intArith, IntWalk.u8_in _ ⟨h1, h2⟩]
theorem Yld.mulU8 (ho : o.op = .binOp .mul t x y u) (hx : ev C.n e x = .int .u8 a) (hy : ev C.n e y = .int .u8 b) (h1 : 0 ≤ a * b) (h2 : a * b ≤ 255) : Yld C L e o (.int .u8 (a * b)) :=
  Yld.bin ho hx hy fun w => by simp [binOp, Op.intArith, IntWalk.u8_in _ ⟨h1, h2⟩]
theorem Yld.quoU8 (ho : o.op = .binOp .quo t x y u) (hx : ev C.n e x = .int .u8 a) (hy : ev C.n e y = .int .u8 b) (h1 : 0 ≤ a) (h2 : 0 < b) (h3 : a ≤ 255) : Yld C L e o (.int .u8 (a / b)) :=
  Yld.bin ho hx hy fun w => by
    have h4 : 0 ≤ a / b := Int.ediv_nonneg h1 (by omega)
    have h5 : a / b ≤ a := Int.ediv_le_self b h1
    simp [binOp, Op.intDiv, show ¬ b = 0 by omega, Int.tdiv_eq_ediv_of_nonneg h1, IntWalk.u8_in (a / b) ⟨by omega, by omega⟩]
theorem Yld.remU8 (ho : o.op = .binOp .rem t x y u) (hx : ev C.n e x = .int .u8 a) (hy : ev C.n e y = .int .u8 b) (h1 : 0 ≤ a) (h2 : 0 < b) : Yld C L e o (.int .u8 (a % b)) :=
  Yld.bin ho hx hy fun w => by
    simp [binOp, Op.intDiv, show ¬ b = 0 by omega, Int.tmod_eq_emod_of_nonneg h1]
theorem Yld.cvU8 {j : IntKind} (ho : o.op = .convert t u x) (hu : P_int C.P u = some .u8) (ht : (C.P.underlying t).isSome = true) (hx : ev C.n e x = .int j a) (h1 : 0 ≤ a) (h2 : a ≤ 255) : Yld C L e o (.int .u8 a) := fun w _ => by
  have := Yld.cv_run (P := C.P) (t := t) hu ht j a w
  simp [execOp, ho, hx, this, IntWalk.u8_in _ ⟨h1, h2⟩]
theorem Yld.addU32 (ho : o.op = .binOp .add t x y u) (hx : ev C.n e x = .int .u32 a) (hy : ev C.n e y = .int .u32 b) (h1 : 0 ≤ a + b) (h2 : a + b ≤ 4294967295) : Yld C L e o (.int .u32 (a + b)) :=
  Yld.bin ho hx hy fun w => by simp [binOp, Op.intArith, IntWalk.u32_in _ ⟨h1, h2⟩]
theorem Yld.subU32 (ho : o.op = .binOp .sub t x y u) (hx : ev C.n e x = .int .u32 a) (hy : ev C.n e y = .int .u32 b) (h1 : 0 ≤ a - b) (h2 : a - b ≤ 4294967295) : Yld C L e o (.int .u32 (a - b)) :=
  Yld.bin ho hx hy fun w => by simp [binOp, Op.intArith, IntWalk.u32_in _ ⟨h1, h2⟩]
theorem Yld.mulU32 (ho : o.op = .binOp .mul t x y u) (hx : ev C.n e x = .int .u32 a) (hy : ev C.n e y = .int .u32 b) (h1 : 0 ≤ a * b) (h2 : a * b ≤ 4294967295) : Yld C L e o (.int .u32 (a * b)) :=
  Yld.bin ho hx hy fun w => by simp [binOp, Op.intArith, IntWalk.u32_in _ ⟨h1, h2⟩]
theorem Yld.quoU32 (ho : o.op = .binOp .quo t x y u) (hx : ev C.n e x = .int .u32 a) (hy : ev C.n e y = .int .u32 b) (h1 : 0 ≤ a) (h2 : 0 < b) (h3 : a ≤ 4294967295) : Yld C L e o (.int .u32 (a / b)) :=
  Yld.bin ho hx hy fun w => by
    have h4 : 0 ≤ a / b := Int.ediv_nonneg h1 (by omega)
    have h5 : a / b ≤ a := Int.ediv_le_self b h1
    simp [binOp, Op.intDiv, show ¬ b = 0 by omega, Int.tdiv_eq_ediv_of_nonneg h1, IntWalk.u32_in (a / b) ⟨by omega, by omega⟩]
theorem Yld.remU32 (ho : o.op = .binOp .rem t x y u) (hx : ev C.n e x = .int .u32 a) (hy : ev C.n e y = .int .u32 b) (h1 : 0 ≤ a) (h2 : 0 < b) : Yld C L e o (.int .u32 (a % b)) :=
  Yld.bin ho hx hy fun w => by
    simp [binOp, Op.intDiv, show ¬ b = 0 by omega, Int.tmod_eq_emod_of_nonneg h1]
theorem Yld.cvU32 {j : IntKind} (ho : o.op = .convert t u x) (hu : P_int C.P u = some .u32) (ht : (C.P.underlying t).isSome = true) (hx : ev C.n e x = .int j a) (h1 : 0 ≤ a) (h2 : a ≤ 4294967295) : Yld C L e o (.int .u32 a) := fun w _ => by
  have := Yld.cv_run (P := C.P) (t := t) hu ht j a w
  simp [execOp, ho, hx, this, IntWalk.u32_in _ ⟨h1, h2⟩]
theorem Yld.addU64 (ho : o.op = .binOp .add t x y u) (hx : ev C.n e x = .int .u64 a) (hy : ev C.n e y = .int .u64 b) (h1 : 0 ≤ a + b) (h2 : a + b ≤ 18446744073709551615) : Yld C L e o (.int .u64 (a + b)) :=
  Yld.bin ho hx hy fun w => by simp [binOp, Op.intArith, IntWalk.u64_in _ ⟨h1, h2⟩]
theorem Yld.subU64 (ho : o.op = .binOp .sub t x y u) (hx : ev C.n e x = .int .u64 a) (hy : ev C.n e y = .int .u64 b) (h1 : 0 ≤ a - b) (h2 : a - b ≤ 18446744073709551615) : Yld C L e o (.int .u64 (a - b)) :=
  Yld.bin ho hx hy fun w => by simp [binOp, Op.intArith, IntWalk.u64_in _ ⟨h1, h2⟩]
theorem Yld.mulU64 (ho : o.op = .binOp .mul t x y u) (hx : ev C.n e x = .int .u64 a) (hy : ev C.n e y = .int .u64 b) (h1 : 0 ≤ a * b) (h2 : a * b ≤ 18446744073709551615) : Yld C L e o (.int .u64 (a * b)) :=
  Yld.bin ho hx hy fun w => by simp [binOp, Op.intArith, IntWalk.u64_in _ ⟨h1, h2⟩]
theorem Yld.quoU64 (ho : o.op = .binOp .quo t x y u) (hx : ev C.n e x = .int .u64 a) (hy : ev C.n e y = .int .u64 b) (h1 : 0 ≤ a) (h2 : 0 < b) (h3 : a ≤ 18446744073709551615) : Yld C L e o (.int .u64 (a / b)) :=
  Yld.bin ho hx hy fun w => by
    have h4 : 0 ≤ a / b := Int.ediv_nonneg h1 (by omega)
    have h5 : a / b ≤ a := Int.ediv_le_self b h1
    simp [binOp, Op.intDiv, show ¬ b = 0 by omega, Int.tdiv_eq_ediv_of_nonneg h1, IntWalk.u64_in (a / b) ⟨by omega, by omega⟩]
theorem Yld.remU64 (ho : o.op = .binOp .rem t x y u) (hx : ev C.n e x = .int .u64 a) (hy : ev C.n e y = .int .u64 b) (h1 : 0 ≤ a) (h2 : 0 < b) : Yld C L e o (.int .u64 (a % b)) :=
  Yld.bin ho hx hy fun w => by
    simp [binOp, Op.intDiv, show ¬ b = 0 by omega, Int.tmod_eq_emod_of_nonneg h1]
theorem Yld.cvU64 {j : IntKind} (ho : o.op = .convert t u x) (hu : P_int C.P u = some .u64) (ht : (C.P.underlying t).isSome = true) (hx : ev C.n e x = .int j a) (h1 : 0 ≤ a) (h2 : a ≤ 18446744073709551615) : Yld C L e o (.int .u64 a) := fun w _ => by
  have := Yld.cv_run (P := C.P) (t := t) hu ht j a w
  simp [execOp, ho, hx, this, IntWalk.u64_in _ ⟨h1, h2⟩]
theorem Yld.addW (ho : o.op = .binOp .add t x y u) (hx : ev C.n e x = .int k a) (hy : ev C.n e y = .int k b) : Yld C L e o (.int k (k.wrap (a + b))) :=
  Yld.bin ho hx hy fun w => by simp [binOp, Op.intArith]
theorem Yld.subW (ho : o.op = .binOp .sub t x y u) (hx : ev C.n e x = .int k a) (hy : ev C.n e y = .int k b) : Yld C L e o (.int k (k.wrap (a - b))) :=
  Yld.bin ho hx hy fun w => by simp [binOp, Op.intArith]
theorem Yld.mulW (ho : o.op = .binOp .mul t x y u) (hx : ev C.n e x = .int k a) (hy : ev C.n e y = .int k b) : Yld C L e o (.int k (k.wrap (a * b))) :=
  Yld.bin ho hx hy fun w => by simp [binOp, Op.intArith]
theorem Yld.lss (ho : o.op = .binOp .lss t x y u) (hx : ev C.n e x = .int k a) (hy : ev C.n e y = .int k b) : Yld C L e o (.bool (decide (a < b))) := Yld.bin ho hx hy fun w => by simp [binOp, Op.intCmp]
theorem Yld.leq (ho : o.op = .binOp .leq t x y u) (hx : ev C.n e x = .int k a) (hy : ev C.n e y = .int k b) : Yld C L e o (.bool (decide (a ≤ b))) := Yld.bin ho hx hy fun w => by simp [binOp, Op.intCmp]
theorem Yld.gtr (ho : o.op = .binOp .gtr t x y u) (hx : ev C.n e x = .int k a) (hy : ev C.n e y = .int k b) : Yld C L e o (.bool (decide (b < a))) := Yld.bin ho hx hy fun w => by simp [binOp, Op.intCmp]
theorem Yld.geq (ho : o.op = .binOp .geq t x y u) (hx : ev C.n e x = .int k a) (hy : ev C.n e y = .int k b) : Yld C L e o (.bool (decide (b ≤ a))) := Yld.bin ho hx hy fun w => by simp [binOp, Op.intCmp]
theorem Yld.eql (ho : o.op = .binOp .eql t x y u) (hx : ev C.n e x = .int k a) (hy : ev C.n e y = .int k b) : Yld C L e o (.bool (a == b)) := Yld.bin ho hx hy fun w => by simp [binOp, Op.intCmp]
theorem Yld.neq (ho : o.op = .binOp .neq t x y u) (hx : ev C.n e x = .int k a) (hy : ev C.n e y = .int k b) : Yld C L e o (.bool (a != b)) := Yld.bin ho hx hy fun w => by simp [binOp, Op.intCmp]
def iand (k : IntKind) (a b : Int) : Int := k.wrap ((BitVec.ofInt k.bits a &&& BitVec.ofInt k.bits b).toNat : Int)
def ior (k : IntKind) (a b : Int) : Int := k.wrap ((BitVec.ofInt k.bits a ||| BitVec.ofInt k.bits b).toNat : Int)
def ixor (k : IntKind) (a b : Int) : Int := k.wrap ((BitVec.ofInt k.bits a ^^^ BitVec.ofInt k.bits b).toNat : Int)
def iandnot (k : IntKind) (a b : Int) : Int := k.wrap ((BitVec.ofInt k.bits a &&& ~~~BitVec.ofInt k.bits b).toNat : Int)
def ishl (k : IntKind) (a b : Int) : Int := k.wrap (a * 2 ^ min b.toNat k.bits)
def ishr (k : IntKind) (a b : Int) : Int := a.fdiv (2 ^ min b.toNat k.bits)
theorem Yld.and (ho : o.op = .binOp .and t x y u) (hx : ev C.n e x = .int k a) (hy : ev C.n e y = .int k b) : Yld C L e o (.int k (iand k a b)) := Yld.bin ho hx hy fun w => by simp [binOp, Op.intBits, iand]
theorem Yld.or (ho : o.op = .binOp .or t x y u) (hx : ev C.n e x = .int k a) (hy : ev C.n e y = .int k b) : Yld C L e o (.int k (ior k a b)) := Yld.bin ho hx hy fun w => by simp [binOp, Op.intBits, ior]
theorem Yld.xor (ho : o.op = .binOp .xor t x y u) (hx : ev C.n e x = .int k a) (hy : ev C.n e y = .int k b) : Yld C L e o (.int k (ixor k a b)) := Yld.bin ho hx hy fun w => by simp [binOp, Op.intBits, ixor]
theorem Yld.andNot (ho : o.op = .binOp .andNot t x y u) (hx : ev C.n e x = .int k a) (hy : ev C.n e y = .int k b) : Yld C L e o (.int k (iandnot k a b)) := Yld.bin ho hx hy fun w => by simp [binOp, Op.intBits, iandnot]
theorem Yld.shl {j : IntKind} (ho : o.op = .binOp .shl t x y u) (hx : ev C.n e x = .int k a) (hy : ev C.n e y = .int j b) (h : 0 ≤ b) : Yld C L e o (.int k (ishl k a b)) := fun w _ => by
  simp [execOp, ho, hx, hy, eqGuard, binOp, Op.shift, show ¬ b < 0 by omega, ishl]
theorem Yld.shr {j : IntKind} (ho : o.op = .binOp .shr t x y u) (hx : ev C.n e x = .int k a) (hy : ev C.n e y = .int j b) (h : 0 ≤ b) : Yld C L e o (.int k (ishr k a b)) := fun w _ => by
  simp [execOp, ho, hx, hy, eqGuard, binOp, Op.shift, show ¬ b < 0 by omega, ishr]
theorem Yld.not {b : Bool} (ho : o.op = .unOp .not t x) (hx : ev C.n e x = .bool b) : Yld C L e o (.bool (!b)) := fun w _ => by simp [execOp, ho, hx, Op.unary]
theorem Yld.inv (ho : o.op = .unOp .xor t x) (hx : ev C.n e x = .int k a) : Yld C L e o (.int k (ixor k (if k.signed then -1 else k.max) a)) := fun w _ => by simp [execOp, ho, hx, Op.unary, Op.intBits, ixor]
theorem Yld.neg (ho : o.op = .unOp .neg t x) (hx : ev C.n e x = .int k a) : Yld C L e o (.int k (k.wrap (0 - a))) := fun w _ => by simp [execOp, ho, hx, Op.unary, Op.intArith]
theorem Yld.cvW {j : IntKind} (ho : o.op = .convert t u x) (hu : P_int C.P u = some k) (ht : (C.P.underlying t).isSome = true) (hx : ev C.n e x = .int j a) : Yld C L e o (.int k (k.wrap a)) := fun w _ => by
  have := Yld.cv_run (P := C.P) (t := t) hu ht j a w
  simp [execOp, ho, hx, this]
theorem Yld.pickT {c z : Operand} {v : Value} {b : Bool} (ho : o.op = .pick c x z) (hc : ev C.n e c = .bool b) (hb : b = true) (hx : ev C.n e x = v) : Yld C L e o v := fun w _ => by subst hb; simp [execOp, ho, hc, asBool, hx]
theorem Yld.pickF {c z : Operand} {v : Value} {b : Bool} (ho : o.op = .pick c x z) (hc : ev C.n e c = .bool b) (hb : b = false) (hx : ev C.n e z = v) : Yld C L e o v := fun w _ => by subst hb; simp [execOp, ho, hc, asBool, hx]
theorem Yld.nilp {p : Addr} (ho : o.op = .nilCheck x) (hx : ev C.n e x = .pointer (some p)) : Yld C L e o (.pointer (some p)) := fun w _ => by simp [execOp, ho, hx]
theorem Yld.extract {vs : List Value} {i : Nat} {v : Value} (ho : o.op = .extract x i) (hx : ev C.n e x = .tuple vs.toArray) (hv : vs[i]? = some v) : Yld C L e o v := fun w _ => by simp [execOp, ho, hx, Instr.extract, hv]
theorem Yld.fld {s f b p off : Nat} (ho : o.op = .fieldAddr s x f) (hf : fldI C.P s f = some off) (hx : ev C.n e x = .pointer (some ⟨b, p, none⟩)) : Yld C L e o (.pointer (some ⟨b, p + off, none⟩)) := fun w _ => by
  simp [execOp, ho, hx, fldI.run hf]
theorem Yld.idx {el sz by_ b p len cap : Nat} {z : Value} (ho : o.op = .indexAddr t x y) (hs : slI C.P t = some (el, sz, by_, z)) (hx : ev C.n e x = .slice (some ⟨b, p, none⟩) len cap) (hy : ev C.n e y = .int k a) (h0 : 0 ≤ a) (h1 : a < len) : Yld C L e o (.pointer (some ⟨b, p + a.toNat * sz, none⟩)) := fun w _ => by
  obtain ⟨hu, ht⟩ := slI.info hs
  simp [execOp, ho, hx, hy, Instr.indexAt, asIntOf, run_underlying hu, h0, h1, tyI.size ht, add_none]
theorem Yld.idxA {n el sz b p : Nat} (ho : o.op = .indexAddr t x y) (hs : arI C.P t = some (n, el, sz)) (hx : ev C.n e x = .pointer (some ⟨b, p, none⟩)) (hy : ev C.n e y = .int k a) (h0 : 0 ≤ a) (h1 : a < n) : Yld C L e o (.pointer (some ⟨b, p + a.toNat * sz, none⟩)) := fun w _ => by
  obtain ⟨hu, z, b', ht⟩ := arI.info hs
  simp [execOp, ho, hx, hy, Instr.indexAt, asIntOf, run_underlying hu, h0, h1, tyI.size ht, add_none, Instr.sureAddr]
theorem Yld.lenL {A : Option Addr} {n c el sz by_ : Nat} {z : Value} (ho : o.op = .call { callee := .builtin .len, args := #[x], argTypes := #[t] }) (hs : slI C.P t = some (el, sz, by_, z)) (hx : ev C.n e x = .slice A n c) : Yld C L e o (.int .i64 n) := fun w _ => by
  simp [execOp, ho, hx, resolve, invoke, builtin, Builtin.len_, run_underlying (slI.info hs).1, goInt]
theorem Yld.lenS {s : ByteArray} (ho : o.op = .call { callee := .builtin .len, args := #[x], argTypes := #[t] }) (hs : C.P.underlying t = some .string) (hx : ev C.n e x = .string s) : Yld C L e o (.int .i64 s.size) := fun w _ => by
  simp [execOp, ho, hx, resolve, invoke, builtin, Builtin.len_, run_underlying hs, goInt]
theorem Yld.lenA {n el sz : Nat} (ho : o.op = .call { callee := .builtin .len, args := #[x], argTypes := #[t] }) (hs : arI C.P t = some (n, el, sz)) : Yld C L e o (.int .i64 n) := fun w _ => by
  simp [execOp, ho, resolve, invoke, builtin, Builtin.len_, run_underlying (arI.info hs).1, goInt]
theorem Yld.min {ts : Array TypeId} (ho : o.op = .call { callee := .builtin .min, args := #[x, y], argTypes := ts }) (hx : ev C.n e x = .int k a) (hy : ev C.n e y = .int k b) : Yld C L e o (.int k (Min.min a b)) := fun w _ => by
  have hm : (if b < a then b else a) = Min.min a b := by split <;> omega
  simp [execOp, ho, resolve, invoke, builtin, Builtin.min_, hx, hy, Builtin.min2, hm]
theorem Yld.max {ts : Array TypeId} (ho : o.op = .call { callee := .builtin .max, args := #[x, y], argTypes := ts }) (hx : ev C.n e x = .int k a) (hy : ev C.n e y = .int k b) : Yld C L e o (.int k (Max.max a b)) := fun w _ => by
  have hm : (if a < b then b else a) = Max.max a b := by split <;> omega
  simp [execOp, ho, resolve, invoke, builtin, Builtin.max_, hx, hy, Builtin.max2, hm]
/-- A byte of a string. -/
def byt (s : ByteArray) (i : Nat) : Nat := (s.data.toList.getD i 0).toNat
theorem byt_lt (s : ByteArray) (i : Nat) : byt s i < 256 := by unfold byt; exact UInt8.toNat_lt _
theorem byt_get (s : ByteArray) (i : Nat) (h : i < s.size) : ∃ c, s[i]? = some c ∧ c.toNat = byt s i := by
  refine ⟨s[i], by simp [h], ?_⟩
  have h2 : i < s.data.size := h
  have : s.data.toList.getD i 0 = s[i] := by
    rw [List.getD_eq_getElem?_getD, List.getElem?_eq_getElem (by simpa using h2)]; rfl
  rw [byt, this]
theorem Yld.chr {s : ByteArray} (ho : o.op = .index t x y) (hs : C.P.underlying t = some .string) (hx : ev C.n e x = .string s) (hy : ev C.n e y = .int k a) (h0 : 0 ≤ a) (h1 : a < s.size) : Yld C L e o (.int .u8 (byt s a.toNat)) := fun w _ => by
  obtain ⟨c, h3, h4⟩ := byt_get s a.toNat (by omega)
  simp [execOp, ho, hx, hy, Instr.index, asIntOf, run_underlying hs, h0, h3, h4]
theorem sub_run {P : Program} {s : ByteArray} {lo hi : Option Value} (hs : P.underlying t = some .string) {i j : Nat}
    (hlo : (lo = none ∧ i = 0) ∨ ∃ k, lo = some (.int k (i : Int))) (hhi : (hi = none ∧ j = s.size) ∨ ∃ k, hi = some (.int k (j : Int))) (h1 : i ≤ j) (h2 : j ≤ s.size) (w : World) :
    (Instr.sliceAt t (.string s) lo hi none).run P w = .ok (.string (s.extract i j)) w := by
  rcases hlo with ⟨rfl, rfl⟩ | ⟨k1, rfl⟩ <;> rcases hhi with ⟨rfl, rfl⟩ | ⟨k2, rfl⟩ <;>
    simp [Instr.sliceAt, Instr.slice, run_underlying hs, Instr.sliceBounds, Instr.sliceBound, asIntOf, h1, h2]
theorem Yld.subLH {s : ByteArray} {p q : Operand} {k1 k2 : IntKind} (ho : o.op = .slice t x (some p) (some q) none) (hs : C.P.underlying t = some .string) (hx : ev C.n e x = .string s) (hp : ev C.n e p = .int k1 a) (hq : ev C.n e q = .int k2 b) (h0 : 0 ≤ a) (h1 : a ≤ b) (h2 : b ≤ s.size) : Yld C L e o (.string (s.extract a.toNat b.toNat)) := fun w _ => by
  have := sub_run (P := C.P) (s := s) (lo := some (.int k1 a)) (hi := some (.int k2 b)) hs (i := a.toNat) (j := b.toNat) (.inr ⟨k1, by rw [Int.toNat_of_nonneg h0]⟩) (.inr ⟨k2, by rw [Int.toNat_of_nonneg (by omega)]⟩) (by omega) (by omega) w
  simp [execOp, ho, hx, hp, hq, this]
theorem Yld.subL {s : ByteArray} {p : Operand} {k1 : IntKind} (ho : o.op = .slice t x (some p) none none) (hs : C.P.underlying t = some .string) (hx : ev C.n e x = .string s) (hp : ev C.n e p = .int k1 a) (h0 : 0 ≤ a) (h1 : a ≤ s.size) : Yld C L e o (.string (s.extract a.toNat s.size)) := fun w _ => by
  have := sub_run (P := C.P) (s := s) (lo := some (.int k1 a)) (hi := none) hs (i := a.toNat) (j := s.size) (.inr ⟨k1, by rw [Int.toNat_of_nonneg h0]⟩) (.inl ⟨rfl, rfl⟩) (by omega) (by omega) w
  simp [execOp, ho, hx, hp, this]
theorem Yld.subH {s : ByteArray} {q : Operand} {k2 : IntKind} (ho : o.op = .slice t x none (some q) none) (hs : C.P.underlying t = some .string) (hx : ev C.n e x = .string s) (hq : ev C.n e q = .int k2 b) (h0 : 0 ≤ b) (h2 : b ≤ s.size) : Yld C L e o (.string (s.extract 0 b.toNat)) := fun w _ => by
  have := sub_run (P := C.P) (s := s) (lo := none) (hi := some (.int k2 b)) hs (i := 0) (j := b.toNat) (.inl ⟨rfl, rfl⟩) (.inr ⟨k2, by rw [Int.toNat_of_nonneg h0]⟩) (by omega) (by omega) w
  simp [execOp, ho, hx, hq, this]
theorem Yld.catS {p q : ByteArray} (ho : o.op = .binOp .add t x y u) (hx : ev C.n e x = .string p) (hy : ev C.n e y = .string q) (hl : p.size + q.size ≤ 9223372036854775807) : Yld C L e o (.string (p ++ q)) := fun w _ => by
  have hl' : (p.size : Int) + (q.size : Int) ≤ 9223372036854775807 := by omega
  simp [execOp, ho, hx, hy, eqGuard, binOp, Op.stringOp, hl']
theorem Yld.eqS {p q : ByteArray} (ho : o.op = .binOp .eql t x y u) (hx : ev C.n e x = .string p) (hy : ev C.n e y = .string q) : Yld C L e o (.bool (p.toList == q.toList)) := fun w _ => by
  simp [execOp, ho, hx, hy, eqGuard, binOp, Op.stringOp]
theorem Yld.neS {p q : ByteArray} (ho : o.op = .binOp .neq t x y u) (hx : ev C.n e x = .string p) (hy : ev C.n e y = .string q) : Yld C L e o (.bool (!(p.toList == q.toList))) := fun w _ => by
  simp [execOp, ho, hx, hy, eqGuard, binOp, Op.stringOp, bne]
theorem equal_bool {P : Program} (hs : P.underlying t = some .bool) (p q : Bool) (w : World) : (Op.equal t (.bool p) (.bool q)).run P w = .ok (p == q) w := by
  unfold Op.equal
  rw [show Op.maxDepth = 9999 + 1 from rfl, Op.equalIn]
  simp [run_underlying hs]
theorem Yld.eqB {p q : Bool} (ho : o.op = .binOp .eql t x y u) (hs : C.P.underlying t = some .bool) (hx : ev C.n e x = .bool p) (hy : ev C.n e y = .bool q) : Yld C L e o (.bool (p == q)) := fun w _ => by
  have := equal_bool (P := C.P) hs p q w
  simp only [execOp, ho, hx, hy, eqGuard, binOp, bind_assoc, pure_bind]
  simp [this]
theorem Yld.neB {p q : Bool} (ho : o.op = .binOp .neq t x y u) (hs : C.P.underlying t = some .bool) (hx : ev C.n e x = .bool p) (hy : ev C.n e y = .bool q) : Yld C L e o (.bool (!(p == q))) := fun w _ => by
  have := equal_bool (P := C.P) hs p q w
  simp only [execOp, ho, hx, hy, eqGuard, binOp, bind_assoc, pure_bind]
  simp [this]
theorem Yld.mkf {fn : Fn} {fs cs : List Operand} (ho : o.op = .makeFunc fn fs.toArray cs.toArray) {vf vc : List Value} (hf : fs.map (ev C.n e) = vf) (hc : cs.map (ev C.n e) = vc) : Yld C L e o (.func fn vf.toArray vc.toArray) := fun w _ => by
  subst hf hc; simp [execOp, ho, Instr.makeFunc]
end
end Go.Gv
