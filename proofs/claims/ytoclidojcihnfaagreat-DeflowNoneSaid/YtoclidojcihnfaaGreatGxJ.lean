/- Part of an evaluator of the program's calls, proved sound: what it yields, the program does in every world. No condition beyond those that each theorem names. -/
import Derived.Test.YtoclidojcihnfaaGreatGxI
import Derived.Laws.StructEq
set_option linter.unusedVariables false
set_option linter.unusedSimpArgs false
namespace Go.Gx
open Go.RowKit Go.Gv

/-! ### Parts, and what is equal -/
noncomputable def prt (P : Program) (t : Nat) (cs : List S) (off : Nat) : Option V := match aggI P t with
  | some true => match tyI P t with
    | some q => grd (Nat.ble (off + q.2.1) cs.length) (some (.a ((cs.drop off).take q.2.1)))
    | none => none
  | some false => match cs[off]? with
    | some s => some (.o s)
    | none => none
  | none => none
theorem prt_run {P : Program} {σ : Sg} {t off : Nat} {cs : List S} {vs : List Value} {v : V} (h : prt P t cs off = some v) (ha : All2 (SR σ) cs vs) : ∃ x, V0R σ v x ∧ ∀ w, (part t (List.toArray vs) off).run P w = .ok x w := by
  unfold prt at h
  split at h
  · rename_i hag
    split at h
    · rename_i q hq
      obtain ⟨h1, h2⟩ := grd_some h
      cases h2
      obtain ⟨z, sz, by_⟩ := q
      refine ⟨.agg (List.toArray ((vs.drop off).take sz)), ⟨_, rfl, (ha.drop off).take sz⟩, fun w => ?_⟩
      have h3 : (List.toArray vs).extract off (off + sz) = List.toArray ((vs.drop off).take sz) := by
        apply Array.ext'; simp [List.extract_eq_take_drop]
      simp [part, aggI.run hag, tyI.size hq, h3]
    · cases h
  · rename_i hag
    split at h
    · rename_i s hs
      cases h
      obtain ⟨x, h1, h2⟩ := ha.get off s hs
      exact ⟨x, h2, fun w => by simp [part, aggI.run hag, h1]⟩
    · cases h
  · cases h
def eqArr (d : Nat) (el n : Nat) (xs ys : Array Value) : List Nat → Sem Bool
  | [] => pure true
  | i :: is => do
    let a ← part el xs (i * n)
    let b ← part el ys (i * n)
    let r ← Op.equalIn d el a b
    if (!r) = true then pure false else eqArr d el n xs ys is
theorem run_equalIn_arr {P : Program} (d : Nat) {t len el sz : Nat} (xs ys : Array Value) (ht : arI P t = some (len, el, sz)) (w : World) :
    (Op.equalIn (d + 1) t (.agg xs) (.agg ys)).run P w = (eqArr d el sz xs ys (List.range len)).run P w := by
  obtain ⟨hu, z, by_, hT⟩ := arI.info ht
  simp only [Op.equalIn, Sem.run_bind, run_underlying hu, Result.andThen_ok, tyI.size hT]
  rw [Std.Legacy.Range.forIn_eq_forIn_range']
  simp only [Std.Legacy.Range.size, Nat.sub_zero, Nat.add_sub_cancel, Nat.div_one]
  rw [← List.range_eq_range']
  generalize List.range len = is
  induction is generalizing w with
  | nil => simp [eqArr]
  | cons i is ih =>
    simp only [List.forIn_cons, eqArr, Sem.run_bind]
    generalize (part el xs (i * sz)).run P w = r1
    cases r1 with
    | ok a w1 =>
      simp only [Result.andThen_ok]
      generalize (part el ys (i * sz)).run P w1 = r2
      cases r2 with
      | ok b w2 =>
        simp only [Result.andThen_ok]
        generalize (Op.equalIn d el a b).run P w2 = r3
        cases r3 with
        | ok r w3 =>
          cases r
          · simp
          · simpa using ih w3
        | halt x w3 => simp [Result.andThen]
      | halt x w2 => simp [Result.andThen]
    | halt x w1 => simp [Result.andThen]
noncomputable def eqL (ps : List (Option (Option Bool))) : Option Bool := List.rec (motive := fun _ => Option Bool) (some true) (fun p _ ih => match p with
  | none => ih
  | some none => none
  | some (some b) => cond b ih (some false)) ps
noncomputable def eqStep (P : Program) (ih : Nat → V → V → Option Bool) (t : Nat) (x y : V) : Option Bool := match x, y with
  | .o (.i k a), .o (.i k' b) => match P.underlying t with
    | some (.int _) => cond (decide (k = k')) (some (ieq a b)) none
    | _ => none
  | .o (.b a), .o (.b b) => match P.underlying t with
    | some .bool => some (bequ a b)
    | _ => none
  | .o (.s a), .o (.s b) => match P.underlying t with
    | some .string => some (leq a b)
    | _ => none
  | .a xs, .a ys => match arI P t with
    | some q => eqL ((List.range q.1).map fun i => some (ob (prt P q.2.1 xs (i * q.2.2)) fun a => ob (prt P q.2.1 ys (i * q.2.2)) fun b => ih q.2.1 a b))
    | none => match P.underlying t with
      | some (.struct fs) => cond (P.stoodInHeld t) none (eqL (fs.toList.map fun f => cond (f.name != "_") (some (ob (prt P f.type xs f.offset) fun a => ob (prt P f.type ys f.offset) fun b => ih f.type a b)) none))
      | _ => none
  | _, _ => none
/-- Are two values of a type equal? -/
noncomputable def eqV (P : Program) (d : Nat) : Nat → V → V → Option Bool := Nat.rec (motive := fun _ => Nat → V → V → Option Bool) (fun _ _ _ => none) (fun _ ih t x y => eqStep P ih t x y) d
theorem eqV_run {P : Program} {σ : Sg} : ∀ (d t : Nat) (x y : V) (r : Bool) (vx vy : Value), eqV P d t x y = some r → V0R σ x vx → V0R σ y vy → ∀ w, (Op.equalIn d t vx vy).run P w = .ok r w
  | 0, t, x, y, r, vx, vy, h, _, _ => by cases h
  | d + 1, t, x, y, r, vx, vy, h, hx, hy => by
    intro w
    have ih := fun t x y r vx vy h hx hy => eqV_run (P := P) (σ := σ) d t x y r vx vy h hx hy
    replace h : eqStep P (eqV P d) t x y = some r := h
    unfold eqStep at h
    split at h
    · rename_i k a k' b
      split at h
      · rename_i kk hu
        by_cases hk : k = k'
        · subst hk
          simp only [decide_true, cond_true, Option.some.injEq] at h
          subst h
          have hx : vx = _ := hx
          have hy : vy = _ := hy
          subst hx hy
          rw [ieq_eq]; exact run_equalIn_int w d t k kk a b hu
        · simp [hk] at h
      · cases h
    · rename_i a b
      split at h
      · rename_i hu
        cases h
        have hx : vx = _ := hx
        have hy : vy = _ := hy
        subst hx hy
        rw [bequ_eq]; exact run_equalIn_bool' w d t a b hu
      · cases h
    · rename_i a b
      split at h
      · rename_i hu
        cases h
        obtain ⟨p, rfl, h2⟩ := hx
        obtain ⟨q, rfl, h4⟩ := hy
        rw [← toList_beq h2 h4]; exact run_equalIn_string w d t p q hu
      · cases h
    · rename_i xs ys
      obtain ⟨us, rfl, hus⟩ := hx
      obtain ⟨vs, rfl, hvs⟩ := hy
      split at h
      · rename_i q hq
        obtain ⟨len, el, sz⟩ := q
        rw [run_equalIn_arr d _ _ hq]
        simp only at h
        generalize List.range len = is at h
        induction is with
        | nil => cases h; rfl
        | cons i is ih2 =>
          simp only [List.map_cons, eqL] at h
          simp only [eqArr, Sem.run_bind]
          split at h
          · rename_i he; cases he
          · cases h
          · rename_i b he
            cases he' : (ob (prt P el xs (i * sz)) fun a => ob (prt P el ys (i * sz)) fun b => eqV P d el a b) with
            | none => rw [he'] at he; cases he
            | some b' =>
              rw [he'] at he; cases he
              obtain ⟨a, h1, h2⟩ := ob_some he'
              obtain ⟨c, h3, h4⟩ := ob_some h2
              obtain ⟨xa, r1, r2⟩ := prt_run h1 hus
              obtain ⟨xc, r3, r4⟩ := prt_run h3 hvs
              have h5 := ih el a c b xa xc h4 r1 r3 w
              simp only [r2 w, r4 w, h5, Result.andThen_ok]
              cases b with
              | false => simp only [cond_false, Option.some.injEq] at h; subst h; rfl
              | true => simp only [cond_true] at h; simpa using ih2 h
      · split at h
        · rename_i hq fs hu
          cases hst : P.stoodInHeld t with
          | true => rw [hst] at h; cases h
          | false =>
            rw [hst] at h
            simp only [cond_false] at h
            have hfs : P.fieldsOf t = fs := by unfold Program.fieldsOf; rw [hu]
            rw [run_equalIn_struct w d t _ _ (by rw [hfs]; exact hu) hst, hfs]
            generalize fs.toList = is at h
            induction is with
            | nil => cases h; rfl
            | cons f is ih2 =>
              simp only [List.map_cons, eqL] at h
              simp only [Op.eqFields]
              by_cases hn : f.name = "_"
              · rw [if_neg (by simpa using hn)]
                have : (f.name != "_") = false := by simpa using hn
                rw [this] at h
                simp only [cond_false] at h
                exact ih2 h
              · rw [if_pos hn]
                have : (f.name != "_") = true := by simpa using hn
                rw [this] at h
                simp only [cond_true, Sem.run_bind] at h ⊢
                split at h
                · rename_i he; cases he
                · cases h
                · rename_i b he
                  cases he' : (ob (prt P f.type xs f.offset) fun a => ob (prt P f.type ys f.offset) fun b => eqV P d f.type a b) with
                  | none => rw [he'] at he; cases he
                  | some b' =>
                    rw [he'] at he; cases he
                    obtain ⟨a, h1, h2⟩ := ob_some he'
                    obtain ⟨c, h3, h4⟩ := ob_some h2
                    obtain ⟨xa, r1, r2⟩ := prt_run h1 hus
                    obtain ⟨xc, r3, r4⟩ := prt_run h3 hvs
                    have h5 := ih f.type a c b xa xc h4 r1 r3 w
                    simp only [r2 w, r4 w, h5, Result.andThen_ok]
                    cases b with
                    | false => simp only [cond_false, Option.some.injEq] at h; subst h; rfl
                    | true => simp only [cond_true] at h; simpa using ih2 h
        · cases h
    · cases h
end Go.Gx
