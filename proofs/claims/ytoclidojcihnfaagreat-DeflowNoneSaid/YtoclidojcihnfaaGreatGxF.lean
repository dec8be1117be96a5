/- Part of an evaluator of the program's calls, proved sound: what it yields, the program does in every world. No condition beyond those that each theorem names. -/
import Derived.Test.YtoclidojcihnfaaGreatGxE
set_option linter.unusedVariables false
set_option linter.unusedSimpArgs false
namespace Go.Gx
open Go.RowKit Go.Gv

/-! ### Slices of slices and of arrays -/
theorem slc_run {P : Program} {t el sz by_ : Nat} {z : Value} (hs : slI P t = some (el, sz, by_, z)) {a : Option Addr} {len cap i j m : Nat} {lo hi mx : Option Value}
    (hm : (mx = none ∧ m = cap) ∨ ∃ k, mx = some (.int k (m : Int))) (hh : (hi = none ∧ mx = none ∧ j = len) ∨ ∃ k, hi = some (.int k (j : Int))) (hl : (lo = none ∧ i = 0) ∨ ∃ k, lo = some (.int k (i : Int)))
    (h1 : i ≤ j) (h2 : j ≤ m) (h3 : m ≤ cap) (w : World) : (Instr.sliceAt t (.slice a len cap) lo hi mx).run P w = .ok (.slice (if m = i then a else a.map (·.add (i * sz))) (j - i) (m - i)) w := by
  obtain ⟨hu, hT⟩ := slI.info hs
  rcases hm with ⟨rfl, rfl⟩ | ⟨k1, rfl⟩ <;> rcases hh with ⟨rfl, h4, rfl⟩ | ⟨k2, rfl⟩ <;> rcases hl with ⟨rfl, rfl⟩ | ⟨k3, rfl⟩ <;> first
    | (cases h4; done)
    | simp [Instr.sliceAt, Instr.slice, run_underlying hu, Instr.sliceBounds, Instr.sliceBound, asIntOf, tyI.size hT, h1, h2, h3]
theorem slcA_run {P : Program} {t ar el sz : Nat} {b p n : Nat} (hs : P.underlying t = some (.pointer ar) ∨ t = ar) (ha : arI P ar = some (n, el, sz)) {i j m : Nat} {lo hi mx : Option Value}
    (hm : (mx = none ∧ m = n) ∨ ∃ k, mx = some (.int k (m : Int))) (hh : (hi = none ∧ mx = none ∧ j = n) ∨ ∃ k, hi = some (.int k (j : Int))) (hl : (lo = none ∧ i = 0) ∨ ∃ k, lo = some (.int k (i : Int)))
    (h1 : i ≤ j) (h2 : j ≤ m) (h3 : m ≤ n) (w : World) : (Instr.sliceAt t (.pointer (some ⟨b, p, none⟩)) lo hi mx).run P w = .ok (.slice (some (if m = i then ⟨b, p, none⟩ else ⟨b, p + i * sz, none⟩)) (j - i) (m - i)) w := by
  obtain ⟨hu, z, by_, hT⟩ := arI.info ha
  rcases hm with ⟨rfl, rfl⟩ | ⟨k1, rfl⟩ <;> rcases hh with ⟨rfl, h4, rfl⟩ | ⟨k2, rfl⟩ <;> rcases hl with ⟨rfl, rfl⟩ | ⟨k3, rfl⟩ <;> first
    | (cases h4; done)
    | (rcases hs with hs | rfl
       · simp [Instr.sliceAt, Instr.slice, run_underlying hs, run_underlying hu, Instr.sliceBounds, Instr.sliceBound, asIntOf, asAddr, Instr.sureAddr, tyI.size hT, h1, h2, h3, add_none]
       · simp [Instr.sliceAt, Instr.slice, run_underlying hu, Instr.sliceBounds, Instr.sliceBound, asIntOf, asAddr, Instr.sureAddr, tyI.size hT, h1, h2, h3, add_none])
    | simp [Instr.sliceAt, Instr.slice, run_underlying hu, Instr.sliceBounds, Instr.sliceBound, asIntOf, asAddr, Instr.sureAddr, tyI.size hT, h1, h2, h3, add_none]
/-- A bound that is given, or is not. -/
noncomputable def bnd (n : Nat) (e : FE) (x : Option Operand) (dflt : Nat) : Option Nat := match x with
  | none => some dflt
  | some x => match opv n e x with
    | some (.o (.i _ (.ofNat m))) => fN m fun m => some m
    | _ => none
theorem bnd_ev {σ : Sg} {n : Nat} {e : FE} {E : Env} (he : ER σ n e E) {x : Option Operand} {d m : Nat} (h : bnd n e x d = some m) : (x.map (ev n E) = none ∧ x = none ∧ m = d) ∨ ∃ k, x.map (ev n E) = some (.int k (m : Int)) := by
  cases x with
  | none => simp only [bnd, Option.some.injEq] at h; exact .inl ⟨rfl, rfl, h.symm⟩
  | some x =>
    right
    simp only [bnd] at h
    split at h
    · rename_i k m' hx
      simp only [fN_eq, Option.some.injEq] at h
      subst h
      exact ⟨k, congrArg some (he.opv hx)⟩
    · cases h
section
variable {P : Program} {n : Nat} {e : FE} {h : H} {o : Oper}
theorem Pur.sub {t : Nat} {x : Operand} {lo hi : Option Operand} {l : List Nat} {i j : Nat} (ho : o.op = .slice t x lo hi none) (hs : P.underlying t = some .string) (hx : opv n e x = some (.o (.s l))) (hi' : bnd n e lo 0 = some i) (hj : bnd n e hi l.length = some j)
    (h1 : Nat.ble i j = true) (h2 : Nat.ble j l.length = true) : Pur P n e h o (.o (.s ((l.drop i).take (j - i)))) 0 :=
  fun σ E rh he hh => by
    obtain ⟨s, hv, hb⟩ : SR σ (.s l) (ev n E x) := he.opv hx
    have h1 := Nat.le_of_ble_eq_true h1
    have h2 := Nat.le_of_ble_eq_true h2
    have hsz := str_size hb
    refine ⟨_, ⟨s.extract i j, rfl, ?_⟩, fun C L hP hn _ => fun w _ => ?_⟩
    · subst hb
      simp only [ByteArray.data_extract, Array.toList_extract, List.extract_eq_take_drop, List.map_take, List.map_drop]
    · have h3 : (lo.map (ev n E) = none ∧ i = 0) ∨ ∃ k, lo.map (ev n E) = some (.int k (i : Int)) := (bnd_ev he hi').imp (fun h => ⟨h.1, h.2.2⟩) id
      have h4 : (hi.map (ev n E) = none ∧ j = s.size) ∨ ∃ k, hi.map (ev n E) = some (.int k (j : Int)) := (bnd_ev he hj).imp (fun h => ⟨h.1, by rw [hsz]; exact h.2.2⟩) id
      have := sub_run (P := P) (s := s) hs h3 h4 h1 (by omega) w
      subst hP hn
      simp [execOp, ho, hv, this]
/-- Room of a slice, where it is known. -/
theorem Pur.slc {t : Nat} {x : Operand} {lo hi mx : Option Operand} {k off len : Nat} {c : Nat} {i j m el sz by_ : Nat} {z : Value} (ho : o.op = .slice t x lo hi mx) (hs : slI P t = some (el, sz, by_, z)) (hx : opv n e x = some (.o (.sl k off len (.kn c))))
    (hi' : bnd n e lo 0 = some i) (hj : bnd n e hi len = some j) (hm : bnd n e mx c = some m) (hmj : mx = none ∨ hi.isSome = true) (h1 : Nat.ble i j = true) (h2 : Nat.ble j m = true) (h3 : Nat.ble m c = true) :
    Pur P n e h o (.o (.sl k (cond (Nat.beq m i) off (off + i * sz)) (j - i) (.kn (m - i)))) 0 :=
  fun σ E rh he hh => by
    obtain ⟨b, cp, hb, hc, hle, hv⟩ : SR σ (.sl k off len (.kn c)) (ev n E x) := he.opv hx
    have hc : cp = c := hc
    subst hc
    refine ⟨.slice (some ⟨b, cond (Nat.beq m i) off (off + i * sz), none⟩) (j - i) (m - i), ⟨b, _, hb, rfl, by have := Nat.le_of_ble_eq_true h2; omega, rfl⟩, fun C L hP hn _ => fun w _ => ?_⟩
    have e1 := bnd_ev he hi'
    have e2 := bnd_ev he hj
    have e3 := bnd_ev he hm
    have := slc_run (P := P) hs (a := some ⟨b, off, none⟩) (len := len) (cap := cp) (i := i) (j := j) (m := m) (lo := lo.map (ev n E)) (hi := hi.map (ev n E)) (mx := mx.map (ev n E)) (e3.imp (fun h => ⟨h.1, h.2.2⟩) id)
      (by
        rcases e2 with h | h
        · rcases hmj with h4 | h4
          · subst h4; exact .inl ⟨h.1, rfl, h.2.2⟩
          · rw [h.2.1] at h4; cases h4
        · exact .inr h) (e1.imp (fun h => ⟨h.1, h.2.2⟩) id) (Nat.le_of_ble_eq_true h1) (Nat.le_of_ble_eq_true h2) (Nat.le_of_ble_eq_true h3) w
    subst hP hn
    simp only [execOp, ho, hv]
    rw [Sem.run_bind, this]
    simp only [Result.andThen_ok, Sem.run_pure]
    cases hmi : Nat.beq m i with
    | true => have := Nat.eq_of_beq_eq_true hmi; subst this; simp
    | false => have : m ≠ i := fun h => by subst h; rw [Nat.beq_refl] at hmi; cases hmi
               simp [this, add_none]
/-- Where the room is not known: there must be something in what is cut. -/
theorem Pur.slu {t : Nat} {x : Operand} {lo hi : Option Operand} {k off len sh : Nat} {i j el sz by_ : Nat} {z : Value} (ho : o.op = .slice t x lo hi none) (hs : slI P t = some (el, sz, by_, z)) (hx : opv n e x = some (.o (.sl k off len (.un sh))))
    (hi' : bnd n e lo 0 = some i) (hj : bnd n e hi len = some j) (h1 : Nat.blt i j = true) (h2 : Nat.ble j len = true) :
    Pur P n e h o (.o (.sl k (off + i * sz) (j - i) (.un (sh + i)))) 0 :=
  fun σ E rh he hh => by
    obtain ⟨b, cp, hb, hc, hle, hv⟩ : SR σ (.sl k off len (.un sh)) (ev n E x) := he.opv hx
    have hc : cp = σ.cap k - sh := hc
    subst hc
    rw [Nat.blt_eq] at h1
    have h2 := Nat.le_of_ble_eq_true h2
    refine ⟨.slice (some ⟨b, off + i * sz, none⟩) (j - i) (σ.cap k - sh - i), ⟨b, _, hb, by simp only [CR]; omega, by omega, rfl⟩, fun C L hP hn _ => fun w _ => ?_⟩
    have e1 := bnd_ev he hi'
    have e2 := bnd_ev he hj
    have := slc_run (P := P) hs (a := some ⟨b, off, none⟩) (len := len) (cap := σ.cap k - sh) (i := i) (j := j) (m := σ.cap k - sh) (lo := lo.map (ev n E)) (hi := hi.map (ev n E)) (mx := none) (.inl ⟨rfl, rfl⟩)
      (e2.imp (fun h => ⟨h.1, rfl, h.2.2⟩) id) (e1.imp (fun h => ⟨h.1, h.2.2⟩) id) (by omega) (by omega) (by omega) w
    subst hP hn
    simp only [execOp, ho, hv, Option.map_none]
    rw [Sem.run_bind, this]
    simp only [Result.andThen_ok, Sem.run_pure]
    have : σ.cap k - sh ≠ i := by omega
    simp [this, add_none]
theorem Pur.slA {t ar : Nat} {x : Operand} {lo hi mx : Option Operand} {k off : Nat} {i j m len el sz : Nat} (ho : o.op = .slice t x lo hi mx) (hs : P.underlying t = some (.pointer ar) ∨ t = ar) (ha : arI P ar = some (len, el, sz)) (hx : opv n e x = some (.o (.p k off)))
    (hi' : bnd n e lo 0 = some i) (hj : bnd n e hi len = some j) (hm : bnd n e mx len = some m) (hmj : mx = none ∨ hi.isSome = true) (h1 : Nat.ble i j = true) (h2 : Nat.ble j m = true) (h3 : Nat.ble m len = true) :
    Pur P n e h o (.o (.sl k (cond (Nat.beq m i) off (off + i * sz)) (j - i) (.kn (m - i)))) 0 :=
  fun σ E rh he hh => by
    obtain ⟨b, hb, hv⟩ : PR σ (k, off) (ev n E x) := he.opv hx
    refine ⟨.slice (some ⟨b, cond (Nat.beq m i) off (off + i * sz), none⟩) (j - i) (m - i), ⟨b, _, hb, rfl, by have := Nat.le_of_ble_eq_true h2; omega, rfl⟩, fun C L hP hn _ => fun w _ => ?_⟩
    have e1 := bnd_ev he hi'
    have e2 := bnd_ev he hj
    have e3 := bnd_ev he hm
    have := slcA_run (P := P) (b := b) (p := off) hs ha (i := i) (j := j) (m := m) (lo := lo.map (ev n E)) (hi := hi.map (ev n E)) (mx := mx.map (ev n E)) (e3.imp (fun h => ⟨h.1, h.2.2⟩) id)
      (by
        rcases e2 with h | h
        · rcases hmj with h4 | h4
          · subst h4; exact .inl ⟨h.1, rfl, h.2.2⟩
          · rw [h.2.1] at h4; cases h4
        · exact .inr h) (e1.imp (fun h => ⟨h.1, h.2.2⟩) id) (Nat.le_of_ble_eq_true h1) (Nat.le_of_ble_eq_true h2) (Nat.le_of_ble_eq_true h3) w
    subst hP hn
    simp only [execOp, ho, hv]
    rw [Sem.run_bind, this]
    simp only [Result.andThen_ok, Sem.run_pure]
    cases hmi : Nat.beq m i with
    | true => have := Nat.eq_of_beq_eq_true hmi; subst this; simp
    | false => have : m ≠ i := fun h => by subst h; rw [Nat.beq_refl] at hmi; cases hmi
               simp [this]
end
end Go.Gx
