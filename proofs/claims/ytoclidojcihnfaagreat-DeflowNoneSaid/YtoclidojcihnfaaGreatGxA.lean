/- Part of an evaluator of the program's calls, proved sound: what it yields, the program does in every world. No condition beyond those that each theorem names. -/
import Derived.Test.YtoclidojcihnfaaGreatGvG
set_option linter.unusedVariables false
set_option linter.unusedSimpArgs false
namespace Go.Gx
open Go.RowKit Go.Gv

/-! ### Trees: rows without an end -/
inductive Tr (α : Type) where
  | lf
  | nd (v : Option α) (a b c d : Tr α)
noncomputable def sel4 {β : Type} (j : Nat) (x y z w : β) : β := cond (Nat.beq j 0) x (cond (Nat.beq j 1) y (cond (Nat.beq j 2) z w))
noncomputable def Tr.get {α : Type} (t : Tr α) : Nat → Option α := Tr.rec (motive := fun _ => Nat → Option α) (fun _ => none)
  (fun v _ _ _ _ ia ib ic id k => Nat.rec (motive := fun _ => Option α) v (fun m _ => sel4 (Nat.land m 3) ia ib ic id (Nat.shiftRight m 2)) k) t
noncomputable def Tr.put {α : Type} (v : Option α) (t : Tr α) : Tr α := Tr.rec (motive := fun _ => Tr α) (.nd v .lf .lf .lf .lf) (fun _ a b c d _ _ _ _ => .nd v a b c d) t
noncomputable def Tr.down {α : Type} (j : Nat) (f : Tr α → Tr α) (t : Tr α) : Tr α := Tr.rec (motive := fun _ => Tr α)
  (sel4 j (.nd none (f .lf) .lf .lf .lf) (.nd none .lf (f .lf) .lf .lf) (.nd none .lf .lf (f .lf) .lf) (.nd none .lf .lf .lf (f .lf)))
  (fun v a b c d _ _ _ _ => sel4 j (.nd v (f a) b c d) (.nd v a (f b) c d) (.nd v a b (f c) d) (.nd v a b c (f d))) t
noncomputable def Tr.setF {α : Type} (v : Option α) (f : Nat) : Nat → Tr α → Tr α := Nat.rec (motive := fun _ => Nat → Tr α → Tr α) (fun _ t => t)
  (fun _ ih k t => Nat.rec (motive := fun _ => Tr α) (t.put v) (fun m _ => t.down (Nat.land m 3) (ih (Nat.shiftRight m 2))) k) f
noncomputable def Tr.seto {α : Type} (t : Tr α) (k : Nat) (v : Option α) : Tr α := Tr.setF v (Nat.succ (Nat.succ (Nat.log2 k))) k t
noncomputable def Tr.set {α : Type} (t : Tr α) (k : Nat) (v : α) : Tr α := t.seto k (some v)
theorem shr_eq (n k : Nat) : Nat.shiftRight n k = n / 2 ^ k := Nat.shiftRight_eq_div_pow n k
theorem land3 (k : Nat) : Nat.land k 3 = k % 4 := Nat.and_two_pow_sub_one_eq_mod k 2
theorem Tr.get_e {α : Type} (k : Nat) : (Tr.lf : Tr α).get k = none := rfl
theorem Tr.get_n0 {α : Type} (v : Option α) (a b c d : Tr α) : (Tr.nd v a b c d).get 0 = v := rfl
theorem sel4_cases {β : Type} (j : Nat) (x y z w : β) (h : j < 4) : (j = 0 ∧ sel4 j x y z w = x) ∨ (j = 1 ∧ sel4 j x y z w = y) ∨ (j = 2 ∧ sel4 j x y z w = z) ∨ (j = 3 ∧ sel4 j x y z w = w) := by
  have : j = 0 ∨ j = 1 ∨ j = 2 ∨ j = 3 := by omega
  rcases this with rfl | rfl | rfl | rfl
  · exact .inl ⟨rfl, rfl⟩
  · exact .inr (.inl ⟨rfl, rfl⟩)
  · exact .inr (.inr (.inl ⟨rfl, rfl⟩))
  · exact .inr (.inr (.inr ⟨rfl, rfl⟩))
/-- The child of a digit. -/
def Tr.kid {α : Type} (t : Tr α) (j : Nat) : Tr α := match t with
  | .lf => .lf
  | .nd _ a b c d => if j = 0 then a else if j = 1 then b else if j = 2 then c else d
theorem Tr.get_succ {α : Type} (t : Tr α) (m : Nat) : t.get (m + 1) = (t.kid (m % 4)).get (m / 4) := by
  cases t with
  | lf => rfl
  | nd v a b c d =>
    show sel4 (Nat.land m 3) a.get b.get c.get d.get (Nat.shiftRight m 2) = _
    rw [land3, shr_eq]
    rcases sel4_cases (m % 4) a.get b.get c.get d.get (Nat.mod_lt _ (by omega)) with ⟨h, h2⟩ | ⟨h, h2⟩ | ⟨h, h2⟩ | ⟨h, h2⟩ <;> rw [h2, h] <;> rfl
theorem Tr.get_put0 {α : Type} (v : Option α) (t : Tr α) : (t.put v).get 0 = v := by cases t <;> rfl
theorem Tr.kid_put {α : Type} (v : Option α) (t : Tr α) (j : Nat) : (t.put v).kid j = t.kid j := by
  cases t with
  | lf => show (if j = 0 then Tr.lf else if j = 1 then .lf else if j = 2 then .lf else .lf) = Tr.lf; split <;> (try split) <;> (try split) <;> rfl
  | nd => rfl
theorem Tr.get_down0 {α : Type} (j : Nat) (f : Tr α → Tr α) (t : Tr α) (h : j < 4) : (t.down j f).get 0 = t.get 0 := by
  have : j = 0 ∨ j = 1 ∨ j = 2 ∨ j = 3 := by omega
  cases t <;> rcases this with rfl | rfl | rfl | rfl <;> rfl
theorem Tr.kid_down {α : Type} (j i : Nat) (f : Tr α → Tr α) (t : Tr α) (h : j < 4) (hi : i < 4) : (t.down j f).kid i = if i = j then f (t.kid j) else t.kid i := by
  have h1 : j = 0 ∨ j = 1 ∨ j = 2 ∨ j = 3 := by omega
  have h2 : i = 0 ∨ i = 1 ∨ i = 2 ∨ i = 3 := by omega
  cases t <;> rcases h1 with rfl | rfl | rfl | rfl <;> rcases h2 with rfl | rfl | rfl | rfl <;> rfl
theorem Tr.get_setF {α : Type} (v : Option α) : ∀ (f k j : Nat) (t : Tr α), k < 2 ^ f → (Tr.setF v (f + 1) k t).get j = if k = j then v else t.get j := by
  intro f
  induction f with
  | zero =>
    intro k j t hk
    have : k = 0 := by omega
    subst this
    show (t.put v).get j = _
    cases j with
    | zero => rw [if_pos rfl]; exact Tr.get_put0 v t
    | succ j => rw [if_neg (by omega), Tr.get_succ, Tr.kid_put, ← Tr.get_succ]
  | succ f ih =>
    intro k j t hk
    cases k with
    | zero =>
      show (t.put v).get j = _
      cases j with
      | zero => rw [if_pos rfl]; exact Tr.get_put0 v t
      | succ j => rw [if_neg (by omega), Tr.get_succ, Tr.kid_put, ← Tr.get_succ]
    | succ m =>
      show (t.down (Nat.land m 3) (Tr.setF v (f + 1) (Nat.shiftRight m 2))).get j = _
      rw [land3, shr_eq]
      have hm : m / 2 ^ 2 < 2 ^ f := by have : (2 : Nat) ^ (f + 1) = 2 ^ f * 2 := Nat.pow_succ 2 f; omega
      cases j with
      | zero => rw [if_neg (by omega), Tr.get_down0 _ _ _ (Nat.mod_lt _ (by omega))]
      | succ j =>
        rw [Tr.get_succ, Tr.kid_down _ _ _ _ (Nat.mod_lt _ (by omega)) (Nat.mod_lt _ (by omega))]
        by_cases hd : j % 4 = m % 4
        · rw [if_pos hd, ih _ _ _ hm]
          by_cases he : m / 2 ^ 2 = j / 4
          · rw [if_pos he, if_pos (by omega)]
          · rw [if_neg he, if_neg (by omega), ← hd, ← Tr.get_succ]
        · rw [if_neg hd, if_neg (by omega), ← Tr.get_succ]
theorem Tr.get_seto {α : Type} (t : Tr α) (k j : Nat) (v : Option α) : (t.seto k v).get j = if k = j then v else t.get j :=
  Tr.get_setF v (Nat.log2 k + 1) k j t Nat.lt_log2_self
theorem Tr.get_set {α : Type} (t : Tr α) (k j : Nat) (v : α) : (t.set k v).get j = if k = j then some v else t.get j := Tr.get_seto t k j (some v)

/-! ### Values of a run: blocks by their numbers in the run -/
inductive Cp where
  | kn (c : Nat)
  | un (sh : Nat)
inductive S where
  | i (k : IntKind) (z : Int)
  | b (x : Bool)
  | s (l : List Nat)
  | p (k off : Nat)
  | sl (k off len : Nat) (c : Cp)
  | f (f : Nat) (fl cl : List (Nat × Nat))
  | y (k : Nat)
  | m (k : Nat)
  | q (T k off : Nat)
  | r (v : Value)
inductive V where
  | o (x : S)
  | a (l : List S)
  | t (l : List V)
  | x (v : Value)
/-- Where the run's blocks lie, and how much room their rows have. -/
structure Sg where
  blk : Nat → Option Nat
  cap : Nat → Nat
  tail : Nat → List Value
inductive All2 {α β : Type} (R : α → β → Prop) : List α → List β → Prop where
  | nil : All2 R [] []
  | cons {a : α} {b : β} {l : List α} {m : List β} (h : R a b) (k : All2 R l m) : All2 R (a :: l) (b :: m)
def PR (σ : Sg) (x : Nat × Nat) (v : Value) : Prop := ∃ b, σ.blk x.1 = some b ∧ v = .pointer (some ⟨b, x.2, none⟩)
def CR (σ : Sg) (k : Nat) : Cp → Nat → Prop
  | .kn c, n => n = c
  | .un sh, n => n = σ.cap k - sh
def SR (σ : Sg) : S → Value → Prop
  | .i k z, v => v = .int k z
  | .b x, v => v = .bool x
  | .s l, v => ∃ s : ByteArray, v = .string s ∧ s.data.toList.map UInt8.toNat = l
  | .p k off, v => PR σ (k, off) v
  | .sl k off len c, v => ∃ b n, σ.blk k = some b ∧ CR σ k c n ∧ len ≤ n ∧ v = .slice (some ⟨b, off, none⟩) len n
  | .f f fl cl, v => ∃ vf vc, v = .func (.func f) (List.toArray vf) (List.toArray vc) ∧ All2 (PR σ) fl vf ∧ All2 (PR σ) cl vc
  | .y k, v => ∃ b, σ.blk k = some b ∧ v = .func (.yield b) #[] #[]
  | .m k, v => ∃ b, σ.blk k = some b ∧ v = .map (some b)
  | .q T k off, v => ∃ b, σ.blk k = some b ∧ v = .iface T (.pointer (some ⟨b, off, none⟩))
  | .r u, v => v = u
def V0R (σ : Sg) : V → Value → Prop
  | .o x, v => SR σ x v
  | .a l, v => ∃ vs, v = .agg (List.toArray vs) ∧ All2 (SR σ) l vs
  | .t _, _ => False
  | .x _, _ => False
def VR (σ : Sg) : V → Value → Prop
  | .t l, v => ∃ vs, v = .tuple (List.toArray vs) ∧ All2 (V0R σ) l vs
  | .o x, v => SR σ x v
  | .a l, v => ∃ vs, v = .agg (List.toArray vs) ∧ All2 (SR σ) l vs
  | .x _, _ => False
/-- More is known of where blocks lie; what was known stands. -/
structure Sg.le (σ τ : Sg) : Prop where
  blk : ∀ k b, σ.blk k = some b → τ.blk k = some b ∧ τ.cap k = σ.cap k
theorem Sg.le.refl (σ : Sg) : σ.le σ := ⟨fun _ _ h => ⟨h, rfl⟩⟩
theorem Sg.le.trans {a b c : Sg} (h : a.le b) (k : b.le c) : a.le c := ⟨fun i x hx => ⟨(k.blk i x (h.blk i x hx).1).1, (k.blk i x (h.blk i x hx).1).2.trans (h.blk i x hx).2⟩⟩
theorem All2.mono {α β : Type} {R R' : α → β → Prop} {l : List α} {m : List β} (h : All2 R l m) (k : ∀ a b, R a b → R' a b) : All2 R' l m := by
  induction h with
  | nil => exact .nil
  | cons h _ ih => exact .cons (k _ _ h) ih
theorem PR.mono {σ τ : Sg} (h : σ.le τ) {x : Nat × Nat} {v : Value} (k : PR σ x v) : PR τ x v := by
  obtain ⟨b, h1, h2⟩ := k
  exact ⟨b, (h.blk _ _ h1).1, h2⟩
theorem SR.mono {σ τ : Sg} (h : σ.le τ) {x : S} {v : Value} (k : SR σ x v) : SR τ x v := by
  cases x with
  | p j off => exact PR.mono h k
  | sl j off len c =>
    obtain ⟨b, n, h1, h2, h3⟩ := k
    refine ⟨b, n, (h.blk _ _ h1).1, ?_, h3⟩
    cases c with
    | kn c => exact h2
    | un sh => simp only [CR] at h2 ⊢; rw [(h.blk _ _ h1).2]; exact h2
  | f g fl cl =>
    obtain ⟨vf, vc, h1, h2, h3⟩ := k
    exact ⟨vf, vc, h1, h2.mono fun _ _ => PR.mono h, h3.mono fun _ _ => PR.mono h⟩
  | y j => obtain ⟨b, h1, h2⟩ := k; exact ⟨b, (h.blk _ _ h1).1, h2⟩
  | m j => obtain ⟨b, h1, h2⟩ := k; exact ⟨b, (h.blk _ _ h1).1, h2⟩
  | q T j off => obtain ⟨b, h1, h2⟩ := k; exact ⟨b, (h.blk _ _ h1).1, h2⟩
  | _ => exact k
theorem V0R.mono {σ τ : Sg} (h : σ.le τ) {x : V} {v : Value} (k : V0R σ x v) : V0R τ x v := by
  cases x with
  | o x => exact SR.mono h k
  | a l => obtain ⟨vs, h1, h2⟩ := k; exact ⟨vs, h1, h2.mono fun _ _ => SR.mono h⟩
  | t l => exact k
  | x v => exact k
theorem VR.mono {σ τ : Sg} (h : σ.le τ) {x : V} {v : Value} (k : VR σ x v) : VR τ x v := by
  cases x with
  | o x => exact SR.mono h k
  | a l => obtain ⟨vs, h1, h2⟩ := k; exact ⟨vs, h1, h2.mono fun _ _ => SR.mono h⟩
  | t l => obtain ⟨vs, h1, h2⟩ := k; exact ⟨vs, h1, h2.mono fun _ _ => V0R.mono h⟩
  | x v => exact k
theorem VR.o {σ : Sg} {x : S} {v : Value} (h : SR σ x v) : VR σ (.o x) v := h
theorem V0R.VR {σ : Sg} {x : V} {v : Value} (h : V0R σ x v) : VR σ x v := by cases x <;> first | exact h | exact h.elim
theorem All2.same {α : Type} {R : α → α → Prop} (h : ∀ a, R a a) : ∀ {l : List α}, All2 R l l
  | [] => .nil
  | _ :: _ => .cons (h _) (All2.same h)
theorem All2.length {α β : Type} {R : α → β → Prop} {l : List α} {m : List β} (h : All2 R l m) : l.length = m.length := by
  induction h with
  | nil => rfl
  | cons _ _ ih => simp [ih]
theorem All2.get {α β : Type} {R : α → β → Prop} {l : List α} {m : List β} (h : All2 R l m) : ∀ (i : Nat) (a : α), l[i]? = some a → ∃ b, m[i]? = some b ∧ R a b := by
  induction h with
  | nil => intro i a h; simp at h
  | cons h _ ih =>
    intro i a ha
    cases i with
    | zero => simp only [List.getElem?_cons_zero, Option.some.injEq] at ha ⊢; subst ha; exact ⟨_, rfl, h⟩
    | succ i => simpa using ih i a (by simpa using ha)
theorem All2.append {α β : Type} {R : α → β → Prop} {l l' : List α} {m m' : List β} (h : All2 R l m) (k : All2 R l' m') : All2 R (l ++ l') (m ++ m') := by
  induction h with
  | nil => exact k
  | cons h _ ih => exact .cons h ih
theorem All2.take {α β : Type} {R : α → β → Prop} {l : List α} {m : List β} (h : All2 R l m) : ∀ n, All2 R (l.take n) (m.take n) := by
  induction h with
  | nil => intro n; simp; exact .nil
  | cons h _ ih => intro n; cases n with
    | zero => exact .nil
    | succ n => simpa using All2.cons h (ih n)
theorem All2.drop {α β : Type} {R : α → β → Prop} {l : List α} {m : List β} (h : All2 R l m) : ∀ n, All2 R (l.drop n) (m.drop n) := by
  induction h with
  | nil => intro n; simp; exact .nil
  | cons h k ih => intro n; cases n with
    | zero => exact .cons h k
    | succ n => simpa using ih n
theorem All2.set {α β : Type} {R : α → β → Prop} {l : List α} {m : List β} (h : All2 R l m) : ∀ (i : Nat) {a : α} {b : β}, R a b → All2 R (l.set i a) (m.set i b) := by
  induction h with
  | nil => intro i a b _; simp; exact .nil
  | cons h k ih => intro i a b hab; cases i with
    | zero => exact .cons hab k
    | succ i => simpa using All2.cons h (ih i hab)
end Go.Gx
