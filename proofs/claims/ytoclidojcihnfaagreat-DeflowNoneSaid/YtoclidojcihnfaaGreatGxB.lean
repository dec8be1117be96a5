/- Part of an evaluator of the program's calls, proved sound: what it yields, the program does in every world. No condition beyond those that each theorem names. -/
import Derived.Test.YtoclidojcihnfaaGreatGxA
set_option linter.unusedVariables false
set_option linter.unusedSimpArgs false
namespace Go.Gx
open Go.RowKit Go.Gv

/-! ### Rows of cells -/
structure B where
  n : Nat
  t : Tr S
  z : Nat → S
noncomputable def B.at (b : B) (i : Nat) : S := Option.rec (motive := fun _ => S) (b.z i) (fun s => s) (b.t.get i)
noncomputable def B.get? (b : B) (i : Nat) : Option S := cond (Nat.blt i b.n) (some (b.at i)) none
noncomputable def B.set (b : B) (i : Nat) (s : S) : B := ⟨b.n, b.t.set i s, b.z⟩
noncomputable def B.push (b : B) (s : S) : B := ⟨Nat.succ b.n, b.t.set b.n s, b.z⟩
noncomputable def B.apps (l : List S) : B → B := List.rec (motive := fun _ => B → B) (fun b => b) (fun s _ ih b => ih (b.push s)) l
def junk : S := .r (.tuple #[])
noncomputable def B.ofL (l : List S) : B := B.apps l ⟨0, .lf, fun _ => junk⟩
noncomputable def B.rng (b : B) (off len : Nat) : List S := Nat.rec (motive := fun _ => List S → List S) (fun acc => acc) (fun m ih acc => ih (b.at (Nat.add off m) :: acc)) len []
noncomputable def B.puts (l : List S) : Nat → B → B := List.rec (motive := fun _ => Nat → B → B) (fun _ b => b) (fun s _ ih i b => ih (Nat.succ i) (b.set i s)) l
noncomputable def B.shr (b : B) (m : Nat) : B := ⟨m, b.t, b.z⟩
noncomputable def B.toL (b : B) : List S := (List.range b.n).map b.at
theorem blt_t {i n : Nat} (h : i < n) : Nat.blt i n = true := by rw [Nat.blt_eq]; exact h
theorem blt_f {i n : Nat} (h : ¬ i < n) : Nat.blt i n = false := by rw [Bool.eq_false_iff, ne_eq, Nat.blt_eq]; exact h
theorem B.len (b : B) : b.toL.length = b.n := by simp [B.toL]
theorem B.toL_get (b : B) (i : Nat) : b.toL[i]? = b.get? i := by
  simp only [B.toL, List.getElem?_map, B.get?]
  by_cases h : i < b.n
  · rw [List.getElem?_range h, show Nat.blt i b.n = true from blt_t h]; rfl
  · rw [List.getElem?_eq_none (by simpa using h), show Nat.blt i b.n = false from blt_f h]; rfl
theorem B.get?_of {b : B} {i : Nat} {s : S} (h : b.get? i = some s) : b.toL[i]? = some s := by rw [B.toL_get]; exact h
theorem B.at_set (b : B) (i j : Nat) (s : S) : (b.set i s).at j = if i = j then s else b.at j := by
  simp only [B.at, B.set, Tr.get_set]
  split <;> rfl
theorem B.toL_set (b : B) (i : Nat) (s : S) : (b.set i s).toL = b.toL.set i s := by
  apply List.ext_getElem?
  intro j
  rw [List.getElem?_set, B.toL_get, B.toL_get, B.len]
  simp only [B.get?, B.at_set]
  show cond (Nat.blt j b.n) _ _ = _
  by_cases h : i = j
  · subst h
    rw [if_pos rfl, if_pos rfl]
    by_cases h1 : i < b.n
    · rw [if_pos h1, show Nat.blt i b.n = true from blt_t h1]; rfl
    · rw [if_neg h1, show Nat.blt i b.n = false from blt_f h1]; rfl
  · rw [if_neg h, if_neg h]
theorem B.toL_push (b : B) (s : S) : (b.push s).toL = b.toL ++ [s] := by
  simp only [B.toL]
  show (List.range (b.n + 1)).map _ = _
  rw [List.range_succ, List.map_append]
  have h : ∀ j, (b.push s).at j = if b.n = j then s else b.at j := fun j => by
    simp only [B.at, B.push, Tr.get_set]
    split <;> rfl
  congr 1
  · apply List.map_congr_left
    intro j hj
    have := List.mem_range.1 hj
    rw [h, if_neg (by omega)]
  · simp [h]
theorem B.toL_apps : ∀ (l : List S) (b : B), (B.apps l b).toL = b.toL ++ l
  | [], b => by show b.toL = _; simp
  | s :: l, b => by
    show (B.apps l (b.push s)).toL = _
    rw [B.toL_apps l, B.toL_push]; simp
theorem B.toL_ofL (l : List S) : (B.ofL l).toL = l := by rw [B.ofL, B.toL_apps]; simp [B.toL]
theorem B.n_set (b : B) (i : Nat) (s : S) : (b.set i s).n = b.n := rfl
theorem B.rng_go (b : B) (off : Nat) : ∀ (len : Nat) (acc : List S), Nat.rec (motive := fun _ => List S → List S) (fun acc => acc) (fun m ih acc => ih (b.at (Nat.add off m) :: acc)) len acc = (List.range len).map (fun i => b.at (off + i)) ++ acc
  | 0, acc => rfl
  | m + 1, acc => by
    show Nat.rec (motive := fun _ => List S → List S) (fun acc => acc) (fun m ih acc => ih (b.at (Nat.add off m) :: acc)) m (b.at (Nat.add off m) :: acc) = _
    rw [B.rng_go b off m, List.range_succ]; simp
theorem B.rng_eq {b : B} {off len : Nat} (h : off + len ≤ b.n) : b.rng off len = (b.toL.drop off).take len := by
  unfold B.rng
  rw [B.rng_go, List.append_nil]
  apply List.ext_getElem?
  intro j
  rw [List.getElem?_map, List.getElem?_take, List.getElem?_drop, B.toL_get]
  by_cases hj : j < len
  · rw [if_pos hj, List.getElem?_range hj, B.get?, show Nat.blt (off + j) b.n = true from blt_t (by omega)]; rfl
  · rw [if_neg hj, List.getElem?_eq_none (by simpa using hj)]; rfl
noncomputable def lput {α : Type} (i : Nat) (vs l : List α) : List α := l.take i ++ vs ++ l.drop (i + vs.length)
theorem lput_length {α : Type} {i : Nat} {vs l : List α} (h : i + vs.length ≤ l.length) : (lput i vs l).length = l.length := by unfold lput; simp; omega
theorem lput_nil {α : Type} (i : Nat) (l : List α) : lput i [] l = l := by simp [lput]
theorem lput_cons {α : Type} (i : Nat) (v : α) (vs l : List α) (h : i < l.length) : lput i (v :: vs) l = lput (i + 1) vs (l.set i v) := by
  unfold lput
  apply List.ext_getElem?
  intro j
  have e1 : ((l.set i v).take (i + 1)) = l.take i ++ [v] := by
    rw [List.take_set, List.take_succ_eq_append_getElem h, List.set_append_right _ _ (by simp; omega)]
    simp [Nat.min_eq_left (Nat.le_of_lt h)]
  rw [e1, List.drop_set_of_lt (by omega)]
  simp only [List.append_assoc, List.length_cons, List.singleton_append, List.cons_append, List.nil_append]
  rw [show i + (vs.length + 1) = i + 1 + vs.length by omega]
theorem B.toL_puts : ∀ (l : List S) (i : Nat) (b : B), i + l.length ≤ b.n → (B.puts l i b).toL = lput i l b.toL
  | [], i, b, _ => by show b.toL = _; rw [lput_nil]
  | s :: l, i, b, h => by
    simp only [List.length_cons] at h
    show (B.puts l (i + 1) (b.set i s)).toL = _
    rw [B.toL_puts l (i + 1) (b.set i s) (by rw [B.n_set]; omega), B.toL_set, lput_cons _ _ _ _ (by rw [B.len]; omega)]
theorem B.n_puts : ∀ (l : List S) (i : Nat) (b : B), (B.puts l i b).n = b.n
  | [], _, _ => rfl
  | s :: l, i, b => by show (B.puts l (i + 1) (b.set i s)).n = _; rw [B.n_puts l]; rfl
theorem B.toL_shr {b : B} {m : Nat} (h : m ≤ b.n) : (b.shr m).toL = b.toL.take m := by
  simp only [B.toL, ← List.map_take, List.take_range, Nat.min_eq_left h]
  rfl
/-- A pattern, again and again. -/
noncomputable def lnth (l : List S) : Nat → S := List.rec (motive := fun _ => Nat → S) (fun _ => junk) (fun s _ ih i => Nat.rec (motive := fun _ => S) s (fun m _ => ih m) i) l
noncomputable def B.rep (l : List S) (m : Nat) : B := Nat.rec (motive := fun _ => B) ⟨0, .lf, fun _ => junk⟩ (fun k _ => Nat.rec (motive := fun _ => B) ⟨m, .lf, fun _ => lnth l 0⟩ (fun _ _ => ⟨Nat.mul m (Nat.succ k), .lf, fun i => lnth l (Nat.mod i (Nat.succ k))⟩) k) l.length
noncomputable def repl (zs : List S) (m : Nat) : List S := Nat.rec (motive := fun _ => List S) [] (fun _ ih => zs ++ ih) m
theorem lnth_get : ∀ (l : List S) (i : Nat), i < l.length → l[i]? = some (lnth l i)
  | [], i, h => by simp at h
  | s :: l, 0, _ => rfl
  | s :: l, i + 1, h => by
    simp only [List.getElem?_cons_succ]
    exact lnth_get l i (by simpa using h)
theorem repl_len (zs : List S) : ∀ m, (repl zs m).length = m * zs.length
  | 0 => by show ([] : List S).length = _; simp
  | m + 1 => by show (zs ++ repl zs m).length = _; rw [List.length_append, repl_len zs m, Nat.succ_mul]; omega
theorem repl_get (zs : List S) : ∀ (m i : Nat), i < m * zs.length → (repl zs m)[i]? = some (lnth zs (i % zs.length))
  | 0, i, h => by simp at h
  | m + 1, i, h => by
    show (zs ++ repl zs m)[i]? = _
    have hp : 0 < zs.length := by
      rcases Nat.eq_zero_or_pos zs.length with h0 | h0
      · rw [h0] at h; simp at h
      · exact h0
    by_cases hi : i < zs.length
    · rw [List.getElem?_append_left hi, Nat.mod_eq_of_lt hi]; exact lnth_get zs i hi
    · rw [List.getElem?_append_right (by omega), repl_get zs m (i - zs.length) (by rw [Nat.succ_mul] at h; omega)]
      congr 2
      rw [← Nat.mod_eq_sub_mod (by omega)]
theorem B.toL_rep (zs : List S) (m : Nat) : (B.rep zs m).toL = repl zs m := by
  apply List.ext_getElem?
  intro i
  rw [B.toL_get]
  have key : ∀ (n : Nat) (z : Nat → S), n = m * zs.length → (∀ i, i < n → z i = lnth zs (i % zs.length)) → B.get? ⟨n, .lf, z⟩ i = (repl zs m)[i]? := by
    intro n z hn hz
    subst hn
    by_cases h : i < m * zs.length
    · rw [repl_get zs m i h, B.get?, show Nat.blt i (m * zs.length) = true from blt_t h, ← hz i h]; rfl
    · rw [List.getElem?_eq_none (by rw [repl_len]; omega), B.get?, show Nat.blt i (m * zs.length) = false from blt_f h]; rfl
  unfold B.rep
  generalize hl : zs.length = k at key ⊢
  cases k with
  | zero => exact key _ _ (by simp) (fun i h => by omega)
  | succ k =>
    cases k with
    | zero => exact key _ _ (by simp) (fun i _ => by rw [Nat.mod_one])
    | succ k => exact key _ _ rfl (fun i _ => rfl)
theorem B.n_rep (zs : List S) (m : Nat) : (B.rep zs m).n = m * zs.length := by rw [← B.len, B.toL_rep, repl_len]
/-! ### The run's memory -/
inductive VO where
  | x
  | c (T : Nat) (b : B)
  | u (T sz : Nat) (b : B)
  | f (T : Nat) (b : B)
  | m (es : List (V × V))
  | d
def MR (σ : Sg) (p : V × V) (en : MapEntry) : Prop := V0R σ p.1 en.key ∧ V0R σ p.2 en.val
def OR (σ : Sg) (k : Nat) : VO → Obj → Prop
  | .x, _ => False
  | .c T b, o => ∃ vs, o = .cells (List.toArray vs) T (0, 0) ∧ All2 (SR σ) b.toL vs
  | .u T sz b, o => ∃ vs, o = .cells (List.toArray (vs ++ σ.tail k)) T (0, 0) ∧ All2 (SR σ) b.toL vs ∧ vs.length + (σ.tail k).length = σ.cap k * sz ∧ σ.cap k ≤ maxLen
  | .f T b, o => ∃ vs fr, o = .cells (List.toArray (vs ++ σ.tail k)) T fr ∧ All2 (SR σ) b.toL vs
  | .m es, o => ∃ arr clk, o = .map (List.toArray arr) clk ∧ All2 (MR σ) es arr
  | .d, o => o = .deferred (some [])
noncomputable def VO.row (v : VO) : Option B := VO.rec (motive := fun _ => Option B) none (fun _ b => some b) (fun _ _ b => some b) (fun _ b => some b) (fun _ => none) none v
/-- The cells that are known. -/
noncomputable def VO.cs (v : VO) : Option (List S) := v.row.map B.toL
theorem VO.cs_of {v : VO} {b : B} (h : v.row = some b) : v.cs = some b.toL := by rw [VO.cs, h]; rfl
/-- Other cells in the block's place. -/
noncomputable def VO.wi (v : VO) (l : B) : Option VO := VO.rec (motive := fun _ => Option VO) none (fun T _ => some (.c T l)) (fun T sz _ => some (.u T sz l)) (fun _ _ => none) (fun _ => none) none v
/-- A block, and when it was written. -/
structure Ce where
  v : Nat
  o : VO
structure H where
  t : Tr Ce
  n : Nat
  c : Nat
noncomputable def fN {α : Type} (n : Nat) (k : Nat → α) : α := Nat.rec (motive := fun _ => α) (k 0) (fun m _ => k (Nat.succ m)) n
theorem fN_eq {α : Type} (n : Nat) (k : Nat → α) : fN n k = k n := by cases n <;> rfl
noncomputable def H.get (h : H) (k : Nat) : VO := Option.rec (motive := fun _ => VO) .x (fun c => c.o) (h.t.get k)
noncomputable def H.ver (h : H) (k : Nat) : Nat := Option.rec (motive := fun _ => Nat) 0 (fun c => c.v) (h.t.get k)
noncomputable def H.upd (h : H) (k : Nat) (o : VO) : H := fN h.c fun c => ⟨h.t.set k ⟨Nat.succ c, o⟩, h.n, Nat.succ c⟩
noncomputable def H.new (h : H) (o : VO) : H := fN h.n fun n => ⟨h.t.set n ⟨h.c, o⟩, Nat.succ n, h.c⟩
def H.none : H := ⟨.lf, 0, 0⟩
theorem H.get_upd (h : H) (k j : Nat) (o : VO) : (h.upd k o).get j = if k = j then o else h.get j := by
  simp only [H.upd, fN_eq, H.get, Tr.get_set]; split <;> rfl
theorem H.get_new (h : H) (j : Nat) (o : VO) : (h.new o).get j = if h.n = j then o else h.get j := by
  simp only [H.new, fN_eq, H.get, Tr.get_set]; split <;> rfl
theorem H.ver_upd (h : H) (k j : Nat) (o : VO) : (h.upd k o).ver j = if k = j then h.c + 1 else h.ver j := by
  simp only [H.upd, fN_eq, H.ver, Tr.get_set]; split <;> rfl
theorem H.ver_new (h : H) (j : Nat) (o : VO) : (h.new o).ver j = if h.n = j then h.c else h.ver j := by
  simp only [H.new, fN_eq, H.ver, Tr.get_set]; split <;> rfl
theorem H.n_upd (h : H) (k : Nat) (o : VO) : (h.upd k o).n = h.n := by simp only [H.upd, fN_eq]
theorem H.c_upd (h : H) (k : Nat) (o : VO) : (h.upd k o).c = h.c + 1 := by simp only [H.upd, fN_eq]
theorem H.n_new (h : H) (o : VO) : (h.new o).n = h.n + 1 := by simp only [H.new, fN_eq]
theorem H.c_new (h : H) (o : VO) : (h.new o).c = h.c := by simp only [H.new, fN_eq]

/-! ### What is known of the real memory -/
abbrev RH := Nat → Option HP
def Lof (n : Nat) (rh : RH) : List HP := (List.range n).filterMap rh
def fup (rh : RH) (k : Nat) (q : Option HP) : RH := fun j => if j = k then q else rh j
theorem filterMap_congr {α β : Type} {f g : α → Option β} : ∀ {l : List α}, (∀ x ∈ l, f x = g x) → l.filterMap f = l.filterMap g
  | [], _ => rfl
  | x :: l, h => by
    have ih := filterMap_congr (l := l) (f := f) (g := g) fun y hy => h y (List.mem_cons_of_mem _ hy)
    simp only [List.filterMap_cons, h x (by simp), ih]
theorem Lof_split {n k : Nat} (h : k < n) (rh : RH) : ∃ A B, Lof n rh = A ++ (rh k).toList ++ B ∧ ∀ q, Lof n (fup rh k q) = A ++ q.toList ++ B := by
  obtain ⟨m, rfl⟩ : ∃ m, n = k + 1 + m := ⟨n - (k + 1), by omega⟩
  refine ⟨(List.range k).filterMap rh, ((List.range m).map (k + 1 + ·)).filterMap rh, ?_, fun q => ?_⟩
  · simp only [Lof, List.range_add, List.range_succ, List.filterMap_append]
    cases h : rh k <;> simp [h]
  · simp only [Lof, List.range_add, List.range_succ, List.filterMap_append]
    have h1 : (List.range k).filterMap (fup rh k q) = (List.range k).filterMap rh := filterMap_congr fun x hx => by
      have := List.mem_range.1 hx
      simp only [fup]; rw [if_neg (by omega)]
    have h2 : ((List.range m).map (k + 1 + ·)).filterMap (fup rh k q) = ((List.range m).map (k + 1 + ·)).filterMap rh := filterMap_congr fun x hx => by
      obtain ⟨y, _, rfl⟩ := List.mem_map.1 hx
      simp only [fup]; rw [if_neg (by omega)]
    have h3 : List.filterMap (fup rh k q) [k] = q.toList := by cases q <;> simp [fup]
    rw [h1, h2, h3]
theorem Lof_perm {n k : Nat} {p : HP} {rh : RH} (h : k < n) (hp : rh k = some p) : ∃ r, (Lof n rh).Perm (p :: r) ∧ (∀ q, (Lof n (fup rh k (some q))).Perm (q :: r)) ∧ (Lof n (fup rh k none)).Perm r := by
  obtain ⟨A, B, h1, h2⟩ := Lof_split h rh
  refine ⟨A ++ B, ?_, fun q => ?_, ?_⟩
  · rw [h1, hp]; simp
  · rw [h2]; simp
  · rw [h2]; simp
theorem Lof_new (n : Nat) (rh : RH) (q : HP) : (Lof (n + 1) (fup rh n (some q))).Perm (q :: Lof n rh) := by
  have h1 : (List.range n).filterMap (fup rh n (some q)) = (List.range n).filterMap rh := filterMap_congr fun x hx => by
    have := List.mem_range.1 hx
    simp only [fup]; rw [if_neg (by omega)]
  simp only [Lof, List.range_succ, List.filterMap_append, h1]
  have : List.filterMap (fup rh n (some q)) [n] = [q] := by simp [fup]
  rw [this]
  simp
theorem In.of_mem {L : List HP} {p : HP} (h : p ∈ L) : In L p := by
  induction L with
  | nil => cases h
  | cons q L ih =>
    rcases List.mem_cons.1 h with rfl | h
    · exact .head
    · exact .tail (ih h)
structure HR (σ : Sg) (h : H) (rh : RH) : Prop where
  vc : ∀ k, h.ver k ≤ h.c
  dead : ∀ k, k < h.n → h.get k = .x → rh k = none
  live : ∀ k, k < h.n → h.get k ≠ .x → ∃ b o, rh k = some (.blk b o) ∧ σ.blk k = some b ∧ OR σ k (h.get k) o
  out : ∀ k, h.n ≤ k → σ.blk k = none
theorem HR.cells {σ : Sg} {h : H} {rh : RH} (hr : HR σ h rh) {k b T : Nat} {cs : B} (hk : k < h.n) (hb : σ.blk k = some b) (hg : h.get k = .c T cs) :
    ∃ vs, rh k = some (.blk b (.cells (List.toArray vs) T (0, 0))) ∧ All2 (SR σ) cs.toL vs := by
  obtain ⟨b', o, h1, h2, h3⟩ := hr.live k hk (by rw [hg]; simp)
  rw [hb] at h2; cases h2
  rw [hg] at h3
  obtain ⟨vs, rfl, h4⟩ := h3
  exact ⟨vs, h1, h4⟩
theorem HR.rd {σ : Sg} {h : H} {rh : RH} (hr : HR σ h rh) {k b : Nat} {cs : List S} (hk : k < h.n) (hb : σ.blk k = some b) (hg : (h.get k).cs = some cs) :
    ∃ vs tl T fr, rh k = some (.blk b (.cells (List.toArray (vs ++ tl)) T fr)) ∧ All2 (SR σ) cs vs := by
  have hne : h.get k ≠ .x := by intro h0; rw [h0] at hg; cases hg
  obtain ⟨b', o, h1, h2, h3⟩ := hr.live k hk hne
  rw [hb] at h2; cases h2
  generalize h.get k = v at hg h3
  cases v with
  | x => cases hg
  | c T cs' => cases hg; obtain ⟨vs, rfl, h4⟩ := h3; exact ⟨vs, [], T, (0, 0), by simpa using h1, h4⟩
  | u T sz cs' => cases hg; obtain ⟨vs, rfl, h4, _⟩ := h3; exact ⟨vs, _, T, (0, 0), h1, h4⟩
  | f T cs' => cases hg; obtain ⟨vs, fr, rfl, h4⟩ := h3; exact ⟨vs, _, T, fr, h1, h4⟩
  | m es => cases hg
  | d => cases hg
theorem HR.wi {σ : Sg} {h : H} {rh : RH} (hr : HR σ h rh) {k b : Nat} {cs : List S} {l : B} {v : VO} (hk : k < h.n) (hb : σ.blk k = some b) (hg : (h.get k).cs = some cs) (hw : (h.get k).wi l = some v) (hl : l.toL.length = cs.length) :
    ∃ vs tl T, rh k = some (.blk b (.cells (List.toArray (vs ++ tl)) T (0, 0))) ∧ All2 (SR σ) cs vs ∧ v ≠ .x ∧ ∀ us, All2 (SR σ) l.toL us → OR σ k v (.cells (List.toArray (us ++ tl)) T (0, 0)) := by
  have hne : h.get k ≠ .x := by intro h0; rw [h0] at hg; cases hg
  obtain ⟨b', o, h1, h2, h3⟩ := hr.live k hk hne
  rw [hb] at h2; cases h2
  generalize h.get k = v0 at hg h3 hw
  cases v0 with
  | x => cases hg
  | c T cs' => cases hg; cases hw; obtain ⟨vs, rfl, h4⟩ := h3; exact ⟨vs, [], T, by simpa using h1, h4, by simp, fun us hu => ⟨us, by simp, hu⟩⟩
  | u T sz cs' =>
    cases hg; cases hw; obtain ⟨vs, rfl, h4, h5⟩ := h3
    exact ⟨vs, _, T, h1, h4, by simp, fun us hu => ⟨us, rfl, hu, by have := hu.length; have := h4.length; omega⟩⟩
  | f T cs' => cases hw
  | m es => cases hg
  | d => cases hg
theorem HR.blk_lt {σ : Sg} {h : H} {rh : RH} (hr : HR σ h rh) {k b : Nat} (hb : σ.blk k = some b) : k < h.n := by
  rcases Nat.lt_or_ge k h.n with h1 | h1
  · exact h1
  · rw [hr.out k h1] at hb; cases hb
theorem HR.mem {h : H} {rh : RH} {k : Nat} {p : HP} (hk : k < h.n) (hp : rh k = some p) : p ∈ Lof h.n rh := List.mem_filterMap.2 ⟨k, List.mem_range.2 hk, hp⟩
/-- More is known: what is related stays so. -/
structure Sg.ext (σ τ : Sg) (n : Nat) : Prop where
  le : σ.le τ
  tail : ∀ k, k < n → τ.tail k = σ.tail k
  cap : ∀ k, k < n → τ.cap k = σ.cap k
theorem OR.mono {σ τ : Sg} {k n : Nat} {v : VO} {o : Obj} (h : σ.ext τ n) (hk : k < n) (x : OR σ k v o) : OR τ k v o := by
  cases v with
  | x => exact x
  | c T cs => obtain ⟨vs, h1, h2⟩ := x; exact ⟨vs, h1, h2.mono fun _ _ => SR.mono h.le⟩
  | u T sz cs => obtain ⟨vs, h1, h2, h3⟩ := x; exact ⟨vs, by rw [h.tail k hk]; exact h1, h2.mono fun _ _ => SR.mono h.le, by rw [h.tail k hk, h.cap k hk]; exact h3⟩
  | f T cs => obtain ⟨vs, fr, h1, h2⟩ := x; exact ⟨vs, fr, by rw [h.tail k hk]; exact h1, h2.mono fun _ _ => SR.mono h.le⟩
  | m es => obtain ⟨arr, clk, h1, h2⟩ := x; exact ⟨arr, clk, h1, h2.mono fun _ _ ⟨a, b⟩ => ⟨V0R.mono h.le a, V0R.mono h.le b⟩⟩
  | d => exact x
def Sg.new (σ : Sg) (n b c : Nat) (tl : List Value) : Sg := ⟨fun k => if k = n then some b else σ.blk k, fun k => if k = n then c else σ.cap k, fun k => if k = n then tl else σ.tail k⟩
theorem Sg.new_le {σ : Sg} {n b c : Nat} {tl : List Value} (h : σ.blk n = none) : σ.le (σ.new n b c tl) := ⟨fun k x hx => by
  have hne : k ≠ n := by rintro rfl; rw [h] at hx; cases hx
  simp only [Sg.new, if_neg hne]; exact ⟨hx, trivial⟩⟩
theorem Sg.new_ext {σ : Sg} {n b c : Nat} {tl : List Value} (h : σ.blk n = none) : σ.ext (σ.new n b c tl) n :=
  ⟨Sg.new_le h, fun k hk => by simp only [Sg.new, if_neg (Nat.ne_of_lt hk)], fun k hk => by simp only [Sg.new, if_neg (Nat.ne_of_lt hk)]⟩
theorem HR.new {σ : Sg} {h : H} {rh : RH} (hr : HR σ h rh) {b c : Nat} {tl : List Value} {v : VO} {o : Obj} (hv : v ≠ .x) (ho : OR (σ.new h.n b c tl) h.n v o) :
    HR (σ.new h.n b c tl) (h.new v) (fup rh h.n (some (.blk b o))) := by
  have hx := Sg.new_ext (b := b) (c := c) (tl := tl) (hr.out h.n (Nat.le_refl _))
  refine ⟨fun k => ?_, fun k hk hg => ?_, fun k hk hg => ?_, fun k hk => ?_⟩
  · rw [H.ver_new, H.c_new]; split
    · exact Nat.le_refl _
    · exact hr.vc k
  · rw [H.n_new] at hk
    rw [H.get_new] at hg
    split at hg
    · exact absurd hg hv
    · rename_i hne; simp only [fup]; rw [if_neg (Ne.symm hne)]; exact hr.dead k (by omega) hg
  · rw [H.n_new] at hk
    rw [H.get_new] at hg ⊢
    by_cases he : h.n = k
    · subst he
      rw [if_pos rfl]
      exact ⟨b, o, by simp [fup], by simp [Sg.new], ho⟩
    · rw [if_neg he] at hg ⊢
      obtain ⟨b', o', h1, h2, h3⟩ := hr.live k (by omega) hg
      exact ⟨b', o', by simp only [fup]; rw [if_neg (Ne.symm he)]; exact h1, (hx.le.blk k b' h2).1, OR.mono hx (by omega) h3⟩
  · rw [H.n_new] at hk
    simp only [Sg.new]; rw [if_neg (by omega)]; exact hr.out k (by omega)
theorem HR.upd {σ : Sg} {h : H} {rh : RH} (hr : HR σ h rh) {k b : Nat} {v : VO} {o : Obj} (hk : k < h.n) (hb : σ.blk k = some b) (hv : v ≠ .x) (ho : OR σ k v o) :
    HR σ (h.upd k v) (fup rh k (some (.blk b o))) := by
  refine ⟨fun j => ?_, fun j hj hg => ?_, fun j hj hg => ?_, fun j hj => hr.out j (by rw [H.n_upd] at hj; exact hj)⟩
  · rw [H.ver_upd, H.c_upd]; split
    · exact Nat.le_refl _
    · have := hr.vc j; omega
  · rw [H.n_upd] at hj
    rw [H.get_upd] at hg
    split at hg
    · exact absurd hg hv
    · rename_i hne; simp only [fup]; rw [if_neg (Ne.symm hne)]; exact hr.dead j hj hg
  · rw [H.n_upd] at hj
    rw [H.get_upd] at hg ⊢
    by_cases he : k = j
    · subst he
      rw [if_pos rfl]
      exact ⟨b, o, by simp [fup], hb, ho⟩
    · rw [if_neg he] at hg ⊢
      obtain ⟨b', o', h1, h2, h3⟩ := hr.live j hj hg
      exact ⟨b', o', by simp only [fup]; rw [if_neg (Ne.symm he)]; exact h1, h2, h3⟩
theorem HR.kill {σ : Sg} {h : H} {rh : RH} (hr : HR σ h rh) {k : Nat} (hk : k < h.n) : HR σ (h.upd k .x) (fup rh k none) := by
  refine ⟨fun j => ?_, fun j hj hg => ?_, fun j hj hg => ?_, fun j hj => hr.out j (by rw [H.n_upd] at hj; exact hj)⟩
  · rw [H.ver_upd, H.c_upd]; split
    · exact Nat.le_refl _
    · have := hr.vc j; omega
  · rw [H.n_upd] at hj
    rw [H.get_upd] at hg
    simp only [fup]
    by_cases he : k = j
    · rw [if_pos he.symm]
    · rw [if_neg (Ne.symm he)]; rw [if_neg he] at hg; exact hr.dead j hj hg
  · rw [H.n_upd] at hj
    rw [H.get_upd] at hg ⊢
    by_cases he : k = j
    · rw [if_pos he] at hg; exact absurd rfl hg
    · rw [if_neg he] at hg ⊢
      obtain ⟨b', o', h1, h2, h3⟩ := hr.live j hj hg
      exact ⟨b', o', by simp only [fup]; rw [if_neg (Ne.symm he)]; exact h1, h2, h3⟩
end Go.Gx
