/- Part of an evaluator of the program's calls, proved sound: what it yields, the program does in every world. No condition beyond those that each theorem names. -/
import Derived.Test.YtoclidojcihnfaaGreatGxM
set_option linter.unusedVariables false
set_option linter.unusedSimpArgs false
namespace Go.Gx
open Go.RowKit Go.Gv

/-! ### Maps -/
noncomputable def kMkM (h : H) : Option (V × H) := fN h.n fun k => some (.o (.m k), h.new (.m []))
noncomputable def fnd (P : Program) (kt : Nat) (key : V) (es : List (V × V)) : Nat → Option (Option (Nat × V × V)) := List.rec (motive := fun _ => Nat → Option (Option (Nat × V × V))) (fun _ => some none)
  (fun p _ ih i => ob (eqV P 10000 kt key p.1) fun b => cond b (some (some (i, p))) (ih (Nat.succ i))) es
/-- May a value be a key? -/
structure KF where
  f : V → Bool
noncomputable def kyo (P : Program) (kt : Nat) : KF := match P.underlying kt with
  | some (.int _) => ⟨fun v => match v with | .o (.i _ _) => true | _ => false⟩
  | some (.array _ _) => match arI P kt with
    | some q => match P.underlying q.2.1 with
      | some (.int _) => ⟨fun v => match v with
        | .a xs => (List.range q.1).all fun i => match prt P q.2.1 xs (i * q.2.2) with | some (.o (.i _ _)) => true | _ => false
        | _ => false⟩
      | _ => ⟨fun _ => false⟩
    | none => ⟨fun _ => false⟩
  | _ => ⟨fun _ => false⟩
noncomputable def sbS (a b : S) : Bool := match a, b with
  | .i k x, .i j y => and (decide (k = j)) (ieq x y)
  | _, _ => false
noncomputable def sbL (a b : List S) : Bool := List.rec (motive := fun _ => List S → Bool) (fun b => List.rec (motive := fun _ => Bool) true (fun _ _ _ => false) b) (fun x _ ih b => List.rec (motive := fun _ => Bool) false (fun y ys _ => cond (sbS x y) (ih ys) false) b) a b
/-- Have two keys the same bits? -/
noncomputable def sbV (a b : V) : Bool := match a, b with
  | .o x, .o y => sbS x y
  | .a x, .a y => sbL x y
  | _, _ => false
noncomputable def lset {α : Type} (i : Nat) (v : α) (l : List α) : List α := Nat.rec (motive := fun _ => List α → List α) (fun l => List.rec (motive := fun _ => List α) [] (fun _ xs _ => v :: xs) l) (fun _ ih l => List.rec (motive := fun _ => List α) [] (fun x xs _ => x :: ih xs) l) i l
theorem lset_eq {α : Type} (v : α) : ∀ (i : Nat) (l : List α), lset i v l = l.set i v
  | 0, [] => rfl
  | 0, _ :: _ => rfl
  | i + 1, [] => rfl
  | i + 1, x :: xs => congrArg (x :: ·) (lset_eq v i xs)
noncomputable def snoc {α : Type} (l : List α) (v : α) : List α := List.rec (motive := fun _ => List α) [v] (fun x _ ih => x :: ih) l
theorem snoc_eq {α : Type} (l : List α) (v : α) : snoc l v = l ++ [v] := by
  induction l with
  | nil => rfl
  | cons x l ih => exact congrArg (x :: ·) ih
noncomputable def isV0 (v : V) : Bool := match v with
  | .o _ => true
  | .a _ => true
  | _ => false
theorem isV0_R {σ : Sg} {v : V} {x : Value} (h : isV0 v = true) (k : VR σ v x) : V0R σ v x := by cases v <;> first | exact k | cases h
noncomputable def lkr (ok b : Bool) (v : V) : V := cond ok (.t [v, .o (.b b)]) v
noncomputable def kLk (P : Program) (kt : Nat) (z : V) (ok : Bool) (h : H) (m key : V) : Option V := match m with
  | .o (.m k) => match h.get k with
    | .m es => grd ((kyo P kt).f key) (ob (fnd P kt key es 0) fun r => some (Option.rec (motive := fun _ => V) (lkr ok false z) (fun q => lkr ok true q.2.2) r))
    | _ => none
  | _ => none
noncomputable def kUp (P : Program) (kt : Nat) (h : H) (m key val : V) : Option H := match m with
  | .o (.m k) => match h.get k with
    | .m es => grd ((kyo P kt).f key) (grd (isV0 key) (grd (isV0 val) (ob (fnd P kt key es 0) fun r => Option.rec (motive := fun _ => Option H) (some (h.upd k (.m (snoc es (key, val))))) (fun q => grd (sbV q.2.1 key) (some (h.upd k (.m (lset q.1 (key, val) es))))) r)))
    | _ => none
  | _ => none
section
variable {P : Program} {n : Nat} {e : FE} {h g : H} {o : Oper} {t u : Nat} {x y : Operand} {a b v : V}
theorem kMkM_ok (ho : o.op = .makeMap t none) (hr : kMkM h = some (v, g)) : Trn P n e h o v g := by
  unfold kMkM at hr
  rw [fN_eq] at hr
  refine Trn.got hr ?_
  intro σ E rh he hh C hP hn w hst
  have hs := Stp.new (b := w.heap.size) (c := 0) (tl := []) hh (v := .m []) (o := .map #[] 0) (by simp) ⟨[], 0, rfl, .nil⟩
  refine ⟨.map (some w.heap.size), w.alloc (.map #[] 0), Lof (h.new (.m [])).n (fup rh h.n (some (.blk w.heap.size (.map #[] 0)))), ?_, ⟨_, _, hs, ⟨w.heap.size, by simp [Sg.new], rfl⟩, rfl⟩, ?_⟩
  · simp [execOp, ho, Instr.makeMap, newObj, Sem.run]
  · have := hst.alloc (.map #[] 0)
    refine this.perm ?_
    rw [H.n_new]
    exact (Lof_new h.n rh _).symm
/-- The key is found where it stands. -/
theorem fnd_asking {σ : Sg} {kt : Nat} {key : V} {kv : Value} (hk : V0R σ key kv) : ∀ {es : List (V × V)} {arr : List MapEntry} (i : Nat) {r : Option (Nat × V × V)}, fnd P kt key es i = some r → All2 (MR σ) es arr →
    ∃ r', (∀ w, (Instr.findAsking kt kv arr i).run P w = .ok r' w) ∧ ((r = none ∧ r' = none) ∨ ∃ j p en, r = some (j, p) ∧ r' = some (j, en.val) ∧ MR σ p en ∧ i ≤ j ∧ es[j - i]? = some p ∧ arr[j - i]? = some en)
  | [], [], i, r, hf, .nil => by
    have hf : some none = some r := hf
    cases hf
    exact ⟨none, fun w => rfl, .inl ⟨rfl, rfl⟩⟩
  | p :: es, en :: arr, i, r, hf, .cons hp hl => by
    obtain ⟨b, h1, h2⟩ := ob_some hf
    have heq : ∀ w, (Op.equal kt kv en.key).run P w = .ok b w := eqV_run (P := P) (σ := σ) 10000 kt key p.1 b kv en.key h1 hk hp.1
    cases b with
    | true =>
      have h2 : some (some (i, p)) = some r := h2
      cases h2
      refine ⟨some (i, en.val), fun w => ?_, .inr ⟨i, p, en, rfl, rfl, hp, Nat.le_refl _, by simp, by simp⟩⟩
      simp [Instr.findAsking, Sem.run_bind, heq w]
    | false =>
      obtain ⟨r', h3, h4⟩ := fnd_asking hk (i + 1) h2 hl
      refine ⟨r', fun w => ?_, ?_⟩
      · simp only [Instr.findAsking, Sem.run_bind, heq w, Result.andThen_ok]; exact h3 w
      · rcases h4 with h4 | ⟨j, p', en', h5, h6, h7, h8, h9, h10⟩
        · exact .inl h4
        · refine .inr ⟨j, p', en', h5, h6, h7, by omega, ?_, ?_⟩
          · rw [show j - i = (j - (i + 1)) + 1 by omega, List.getElem?_cons_succ]; exact h9
          · rw [show j - i = (j - (i + 1)) + 1 by omega, List.getElem?_cons_succ]; exact h10
/-- Integers are found at once. -/
theorem fnd_now {σ : Sg} {kt : Nat} {kk k : IntKind} {a : Int} (hu : P.underlying kt = some (.int kk)) : ∀ {es : List (V × V)} {arr : List MapEntry} (i : Nat) {r : Option (Nat × V × V)}, fnd P kt (.o (.i k a)) es i = some r → All2 (MR σ) es arr →
    ∃ r', Instr.findNow (.int kk) (.int k a) arr i = some r' ∧ ((r = none ∧ r' = none) ∨ ∃ j p en, r = some (j, p) ∧ r' = some (j, en.val) ∧ MR σ p en ∧ i ≤ j ∧ es[j - i]? = some p ∧ arr[j - i]? = some en)
  | [], [], i, r, hf, .nil => by
    have hf : some none = some r := hf
    cases hf
    exact ⟨none, rfl, .inl ⟨rfl, rfl⟩⟩
  | p :: es, en :: arr, i, r, hf, .cons hp hl => by
    obtain ⟨b, h1, h2⟩ := ob_some hf
    have h1 : eqStep P (eqV P 9999) kt (.o (.i k a)) p.1 = some b := h1
    have hs : ∃ c, en.key = .int k c ∧ b = (a == c) := by
      unfold eqStep at h1
      split at h1
      · rename_i k' a' k2 b' h3 h4
        cases h3
        rw [hu] at h1
        by_cases hkk : k = k2
        · subst hkk
          simp only [decide_true, cond_true, Option.some.injEq] at h1
          have h5 : en.key = .int k b' := by have := hp.1; rw [h4] at this; exact this
          exact ⟨b', h5, by rw [← h1, ieq_eq]⟩
        · simp [hkk] at h1
      · rename_i h3 h4; cases h3
      · rename_i h3 h4; cases h3
      · rename_i h3 h4; cases h3
      · cases h1
    obtain ⟨c, hc, hb⟩ := hs
    have hsame : Instr.sameNow (.int kk) (.int k a) en.key = some b := by rw [hc, hb]; simp [Instr.sameNow]
    cases b with
    | true =>
      have h2 : some (some (i, p)) = some r := h2
      cases h2
      exact ⟨some (i, en.val), by simp [Instr.findNow, hsame], .inr ⟨i, p, en, rfl, rfl, hp, Nat.le_refl _, by simp, by simp⟩⟩
    | false =>
      obtain ⟨r', h3, h4⟩ := fnd_now hu (i + 1) h2 hl
      refine ⟨r', by simp [Instr.findNow, hsame, h3], ?_⟩
      rcases h4 with h4 | ⟨j, p', en', h5, h6, h7, h8, h9, h10⟩
      · exact .inl h4
      · refine .inr ⟨j, p', en', h5, h6, h7, by omega, ?_, ?_⟩
        · rw [show j - i = (j - (i + 1)) + 1 by omega, List.getElem?_cons_succ]; exact h9
        · rw [show j - i = (j - (i + 1)) + 1 by omega, List.getElem?_cons_succ]; exact h10
theorem fnd_key {σ : Sg} {kt : Nat} {key : V} {kv : Value} (hk : V0R σ key kv) (hy : (kyo P kt).f key = true) {es : List (V × V)} {arr : List MapEntry} {r : Option (Nat × V × V)} (hf : fnd P kt key es 0 = some r) (hl : All2 (MR σ) es arr) :
    ∃ r', (∀ w, (Instr.findKey kt kv arr).run P w = .ok r' w) ∧ ((r = none ∧ r' = none) ∨ ∃ j p en, r = some (j, p) ∧ r' = some (j, en.val) ∧ MR σ p en ∧ es[j]? = some p ∧ arr[j]? = some en) := by
  unfold kyo at hy
  split at hy
  · rename_i kk hu
    simp only at hy
    split at hy
    · rename_i k a
      have hk : kv = _ := hk
      subst hk
      obtain ⟨r', h1, h2⟩ := fnd_now hu 0 hf hl
      refine ⟨r', fun w => by simp [Instr.findKey, run_underlying hu, h1], ?_⟩
      rcases h2 with h2 | ⟨j, p, en, h3, h4, h5, _, h6, h7⟩
      · exact .inl h2
      · exact .inr ⟨j, p, en, h3, h4, h5, h6, h7⟩
    · cases hy
  · rename_i len el hu
    split at hy
    · rename_i q hq
      split at hy
      · simp only at hy
        split at hy
        · rename_i xs
          obtain ⟨vs, rfl, hvs⟩ := hk
          obtain ⟨r', h1, h2⟩ := fnd_asking (P := P) (σ := σ) (key := .a xs) (kv := .agg (List.toArray vs)) ⟨vs, rfl, hvs⟩ 0 hf hl
          refine ⟨r', fun w => ?_, ?_⟩
          · have h1 := h1 w
            cases arr with
            | nil =>
              simp only [Instr.findAsking, Sem.run_pure, Result.ok.injEq, and_true] at h1
              subst h1
              simp [Instr.findKey, run_underlying hu, Instr.findNow]
            | cons en arr => simp [Instr.findKey, run_underlying hu, Instr.findNow, Instr.sameNow, h1]
          · rcases h2 with h2 | ⟨j, p, en, h3, h4, h5, _, h6, h7⟩
            · exact .inl h2
            · exact .inr ⟨j, p, en, h3, h4, h5, h6, h7⟩
        · cases hy
      · cases hy
    · cases hy
  · cases hy
theorem ckArr_run {P : Program} {empty : Bool} {d : Nat} {kk : IntKind} {el n : Nat} {vs : List Value} (hu : P.underlying el = some (.int kk)) (hn : ∀ w, (sizeOf el).run P w = .ok n w) : ∀ (is : List Nat), (∀ i ∈ is, ∃ z, ∀ w, (part el (List.toArray vs) (i * n)).run P w = .ok (.int kk z) w ∨ ∃ j, (part el (List.toArray vs) (i * n)).run P w = .ok (.int j z) w) →
    ∀ w, (forIn (m := Sem) is PUnit.unit fun i _ => do Instr.checkKey empty (d + 1) el (← part el (List.toArray vs) (i * (← sizeOf el))); pure (ForInStep.yield PUnit.unit)).run P w = .ok PUnit.unit w
  | [], _, w => rfl
  | i :: is, h, w => by
    obtain ⟨z, hz⟩ := h i (by simp)
    have ih := ckArr_run (empty := empty) (d := d) hu hn is (fun j hj => h j (List.mem_cons_of_mem _ hj)) w
    simp only [List.forIn_cons, bind_assoc, Sem.run_bind, hn w, Result.andThen_ok]
    rcases hz w with h1 | ⟨j, h1⟩ <;>
    · simp only [h1, Result.andThen_ok]
      simp only [Instr.checkKey, Sem.run_bind, run_underlying hu, Result.andThen_ok, Sem.run_pure]
      exact ih
theorem key_check' {σ : Sg} {kt : Nat} {key : V} {kv : Value} (hk : V0R σ key kv) (hy : (kyo P kt).f key = true) (empty : Bool) (d : Nat) (w : World) : (Instr.checkKey empty (d + 1 + 1) kt kv).run P w = .ok () w := by
  unfold kyo at hy
  split at hy
  · rename_i kk hu
    simp only at hy
    split at hy
    · rename_i k a
      have hk : kv = _ := hk
      subst hk
      simp [Instr.checkKey, run_underlying hu]
    · cases hy
  · rename_i len el hu
    split at hy
    · rename_i q hq
      obtain ⟨len', el', sz⟩ := q
      split at hy
      · rename_i kk he8
        simp only at hy
        split at hy
        · rename_i xs
          obtain ⟨vs, rfl, hvs⟩ := hk
          obtain ⟨hu', z, by_, hT⟩ := arI.info hq
          rw [hu] at hu'; cases hu'
          rw [Instr.checkKey]
          simp only [Sem.run_bind, run_underlying hu, Result.andThen_ok]
          rw [Std.Legacy.Range.forIn_eq_forIn_range']
          simp only [Std.Legacy.Range.size, Nat.sub_zero, Nat.add_sub_cancel, Nat.div_one]
          rw [← List.range_eq_range']
          have := ckArr_run (P := P) (empty := empty) (d := d) (n := sz) (vs := vs) he8 (fun w => by simp [tyI.size hT]) (List.range len) (fun i hi => by
            have h1 := List.all_eq_true.1 hy i hi
            split at h1
            · rename_i k c hp
              obtain ⟨x, h2, h3⟩ := prt_run hp hvs
              have h2 : x = _ := h2
              subst h2
              exact ⟨c, fun w => .inr ⟨k, h3 w⟩⟩
            · cases h1) w
          rw [this]
          rfl
        · cases hy
      · cases hy
    · cases hy
  · cases hy
theorem key_check {σ : Sg} {kt : Nat} {key : V} {kv : Value} (hk : V0R σ key kv) (hy : (kyo P kt).f key = true) (empty : Bool) (w : World) : (Instr.checkKey empty 10000 kt kv).run P w = .ok () w := key_check' hk hy empty 9998 w
theorem lkr_R {σ : Sg} {ok b : Bool} {v : V} {x : Value} (h : V0R σ v x) : VR σ (lkr ok b v) (if ok then .tuple #[x, .bool b] else x) := by
  cases ok with
  | true => exact ⟨[x, .bool b], rfl, .cons h (.cons rfl .nil)⟩
  | false => exact h.VR
theorem zV_R {σ : Sg} {z : V} {x : Value} (h : cst x = some z) (k : isV0 z = true) : V0R σ z x := isV0_R k (cst_VR h)
theorem kLk_ok {ok : Bool} {kt et sz by_ : Nat} {zv : Value} {z m key : V} (ho : o.op = .lookup t x y ok) (hu : P.underlying t = some (.map kt et)) (hT : tyI P et = some (zv, sz, by_)) (hz : ∀ σ, V0R σ z zv) (hx : opv n e x = some m) (hy : opv n e y = some key) (hr : kLk P kt z ok h m key = some v) : Pur P n e h o v (pb m) := by
  unfold kLk at hr
  split at hr
  · rename_i k
    split at hr
    · rename_i es hes
      obtain ⟨h1, hr⟩ := grd_some hr
      obtain ⟨r, h2, hr⟩ := ob_some hr
      intro σ E rh he hh
      obtain ⟨b, hb, hmv⟩ : SR σ (.m k) (ev n E x) := he.opv hx
      have hk := hh.blk_lt hb
      obtain ⟨b', o', h3, h4, h5⟩ := hh.live k hk (by rw [hes]; simp)
      rw [hb] at h4; cases h4
      rw [hes] at h5
      obtain ⟨arr, clk, rfl, hall⟩ := h5
      have hkv : V0R σ key (ev n E y) := isV0_R (by
        unfold kyo at h1
        split at h1
        · simp only at h1; split at h1 <;> first | rfl | cases h1
        · split at h1
          · split at h1
            · simp only at h1; split at h1 <;> first | rfl | cases h1
            · cases h1
          · cases h1
        · cases h1) (he.opv hy)
      obtain ⟨r', h6, h7⟩ := fnd_key hkv h1 h2 hall
      have hrun : ∀ (fv : Value) (bb : Bool), (match r' with | some (_, v) => (v, true) | none => (zv, false)) = (fv, bb) → ∀ (C : Ctx) (L : List HP), C.P = P → C.n = n → (∀ j p, pb (.o (.m k)) = j + 1 → j < h.n → rh j = some p → In L p) → Yld C L E o (if ok then .tuple #[fv, .bool bb] else fv) := by
        intro fv bb hfv C L hP hn hin w hst
        subst hP hn
        have hm : w.heap[b]? = _ := hst.sat.all _ (hin k _ rfl hk h3).mem
        have hg : (getObj b).run C.P w = .ok (.map (List.toArray arr) clk) w := by simp [getObj, Sem.run, hm]
        have h8 := key_check (P := C.P) hkv h1 arr.isEmpty w
        have h9 := h6 w
        simp only [execOp, ho, hmv]
        simp only [Instr.lookup, Sem.run_bind, run_underlying hu, Result.andThen_ok, hg, Sem.run_pure]
        cases r' with
        | none => cases hfv; simp [h8, h9, tyI.zero hT]
        | some q => obtain ⟨j, vv⟩ := q; cases hfv; simp [h8, h9]
      rcases h7 with ⟨rfl, rfl⟩ | ⟨j, p, en, rfl, rfl, hp, _, _⟩
      · cases hr
        exact ⟨_, lkr_R (hz σ), hrun zv false rfl⟩
      · cases hr
        exact ⟨_, lkr_R hp.2, hrun en.val true rfl⟩
    · cases hr
  · cases hr
theorem sbS_R {σ : Sg} {a b : S} {x y : Value} (h : sbS a b = true) (k : SR σ a x) (m : SR σ b y) (d : Nat) : Instr.sameBits d x y = true := by
  unfold sbS at h
  split at h
  · rename_i k' x' j y'
    have hh : (decide (k' = j) && ieq x' y') = true := h
    rw [Bool.and_eq_true, decide_eq_true_eq, ieq_eq, beq_iff_eq] at hh
    have k : x = _ := k
    have m : y = _ := m
    subst k m
    obtain ⟨rfl, rfl⟩ := hh
    cases d <;> simp [Instr.sameBits]
  · cases h
theorem sbL_R {σ : Sg} : ∀ {a b : List S} {x y : List Value}, sbL a b = true → All2 (SR σ) a x → All2 (SR σ) b y → ∀ d, x.length = y.length ∧ ((x.zip y).all fun (p, q) => Instr.sameBits d p q) = true
  | [], [], _, _, _, .nil, .nil, d => ⟨rfl, rfl⟩
  | [], _ :: _, _, _, h, _, _, d => by cases h
  | _ :: _, [], _, _, h, _, _, d => by cases h
  | s :: a, t :: b, _, _, h, .cons h1 h2, .cons h3 h4, d => by
    have h : cond (sbS s t) (sbL a b) false = true := h
    cases hs : sbS s t with
    | false => rw [hs] at h; cases h
    | true =>
      rw [hs] at h
      obtain ⟨e1, e2⟩ := sbL_R h h2 h4 d
      refine ⟨by simp [e1], ?_⟩
      simp only [List.zip_cons_cons, List.all_cons, Bool.and_eq_true]
      exact ⟨sbS_R hs h1 h3 d, e2⟩
theorem sbV_R {σ : Sg} {a b : V} {x y : Value} (h : sbV a b = true) (k : V0R σ a x) (m : V0R σ b y) (d : Nat) : Instr.sameBits (d + 1) x y = true := by
  unfold sbV at h
  split at h
  · exact sbS_R h k m _
  · obtain ⟨xs, rfl, h1⟩ := k
    obtain ⟨ys, rfl, h2⟩ := m
    obtain ⟨e1, e2⟩ := sbL_R h h1 h2 d
    simp only [Instr.sameBits, List.size_toArray, e1, beq_self_eq_true, Bool.true_and]
    exact e2
  · cases h
theorem run_setObj {P : Program} {w : World} {b : Nat} {arr : Array MapEntry} {clk : Nat} {o' : Obj} (hm : w.heap[b]? = some (.map arr clk)) : (setObj b o').run P w = .ok () { w with heap := w.heap.setIfInBounds b o' } := by
  simp [setObj, Sem.run, hm]
theorem kUp_ok {kt et : Nat} {zz : Operand} {m key val : V} (ho : o.op = .mapUpdate t x y zz) (hd : o.dst = none) (hu : P.underlying t = some (.map kt et)) (hx : opv n e x = some m) (hy : opv n e y = some key) (hz : opv n e zz = some val) (hr : kUp P kt h m key val = some g) : Trn0 P n e h o g := by
  unfold kUp at hr
  split at hr
  · rename_i k
    split at hr
    · rename_i es hes
      obtain ⟨h1, hr⟩ := grd_some hr
      obtain ⟨i1, hr⟩ := grd_some hr
      obtain ⟨i2, hr⟩ := grd_some hr
      obtain ⟨r, h2, hr⟩ := ob_some hr
      intro σ E rh he hh C hP hn w hst
      subst hP hn
      obtain ⟨b, hb, hmv⟩ : SR σ (.m k) (ev C.n E x) := he.opv hx
      have hk := hh.blk_lt hb
      obtain ⟨b', o', h3, h4, h5⟩ := hh.live k hk (by rw [hes]; simp)
      rw [hb] at h4; cases h4
      rw [hes] at h5
      obtain ⟨arr, clk, rfl, hall⟩ := h5
      have hkv : V0R σ key (ev C.n E y) := isV0_R i1 (he.opv hy)
      have hvv : V0R σ val (ev C.n E zz) := isV0_R i2 (he.opv hz)
      obtain ⟨r', h6, h7⟩ := fnd_key hkv h1 h2 hall
      have hm : w.heap[b]? = _ := hst.sat.all _ (HR.mem hk h3)
      have hg : (getObj b).run C.P w = .ok (.map (List.toArray arr) clk) w := by simp [getObj, Sem.run, hm]
      have h8 := key_check (P := C.P) hkv h1 false w
      have h9 := h6 w
      obtain ⟨rr, p1, p2, _⟩ := Lof_perm hk h3
      -- the block anew
      have fin : ∀ (es' : List (V × V)) (arr' : List MapEntry) (clk' : Nat), All2 (MR σ) es' arr' → g = h.upd k (.m es') → (execOp (ev C.n E) o).run C.P w = .ok .skip { w with heap := w.heap.setIfInBounds b (.map (List.toArray arr') clk') } →
          ∃ w' L', (execOp (ev C.n E) o).run C.P w = .ok .skip w' ∧ (∃ τ sh, Stp σ τ h g rh sh ∧ L' = Lof g.n sh) ∧ St C.w0 C.M L' w' := by
        intro es' arr' clk' ha hgg hrun
        subst hgg
        have hs := Stp.upd hh hk hb (v := .m es') (o := .map (List.toArray arr') clk') (by simp) ⟨arr', clk', rfl, ha⟩
        refine ⟨_, _, hrun, ⟨_, _, hs, rfl⟩, ?_⟩
        have hlt : b < w.heap.size := (Array.getElem?_eq_some_iff.1 hm).1
        have hst2 : St C.w0 C.M (.blk b (.map (List.toArray arr') clk') :: rr) { w with heap := w.heap.setIfInBounds b (.map (List.toArray arr') clk') } := by
          refine (hst.perm p1).step1 (q := .blk b (.map (List.toArray arr') clk')) ?_ ⟨rfl, rfl, rfl, by simp, fun j hj hjm => ?_⟩ (fun x hx => .inl hx)
          · show ({ w with heap := w.heap.setIfInBounds b (.map (List.toArray arr') clk') } : World).heap[b]? = _
            simp [hlt]
          · have : j ≠ b := fun e => hjm (by simp [HP.dom, e])
            simp [Array.getElem?_setIfInBounds, Ne.symm this]
        refine hst2.perm ?_
        rw [H.n_upd]; exact (p2 _).symm
      rcases h7 with ⟨rfl, rfl⟩ | ⟨j, p, en, rfl, rfl, hp, hj1, hj2⟩
      · have hr : some (h.upd k (.m (snoc es (key, val)))) = some g := hr
        cases hr
        refine fin (snoc es (key, val)) (arr ++ [{ key := ev C.n E y, val := ev C.n E zz, born := clk }]) (clk + 1) (by rw [snoc_eq]; exact hall.append (.cons ⟨hkv, hvv⟩ .nil)) rfl ?_
        simp only [execOp, ho, hmv, Instr.mapUpdate, Sem.run_bind, run_underlying hu, Result.andThen_ok, hg, h8, h9]
        simp [run_setObj hm]
      · have hr : cond (sbV p.1 key) (some (h.upd k (.m (lset j (key, val) es)))) none = some g := hr
        cases hsb : sbV p.1 key with
        | false => rw [hsb] at hr; cases hr
        | true =>
          rw [hsb] at hr
          have hr : some (h.upd k (.m (lset j (key, val) es))) = some g := hr
          cases hr
          have hbits := sbV_R hsb hp.1 hkv 9999
          refine fin (lset j (key, val) es) (arr.set j { en with key := ev C.n E y, val := ev C.n E zz }) clk (by rw [lset_eq]; exact hall.set j ⟨hkv, hvv⟩) rfl ?_
          have hmod : (List.toArray arr).modify j (fun e : MapEntry => { e with key := ev C.n E y, val := ev C.n E zz }) = List.toArray (arr.set j { en with key := ev C.n E y, val := ev C.n E zz }) := by
            apply Array.ext'
            simp only [Array.toList_modify, List.toList_toArray]
            apply List.ext_getElem?
            intro i
            rw [List.getElem?_modify, List.getElem?_set]
            by_cases hi : j = i
            · subst hi
              obtain ⟨hlt, hen⟩ := List.getElem?_eq_some_iff.1 hj2
              simp [hlt, hen]
            · simp [hi]
          simp only [execOp, ho, hmv, Instr.mapUpdate, Sem.run_bind, run_underlying hu, Result.andThen_ok, hg, h8, h9]
          have hkey : (Instr.keyThatStays ((((List.toArray arr)[j]?).map (·.key)).getD (ev C.n E y)) (ev C.n E y)).run C.P w = .ok (ev C.n E y) w := by
            simp only [List.getElem?_toArray, hj2, Option.map_some, Option.getD_some, Instr.keyThatStays]
            rw [show (10000 : Nat) = 9999 + 1 from rfl, if_pos hbits]; rfl
          rw [hkey]
          simp only [Result.andThen_ok]
          rw [hmod]
          simp [run_setObj hm]
    · cases hr
  · cases hr
end
end Go.Gx
