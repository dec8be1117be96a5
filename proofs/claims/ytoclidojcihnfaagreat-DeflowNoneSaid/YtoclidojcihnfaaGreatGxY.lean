/- Part of an evaluator of the program's calls, proved sound: what it yields, the program does in every world. No condition beyond those that each theorem names. -/
import Derived.Test.YtoclidojcihnfaaGreatGxW
set_option linter.unusedVariables false
set_option linter.unusedSimpArgs false
namespace Go.Gx
open Go.RowKit Go.Gv

/-! ### Calls whose value is known -/
/-- Are two values that name no block the same? (Told by the kernel; false says nothing.) -/
noncomputable def seqS (a b : S) : Bool := match a, b with
  | .i k x, .i j y => and (decide (k = j)) (ieq x y)
  | .b x, .b y => bequ x y
  | .s x, .s y => leq x y
  | _, _ => false
theorem seqS_eq {a b : S} (h : seqS a b = true) : a = b := by
  unfold seqS at h
  split at h
  · rename_i k x j y
    have hh : (decide (k = j) && ieq x y) = true := h
    rw [Bool.and_eq_true, decide_eq_true_eq, ieq_eq, beq_iff_eq] at hh
    rw [hh.1, hh.2]
  · rw [bequ_eq, beq_iff_eq] at h; rw [h]
  · rw [leq_eq, beq_iff_eq] at h; rw [h]
  · cases h
noncomputable def seqL (a b : List S) : Bool := List.rec (motive := fun _ => List S → Bool) (fun b => List.rec (motive := fun _ => Bool) true (fun _ _ _ => false) b) (fun x _ ih b => List.rec (motive := fun _ => Bool) false (fun y ys _ => cond (seqS x y) (ih ys) false) b) a b
theorem seqL_eq : ∀ {a b : List S}, seqL a b = true → a = b
  | [], [], _ => rfl
  | [], _ :: _, h => by cases h
  | _ :: _, [], h => by cases h
  | x :: a, y :: b, h => by
    have h : cond (seqS x y) (seqL a b) false = true := h
    cases hs : seqS x y with
    | false => rw [hs] at h; cases h
    | true => rw [hs] at h; rw [seqS_eq hs, seqL_eq h]
noncomputable def seqV (a b : V) : Bool := match a, b with
  | .o x, .o y => seqS x y
  | .a x, .a y => seqL x y
  | _, _ => false
theorem seqV_eq {a b : V} (h : seqV a b = true) : a = b := by
  unfold seqV at h
  split at h
  · rw [seqS_eq h]
  · rw [seqL_eq h]
  · cases h
noncomputable def seqVs (a b : List V) : Bool := List.rec (motive := fun _ => List V → Bool) (fun b => List.rec (motive := fun _ => Bool) true (fun _ _ _ => false) b) (fun x _ ih b => List.rec (motive := fun _ => Bool) false (fun y ys _ => cond (seqV x y) (ih ys) false) b) a b
theorem seqVs_eq : ∀ {a b : List V}, seqVs a b = true → a = b
  | [], [], _ => rfl
  | [], _ :: _, h => by cases h
  | _ :: _, [], h => by cases h
  | x :: a, y :: b, h => by
    have h : cond (seqV x y) (seqVs a b) false = true := h
    cases hs : seqV x y with
    | false => rw [hs] at h; cases h
    | true => rw [hs] at h; rw [seqV_eq hs, seqVs_eq h]
/-- A call's value, that was found once and for all. -/
structure Kn where
  f : Nat
  args : List V
  v : V
/-- What is known of a call holds: it is callable, and has that value in every world. -/
structure KnOK (P : Program) (k : Kn) : Prop where
  fn : Callable P k.f
  a : k.args.all pkn = true
  v : pkn k.v = true
  run : ∀ w, Tri P k.f (k.args.map pv).toArray w [] (Ret fun x _ => x = pv k.v)
theorem KnOK.of {P : Program} {cf : CF} (hcf : CallOK P cf) {k : Kn} {g : H} (h : cf k.f k.args H.none = some (k.v, g)) (ha : k.args.all pkn = true) (hv : pkn k.v = true) : KnOK P k :=
  ⟨hcf.fn _ _ _ _ h, ha, hv, fun w => hcf.det h ha hv w⟩
/-- Calls, where some values are known. -/
noncomputable def ovr (l : List Kn) (cf : CF) : CF := List.rec (motive := fun _ => CF) cf (fun k _ ih f args h => cond (and (Nat.beq f k.f) (seqVs args k.args)) (some (k.v, h)) (ih f args h)) l
theorem Tri.frame0 {P : Program} {f : FuncId} {args : Array Value} {w : World} {L : List HP} {R : Ending → List HP → Prop} (h : Tri P f args w [] R) (hs : Sat L w) : Tri P f args w L (fun en L' => ∃ L2, R en L2 ∧ L' = L) := by
  refine Calls.mono h fun en w' ⟨L2, hR, hst⟩ => ?_
  have h1 : St w (doms L) L w' := by
    have := St.step (w0 := w) (M := doms L) (A := []) (B := L2) (L := L) (by simpa using St.init L w hs) hst
    exact St.drop (A := L2) this
  exact ⟨L, ⟨L2, hR, rfl⟩, h1⟩
theorem ovr_ok {P : Program} {cf : CF} (hcf : CallOK P cf) : ∀ {l : List Kn}, (∀ k ∈ l, KnOK P k) → CallOK P (ovr l cf)
  | [], _ => hcf
  | k :: l, hk => by
    have ih := ovr_ok (l := l) hcf fun k' h' => hk k' (List.mem_cons_of_mem _ h')
    have h0 := hk k (by simp)
    refine ⟨fun f args h r hr => ?_, fun f args h v g hr σ rh xs w ha hh hsat => ?_⟩
    · have hr : cond (and (Nat.beq f k.f) (seqVs args k.args)) (some (k.v, h)) (ovr l cf f args h) = some r := hr
      cases hc : (and (Nat.beq f k.f) (seqVs args k.args)) with
      | true =>
        have : (Nat.beq f k.f && seqVs args k.args) = true := hc
        rw [Bool.and_eq_true] at this
        have := Nat.eq_of_beq_eq_true this.1
        subst this
        exact h0.fn
      | false => rw [hc] at hr; exact ih.fn _ _ _ _ hr
    · have hr : cond (and (Nat.beq f k.f) (seqVs args k.args)) (some (k.v, h)) (ovr l cf f args h) = some (v, g) := hr
      cases hc : (and (Nat.beq f k.f) (seqVs args k.args)) with
      | true =>
        rw [hc] at hr
        have hc : (Nat.beq f k.f && seqVs args k.args) = true := hc
        rw [Bool.and_eq_true] at hc
        have e1 := Nat.eq_of_beq_eq_true hc.1
        have e2 := seqVs_eq hc.2
        subst e1 e2
        have hr : some (k.v, h) = some (v, g) := hr
        cases hr
        have hxs := pkns_eq h0.a ha
        subst hxs
        refine Calls.mono (Tri.frame0 (h0.run w) hsat) fun en w' hh' => ?_
        obtain ⟨L', ⟨L2, hR, rfl⟩, hst⟩ := hh'
        refine ⟨_, ?_, hst⟩
        cases en with
        | returned x =>
          have hR : x = pv k.v := hR
          exact ⟨σ, rh, Stp.refl hh, by rw [hR]; exact pkn_R h0.v, rfl⟩
        | panicked ch => exact hR.elim
        | outgrown => exact hR.elim
      | false => rw [hc] at hr; exact ih.run _ _ _ _ _ hr σ rh xs w ha hh hsat
/-- The run of functions, where some values are known. -/
noncomputable def xfk (P : Program) (dt : DT) (hts : Nat → HT) (l : List Kn) (fuel : Nat) : CF := Nat.rec (motive := fun _ => CF) (fun _ _ _ => none) (fun _ ih => ovr l (step1 P (drsOf P dt) hts ih)) fuel
theorem xfk_ok {P : Program} {dt : DT} {hts : Nat → HT} {l : List Kn} (hl : ∀ k ∈ l, KnOK P k) : ∀ fuel, CallOK P (xfk P dt hts l fuel)
  | 0 => ⟨fun _ _ _ _ h => (by cases h), fun _ _ _ _ _ h => (by cases h)⟩
  | fuel + 1 => ovr_ok (step1_ok drsOf_ok (xfk_ok hl fuel)) hl
end Go.Gx
