/- Part of an evaluator of the program's calls, proved sound: what it yields, the program does in every world. No condition beyond those that each theorem names. -/
import Derived.Test.YtoclidojcihnfaaGreatGxS
set_option linter.unusedVariables false
set_option linter.unusedSimpArgs false
namespace Go.Gx
open Go.RowKit Go.Gv

/-! ### Plain values, as they are -/
noncomputable def pk1 (s : S) : Bool := match s with
  | .i _ _ => true
  | .b _ => true
  | .s l => l.all fun c => Nat.blt c 256
  | .r _ => true
  | _ => false
noncomputable def pkn (v : V) : Bool := match v with
  | .o s => pk1 s
  | .a l => l.all pk1
  | .t l => l.all fun v => match v with
    | .o s => pk1 s
    | .a l => l.all pk1
    | _ => false
  | .x _ => false
def pv1 (s : S) : Value := match s with
  | .i k z => .int k z
  | .b x => .bool x
  | .s l => .string ⟨(l.map UInt8.ofNat).toArray⟩
  | .r v => v
  | _ => undef
def pv0 (v : V) : Value := match v with
  | .o s => pv1 s
  | .a l => .agg (l.map pv1).toArray
  | _ => undef
def pv (v : V) : Value := match v with
  | .o s => pv1 s
  | .a l => .agg (l.map pv1).toArray
  | .t l => .tuple (l.map pv0).toArray
  | .x _ => undef
theorem pk1_pl {s : S} (h : pk1 s = true) : pl1 s = true := by cases s <;> first | rfl | cases h
theorem bytes_id : ∀ {l : List Nat}, (∀ c ∈ l, Nat.blt c 256 = true) → (l.map UInt8.ofNat).map UInt8.toNat = l
  | [], _ => rfl
  | c :: l, h => by
    have h1 := h c (by simp)
    rw [Nat.blt_eq] at h1
    simp only [List.map_cons, List.cons.injEq]
    refine ⟨?_, bytes_id fun x hx => h x (List.mem_cons_of_mem _ hx)⟩
    simp only [UInt8.toNat_ofNat']
    omega
theorem pk1_R {σ : Sg} {s : S} (h : pk1 s = true) : SR σ s (pv1 s) := by
  cases s with
  | s l =>
    exact ⟨_, rfl, by simpa using bytes_id (List.all_eq_true.1 h)⟩
  | i _ _ => rfl
  | b _ => rfl
  | r _ => rfl
  | _ => cases h
theorem pks_R {σ : Sg} : ∀ {l : List S}, l.all pk1 = true → All2 (SR σ) l (l.map pv1)
  | [], _ => .nil
  | s :: l, h => by
    simp only [List.all_cons, Bool.and_eq_true] at h
    exact .cons (pk1_R h.1) (pks_R h.2)
theorem pk0_R {σ : Sg} : ∀ {l : List V}, (l.all fun v => match v with | .o s => pk1 s | .a l => l.all pk1 | _ => false) = true → All2 (V0R σ) l (l.map pv0)
  | [], _ => .nil
  | v :: l, h => by
    simp only [List.all_cons, Bool.and_eq_true] at h
    refine .cons ?_ (pk0_R h.2)
    cases v with
    | o s => exact pk1_R h.1
    | a l => exact ⟨_, rfl, pks_R h.1⟩
    | t l => cases h.1
    | x v => cases h.1
theorem pkn_R {σ : Sg} {v : V} (h : pkn v = true) : VR σ v (pv v) := by
  cases v with
  | o s => exact pk1_R h
  | a l => exact ⟨_, rfl, pks_R h⟩
  | t l => exact ⟨_, rfl, pk0_R h⟩
  | x v => cases h
theorem all_imp {α : Type} {p q : α → Bool} (h : ∀ x, p x = true → q x = true) {l : List α} (k : l.all p = true) : l.all q = true := List.all_eq_true.2 fun x hx => h x (List.all_eq_true.1 k x hx)
theorem pkn_pln {v : V} (h : pkn v = true) : pln v = true := by
  cases v with
  | o s => exact pk1_pl h
  | a l => exact all_imp (fun _ => pk1_pl) h
  | t l =>
    refine all_imp (fun v hv => ?_) h
    cases v with
    | o s => exact pk1_pl hv
    | a l => exact all_imp (fun _ => pk1_pl) hv
    | t l => cases hv
    | x v => cases hv
  | x v => cases h
theorem pkn_eq {σ : Sg} {v : V} {x : Value} (h : pkn v = true) (k : VR σ v x) : x = pv v := pln_uniq (τ := σ) (pkn_pln h) k (pkn_R h)
theorem pkns_eq {σ : Sg} : ∀ {l : List V} {xs : List Value}, l.all pkn = true → All2 (VR σ) l xs → xs = l.map pv
  | [], _, _, .nil => rfl
  | v :: l, _, h, .cons hv hl => by
    simp only [List.all_cons, Bool.and_eq_true] at h
    rw [List.map_cons, pkn_eq h.1 hv, pkns_eq h.2 hl]
theorem pkns_R {σ : Sg} : ∀ {l : List V}, l.all pkn = true → All2 (VR σ) l (l.map pv)
  | [], _ => .nil
  | v :: l, h => by
    simp only [List.all_cons, Bool.and_eq_true] at h
    exact .cons (pkn_R h.1) (pkns_R h.2)
/-- A call that is handed no block, run on no memory: it has this value, whatever the memory. -/
theorem CallOK.det {P : Program} {cf : CF} (hcf : CallOK P cf) {f : Nat} {args : List V} {v : V} {g : H} (hr : cf f args H.none = some (v, g)) (ha : args.all pkn = true) (hv : pkn v = true) (w : World) :
    Tri P f (args.map pv).toArray w [] (Ret fun x _ => x = pv v) := by
  have hh : HR ⟨fun _ => none, fun _ => 0, fun _ => []⟩ H.none (fun _ => none) := ⟨fun _ => Nat.le_refl _, fun k hk _ => rfl, fun k hk => absurd hk (Nat.not_lt_zero _), fun _ _ => rfl⟩
  refine Calls.mono (hcf.run f args H.none v g hr _ _ _ w (pkns_R ha) hh (Sat.nil w)) ?_
  rintro en w' ⟨L', hR, hst⟩
  cases en with
  | returned x =>
    obtain ⟨τ, sh, _, h2, _⟩ := hR
    exact ⟨[], pkn_eq hv h2, St.drop (A := L') (by rw [List.append_nil]; exact hst)⟩
  | panicked ch => obtain ⟨pv, τ, sh, rfl, _⟩ := hR; cases hv
  | outgrown => exact hR.elim
end Go.Gx
