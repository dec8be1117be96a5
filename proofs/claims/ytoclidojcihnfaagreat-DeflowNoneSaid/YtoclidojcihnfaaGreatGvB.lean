/- Part of an evaluator of the program's calls, proved sound: what it yields, the program does in every world. No condition beyond those that each theorem names. -/
import Derived.Test.YtoclidojcihnfaaGreatGvA
set_option linter.unusedVariables false
set_option linter.unusedSimpArgs false
namespace Go.Gv
open Go.RowKit

structure Ctx where
  P : Program
  w0 : World
  M : List Nat
  n : Nat
  r : Option Nat
def fen (r : Option Nat) : Fence := { fn := fun _ => True, depth := none, alive := false, round := r }
abbrev SPost := Exit → Env → List HP → Prop
def lift (C : Ctx) (Q : SPost) : Exit → Act → World → Prop := fun x a w => ∃ e L, a = mk C.n e ∧ St C.w0 C.M L w ∧ Q x e L
def WC (C : Ctx) (c : Code) (Q : SPost) (e : Env) (L : List HP) : Prop := ∀ w, St C.w0 C.M L w → c.wpIn (fen C.r) 0 C.P (lift C Q) (mk C.n e) w
def WL (C : Ctx) (ops : Array Oper) (Q : SPost) (l : List Oper) (e : Env) (L : List HP) : Prop :=
  ∀ w, St C.w0 C.M L w → wpListIn (fen C.r) 0 C.P ops (lift C Q) l (mk C.n e) w
def thenS (K : Env → List HP → Prop) (Q : SPost) : SPost
  | .normal, e, L => K e L
  | x, e, L => Q x e L
def inBlockS (id : Nat) (Q : SPost) : SPost
  | .exit id', e, L => bif Nat.beq id' id then Q .normal e L else Q (.exit id') e L
  | x, e, L => Q x e L
section
variable {C : Ctx} {Q : SPost} {e : Env} {L : List HP}

theorem lift_then {K : Env → List HP → Prop} : ∀ x a w, lift C (thenS K Q) x a w → Exit.then (fun a w => ∃ e L, a = mk C.n e ∧ St C.w0 C.M L w ∧ K e L) (lift C Q) x a w := by
  intro x a w h
  cases x <;> exact h
theorem WC.seq {x y : Code} (h : ∀ K : Env → List HP → Prop, (∀ e L, WC C y Q e L → K e L) → WC C x (thenS K Q) e L) : WC C (.seq x y) Q e L := by
  intro w hw
  refine wpIn_seq (Code.wpIn_mono ?_ (h (WC C y Q) (fun _ _ h => h) w hw))
  intro x a w h'
  have := lift_then _ _ _ h'
  cases x with
  | normal => obtain ⟨e, L, rfl, hs, hk⟩ := h'; exact hk w hs
  | _ => exact this
theorem WC.region {id : Nat} {l : List Oper} (h : WL C l.toArray Q l e L) : WC C (.region id l.toArray false) Q e L := fun w hw => wpIn_region_lit (h w hw)
theorem WL.nil {ops : Array Oper} (h : Q .normal e L) : WL C ops Q [] e L := fun w hw => wpListIn_nil ⟨e, L, rfl, hw, h⟩
theorem WC.skip (h : Q .normal e L) : WC C .skip Q e L := fun w hw => wpIn_skip ⟨e, L, rfl, hw, h⟩
theorem WC.ret (h : Q .ret e L) : WC C .ret Q e L := fun w hw => wpIn_ret ⟨e, L, rfl, hw, h⟩
theorem WC.exit {id : Nat} (h : Q (.exit id) e L) : WC C (.exit id) Q e L := fun w hw => wpIn_exit ⟨e, L, rfl, hw, h⟩
theorem WC.block {id : Nat} {c : Code} (h : WC C c (inBlockS id Q) e L) : WC C (.block id c) Q e L := by
  intro w hw
  refine wpIn_block (Code.wpIn_mono ?_ (h w hw))
  intro x a w h'
  obtain ⟨e, L, rfl, hs, hq⟩ := h'
  cases x with
  | exit id' =>
    simp only [inBlockS] at hq
    simp only [Exit.inBlock]
    by_cases hi : id' = id
    · subst hi; simp only [if_true]; refine ⟨e, L, rfl, hs, ?_⟩; simpa using hq
    · rw [if_neg hi]; refine ⟨e, L, rfl, hs, ?_⟩
      rw [show Nat.beq id' id = false from by rw [Bool.eq_false_iff]; simp; exact hi] at hq; exact hq
  | _ => exact ⟨e, L, rfl, hs, hq⟩
theorem WC.cond_true {c : Operand} {x y : Code} (hc : ev C.n e c = .bool true) (h : WC C x Q e L) : WC C (.cond c x y) Q e L :=
  fun w hw => wpIn_cond_true (by rw [mk_eval]; exact hc) (h w hw)
theorem WC.cond_false {c : Operand} {x y : Code} (hc : ev C.n e c = .bool false) (h : WC C y Q e L) : WC C (.cond c x y) Q e L :=
  fun w hw => wpIn_cond_false (by rw [mk_eval]; exact hc) (h w hw)
theorem WC.cond {c : Operand} {x y : Code} {t : Bool} (hc : ev C.n e c = .bool t) (ht : t = true → WC C x Q e L) (hf : t = false → WC C y Q e L) : WC C (.cond c x y) Q e L :=
  fun w hw => wpIn_cond_split (by rw [mk_eval]; exact hc) (fun h => ht h w hw) (fun h => hf h w hw)

def over (e g : Env) (ms : List Nat) : Env := ⟨fun t => bif ms.elem t then g.f t else e.f t, e.ds⟩
def Same (ms : List Nat) (e' e : Env) : Prop := e'.ds = e.ds ∧ ∀ t, ms.elem t = false → e'.f t = e.f t
def setAll (e : Env) : List (Nat × Value) → Env
  | [] => e
  | p :: ps => upd (setAll e ps) p.1 p.2
/-- Away from some slots two frames are the same. -/
theorem Agree.upd {ms : List Nat} {e e0 : Env} {d : Nat} {v : Value} (hd : ms.elem d = true) (h : Same ms e e0) : Same ms (upd e d v) e0 := by
  refine ⟨h.1, fun t ht => ?_⟩
  rw [upd_other _ _ _ _ (by rintro rfl; rw [hd] at ht; cases ht)]
  exact h.2 t ht
theorem Agree.over {e0 g : Env} {ms : List Nat} : Same ms (over e0 g ms) e0 := by
  refine ⟨rfl, fun t ht => ?_⟩
  simp only [Go.Gv.over, ht, cond_false]
theorem setAll_ds (e : Env) (ps : List (Nat × Value)) : (setAll e ps).ds = e.ds := by
  induction ps with
  | nil => rfl
  | cons p ps ih => exact ih
theorem wpIn_loop_ghost {F : Fence} {n : Nat} {P : Program} {Q : Exit → Act → World → Prop} {a : Act} {w : World} {c : Code} (I : Nat → Act → World → Prop) (n₀ : Nat) (h₀ : I n₀ a w)
    (round : ∀ m a w, I m a w → c.wpIn F n P (Exit.then (fun a' w' => ∃ n', n' < m ∧ I n' a' w') Q) a w) : (Code.loop c).wpIn F n P Q a w := by
  refine wpIn_loop (fun a w => ∃ n, I n a w) (fun a w => leastOf (fun n => I n a w)) ⟨n₀, h₀⟩ ?_
  intro a w hI
  refine wpIn_mono (round _ a w (leastOf_spec hI).1) ?_
  intro e a' w' hq
  cases e with
  | normal =>
    obtain ⟨n', hlt, hI'⟩ := hq
    exact show (∃ n, I n a' w') ∧ leastOf (fun n => I n a' w') < leastOf (fun n => I n a w) from ⟨⟨n', hI'⟩, Nat.lt_of_le_of_lt ((leastOf_spec ⟨n', hI'⟩).2 n' hI') hlt⟩
  | _ => exact hq
theorem setAll_mem {e : Env} {ps : List (Nat × Value)} {e' : Env} (hd : e.ds = e'.ds) (h : ∀ p ∈ ps, e' p.1 = p.2) (ho : ∀ t, (∀ p ∈ ps, p.1 ≠ t) → e t = e' t) : setAll e ps = e' := by
  have hds := (setAll_ds e ps).trans hd
  clear hd
  have key : ∀ t, setAll e ps t = e' t := by
    clear hds
    induction ps generalizing e with
    | nil => intro t; exact ho t (by simp)
    | cons p ps ih =>
      intro t
      simp only [setAll]
      by_cases hp : t = p.1
      · subst hp; rw [upd_same]; exact (h p (by simp)).symm
      · rw [upd_other _ _ _ _ hp]
        have h1 : ∀ p ∈ ps, e' p.1 = p.2 := fun q hq => h q (List.mem_cons_of_mem _ hq)
        -- away from p
        have : ∀ (l : List (Nat × Value)) (x : Env), (∀ q ∈ l, e' q.1 = q.2) → ((∀ q ∈ l, q.1 ≠ t) → x t = e' t) → setAll x l t = e' t := by
          intro l
          induction l with
          | nil => intro x _ hx; exact hx (by simp)
          | cons q l ih2 =>
            intro x hq hx
            simp only [setAll]
            by_cases hqt : t = q.1
            · subst hqt; rw [upd_same]; exact (hq q (by simp)).symm
            · rw [upd_other _ _ _ _ hqt]
              refine ih2 x (fun r hr => hq r (List.mem_cons_of_mem _ hr)) (fun hr => hx fun r hr' => ?_)
              rcases List.mem_cons.1 hr' with rfl | hr'
              · exact fun e => hqt e.symm
              · exact hr r hr'
        refine this ps e h1 fun hne => ho t fun q hq => ?_
        rcases List.mem_cons.1 hq with rfl | hq
        · exact fun e => hp e.symm
        · exact hne q hq
  exact Env.ext (funext key) hds
theorem WC.loop {σ : Type} {c : Code} (ms : List Nat) (slots : σ → List (Nat × Value)) (heap : σ → List HP) (ok : σ → Prop) (μ : σ → Nat) (s0 : σ)
    (h0 : ok s0) (hL : ∃ r0, Outs L (heap s0) r0) (hs : ∀ p ∈ slots s0, e p.1 = p.2)
    (round : ∀ (g : Env) (s : σ), ok s → WC C c (thenS (fun e' L' => ∃ s', ok s' ∧ μ s' < μ s ∧ (∃ r, Outs L' (heap s') r) ∧ (∀ p ∈ slots s', e' p.1 = p.2) ∧ Same ms e' e) Q) (setAll (over e g ms) (slots s)) (heap s)) :
    WC C (.loop c) Q e L := by
  intro w hw
  obtain ⟨r0, hL⟩ := hL
  refine wpIn_loop_ghost (fun k a w => ∃ s e', ok s ∧ μ s = k ∧ a = mk C.n e' ∧ St C.w0 C.M (heap s) w ∧ (∀ p ∈ slots s, e' p.1 = p.2) ∧ Same ms e' e) (μ s0)
    ⟨s0, e, h0, rfl, rfl, ((hw.perm hL.perm).perm List.perm_append_comm).drop, hs, rfl, fun _ _ => rfl⟩ ?_
  rintro k a w ⟨s, e', hok, rfl, rfl, hst, hsl, hds, hoth⟩
  have he : setAll (over e e' ms) (slots s) = e' := setAll_mem hds.symm hsl fun t _ => by
    simp only [over]
    cases h : ms.elem t with
    | true => rfl
    | false => exact (hoth t h).symm
  have := round e' s hok w hst
  rw [he] at this
  refine Code.wpIn_mono ?_ this
  intro x a w h'
  have h2 := lift_then _ _ _ h'
  cases x with
  | normal =>
    obtain ⟨e2, L2, rfl, hs2, s', hok', hlt, ⟨r, hr⟩, hsl', hoth'⟩ := h'
    exact ⟨μ s', hlt, s', e2, hok', rfl, rfl, ((hs2.perm hr.perm).perm List.perm_append_comm).drop, hsl', hoth'⟩
  | _ => exact h2
end
end Go.Gv
