/- Part of an evaluator of the program's calls, proved sound: what it yields, the program does in every world. No condition beyond those that each theorem names. -/
import Derived.Test.YtoclidojcihnfaaGreatGxQ
set_option linter.unusedVariables false
set_option linter.unusedSimpArgs false
namespace Go.Gx
open Go.RowKit Go.Gv

/-! ### A call that leaves some of what is known as it is -/
theorem doms_perm {L L' : List HP} (h : L.Perm L') : ∀ b, b ∈ doms L ↔ b ∈ doms L' := fun b => (h.flatMap_right _).mem_iff
theorem Fr.sub {M M' : List Nat} {w w' : World} (h : Fr M w w') (hs : ∀ b, b ∈ M ↔ b ∈ M') : Fr M' w w' := ⟨h.os, h.tape, h.output, h.size, fun k hk hm => h.block k hk fun hm' => hm ((hs k).1 hm')⟩
theorem Tri.permL {P : Program} {f : FuncId} {args : Array Value} {w : World} {L L' : List HP} {R : Ending → List HP → Prop} (h : Tri P f args w L R) (hp : L.Perm L') : Tri P f args w L' R :=
  Calls.mono h fun e w' ⟨L2, hR, hst⟩ => ⟨L2, hR, hst.sat, Fr.sub hst.fr (doms_perm hp), fun b hb => (hst.own b hb).imp (doms_perm hp b).1 id⟩
theorem Tri.restrict {P : Program} {f : FuncId} {args : Array Value} {w : World} {L0 Lr : List HP} {R : Ending → List HP → Prop} (h : Tri P f args w (L0 ++ Lr) R) (hs : Sat (L0 ++ Lr) w) (hb : ∀ p ∈ Lr, ∃ b o, p = .blk b o)
    (hR : ∀ en L', R en L' → ∃ L2, L'.Perm (L2 ++ Lr)) : Tri P f args w L0 (fun en L2 => ∃ L', R en L' ∧ L'.Perm (L2 ++ Lr)) := by
  refine Calls.mono h fun e w' hh => ?_
  obtain ⟨L', h1, hst⟩ := hh
  obtain ⟨L2, hp⟩ := hR e L' h1
  have hst2 := hst.perm hp
  obtain ⟨s1, s2, s3⟩ := hst2.sat.app
  refine ⟨L2, ⟨L', h1, hp⟩, s1, ⟨hst2.fr.os, hst2.fr.tape, hst2.fr.output, hst2.fr.size, fun k hk hm => ?_⟩, fun b hbm => ?_⟩
  · by_cases hr : k ∈ doms Lr
    · obtain ⟨p, hp1, hp2⟩ := List.mem_flatMap.1 hr
      obtain ⟨b, o, rfl⟩ := hb p hp1
      simp [HP.dom] at hp2
      subst hp2
      have a1 : w'.heap[k]? = some o := s2.all _ hp1
      have a2 : w.heap[k]? = some o := hs.all _ (List.mem_append.2 (.inr hp1))
      rw [a1, a2]
    · exact hst2.fr.block k hk fun h => by
        rw [doms_append] at h
        rcases List.mem_append.1 h with h | h
        · exact hm h
        · exact hr h
  · have hnr := s3 b hbm
    rcases hst2.own b (by rw [doms_append]; exact List.mem_append.2 (.inl hbm)) with h | h
    · rw [doms_append] at h
      rcases List.mem_append.1 h with h | h
      · exact .inl h
      · exact absurd h hnr
    · exact .inr h
theorem St.restrict {w w' : World} {L0 Lr L' L2 : List HP} (hst : St w (doms (L0 ++ Lr)) L' w') (hs : Sat (L0 ++ Lr) w) (hb : ∀ p ∈ Lr, ∃ b o, p = .blk b o) (hp : L'.Perm (L2 ++ Lr)) : St w (doms L0) L2 w' := by
  have hst2 := hst.perm hp
  obtain ⟨s1, s2, s3⟩ := hst2.sat.app
  refine ⟨s1, ⟨hst2.fr.os, hst2.fr.tape, hst2.fr.output, hst2.fr.size, fun k hk hm => ?_⟩, fun b hbm => ?_⟩
  · by_cases hr : k ∈ doms Lr
    · obtain ⟨p, hp1, hp2⟩ := List.mem_flatMap.1 hr
      obtain ⟨b, o, rfl⟩ := hb p hp1
      simp [HP.dom] at hp2
      subst hp2
      have a1 : w'.heap[k]? = some o := s2.all _ hp1
      have a2 : w.heap[k]? = some o := hs.all _ (List.mem_append.2 (.inr hp1))
      rw [a1, a2]
    · exact hst2.fr.block k hk fun h => by
        rw [doms_append] at h
        rcases List.mem_append.1 h with h | h
        · exact hm h
        · exact hr h
  · have hnr := s3 b hbm
    rcases hst2.own b (by rw [doms_append]; exact List.mem_append.2 (.inl hbm)) with h | h
    · rw [doms_append] at h
      rcases List.mem_append.1 h with h | h
      · exact .inl h
      · exact absurd h hnr
    · exact .inr h
/-- Those of what is known whose numbers p names. -/
def Lsel (p : Nat → Bool) (n : Nat) (rh : RH) : List HP := (List.range n).filterMap fun k => bif p k then rh k else none
theorem filterMap_split {α β : Type} (p : α → Bool) (f : α → Option β) : ∀ l : List α, (l.filterMap f).Perm (l.filterMap (fun x => bif p x then f x else none) ++ l.filterMap (fun x => bif p x then none else f x))
  | [] => .refl _
  | x :: l => by
    have ih := filterMap_split p f l
    cases hp : p x with
    | true =>
      cases hf : f x with
      | none => simpa [List.filterMap_cons, hp, hf] using ih
      | some y => simpa [List.filterMap_cons, hp, hf] using ih
    | false =>
      cases hf : f x with
      | none => simpa [List.filterMap_cons, hp, hf] using ih
      | some y => simpa [List.filterMap_cons, hp, hf] using (ih.cons y).trans List.perm_middle.symm
theorem Lof_split2 (p : Nat → Bool) (n : Nat) (rh : RH) : (Lof n rh).Perm (Lsel p n rh ++ Lsel (fun k => !p k) n rh) := by
  have := filterMap_split p rh (List.range n)
  refine this.trans (List.Perm.append_left _ (List.Perm.of_eq ?_))
  unfold Lsel
  refine filterMap_congr fun x _ => ?_
  show (bif p x then none else rh x) = bif !p x then rh x else none
  cases p x <;> rfl
theorem Lsel_mem {p : Nat → Bool} {n k : Nat} {rh : RH} {q : HP} (hk : k < n) (hp : p k = true) (hq : rh k = some q) : q ∈ Lsel p n rh :=
  List.mem_filterMap.2 ⟨k, List.mem_range.2 hk, by rw [hp]; exact hq⟩
theorem Lsel_blk {σ : Sg} {h : H} {rh : RH} (hr : HR σ h rh) {p : Nat → Bool} : ∀ q ∈ Lsel p h.n rh, ∃ b o, q = .blk b o := by
  intro q hq
  obtain ⟨k, hk, hkq⟩ := List.mem_filterMap.1 hq
  have hk := List.mem_range.1 hk
  cases hp : p k with
  | false => rw [hp] at hkq; cases hkq
  | true =>
    rw [hp] at hkq
    simp only [cond_true] at hkq
    by_cases hx : h.get k = .x
    · rw [hr.dead k hk hx] at hkq; cases hkq
    · obtain ⟨b, o, h1, _⟩ := hr.live k hk hx
      rw [h1] at hkq; cases hkq
      exact ⟨b, o, rfl⟩
/-- Behind a step: what it did not write, and all else. -/
theorem Stp.split {σ τ : Sg} {h g : H} {rh sh : RH} (hs : Stp σ τ h g rh sh) (q : Nat → Bool) (hq : ∀ k, k < h.n → q k = false → g.ver k ≤ h.c) :
    (Lof g.n sh).Perm (Lsel (fun k => q k || Nat.ble h.n k) g.n sh ++ Lsel (fun k => !q k) h.n rh) := by
  refine (Lof_split2 (fun k => q k || Nat.ble h.n k) g.n sh).trans (List.Perm.append_left _ (List.Perm.of_eq ?_))
  have hn := hs.n
  obtain ⟨m, hm⟩ : ∃ m, g.n = h.n + m := ⟨g.n - h.n, by omega⟩
  unfold Lsel
  rw [hm, List.range_add, List.filterMap_append]
  have h2 : ((List.range m).map (h.n + ·)).filterMap (fun k => bif !(q k || Nat.ble h.n k) then sh k else none) = [] := by
    rw [List.filterMap_eq_nil_iff]
    intro k hk
    obtain ⟨j, _, rfl⟩ := List.mem_map.1 hk
    rw [show Nat.ble h.n (h.n + j) = true from Nat.ble_eq_true_of_le (by omega)]
    simp
  rw [h2, List.append_nil]
  refine filterMap_congr fun k hk => ?_
  have hk := List.mem_range.1 hk
  have : Nat.ble h.n k = false := by rw [Bool.eq_false_iff]; intro h'; have := Nat.le_of_ble_eq_true h'; omega
  show (bif !(q k || Nat.ble h.n k) then sh k else none) = bif !q k then rh k else none
  rw [this, Bool.or_false]
  cases hb : q k with
  | true => rfl
  | false => simp only [Bool.not_false, cond_true]; exact (hs.keep k hk (hq k hk hb)).1
end Go.Gx
