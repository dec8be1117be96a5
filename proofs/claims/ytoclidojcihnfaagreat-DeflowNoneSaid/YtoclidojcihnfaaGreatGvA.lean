/- Part of an evaluator of the program's calls, proved sound: what it yields, the program does in every world. No condition beyond those that each theorem names. -/
import Derived.WalkKit
import Derived.KernelRfl
import Derived.OwnWalk
import Derived.StillTailTactics
import Derived.Maps.AppendAt
import Derived.Deep.AppendLies
import Derived.Laws.OwnMore
import Derived.Laws.MakeOwn
import Derived.Laws.CopyOwn
import Derived.Laws.Rows
import Derived.Deep.LoopGhost
import Derived.TacticsIn
import Derived.OrdersIn
import Derived.RangeFuncLeaves
import Derived.RangeFuncCalls
import Derived.RangeFuncNested
set_option linter.unusedVariables false
set_option linter.unusedSimpArgs false
namespace Go.Gv
open Go.RowKit

/-! ### The frame: slots as a function -/
structure Env where
  f : Nat → Value
  ds : List Deferred := []
instance : CoeFun Env (fun _ => Nat → Value) := ⟨Env.f⟩
theorem Env.ext {a b : Env} (h : a.f = b.f) (k : a.ds = b.ds) : a = b := by cases a; cases b; cases h; cases k; rfl
def upd (e : Env) (d : Nat) (v : Value) : Env := ⟨fun t => bif Nat.beq t d then v else e.f t, e.ds⟩
def updo (e : Env) : Option Nat → Value → Env
  | none, _ => e
  | some d, v => upd e d v
def ev (n : Nat) (e : Env) : Operand → Value
  | .tmp t => bif Nat.blt t n then e t else undef
  | .const v => v
  | .global g => .pointer (some ⟨g, 0, none⟩)
  | .func f => .func (.func f) #[] #[]
def mk (n : Nat) (e : Env) : Act := { tmps := Array.ofFn (n := n) fun i => e.f i.val, defers := e.ds }
def argEnv (l : List Value) : Env := ⟨fun t => l.getD t undef, []⟩

theorem mk_get (n : Nat) (e : Env) (t : Nat) : (mk n e).tmps.getD t undef = bif Nat.blt t n then e t else undef := by
  simp only [mk]
  by_cases h : t < n
  · have : Nat.blt t n = true := by simpa [Nat.blt_eq] using h
    simp [this, h]
  · have : Nat.blt t n = false := by
      rw [Bool.eq_false_iff]; simpa [Nat.blt_eq] using h
    simp [this, h]
theorem mk_eval (n : Nat) (e : Env) : (mk n e).eval = ev n e := by
  funext x
  cases x with
  | tmp t => exact mk_get n e t
  | _ => rfl
theorem mk_put (n : Nat) (e : Env) (d : Option Nat) (v : Value) : (mk n e).put d v = mk n (updo e d v) := by
  cases d with
  | none => rfl
  | some d =>
    simp only [Act.put, mk, updo, Act.mk.injEq]
    refine ⟨?_, rfl⟩
    apply Array.ext
    · simp
    · intro i h1 h2
      simp only [Array.getElem_setIfInBounds, Array.getElem_ofFn, upd]
      by_cases h : d = i
      · subst h; simp
      · have : Nat.beq i d = false := by rw [Bool.eq_false_iff]; simp; omega
        rw [this]
        simp only [cond_false]
        rw [Array.getElem_setIfInBounds_ne (by simpa using h1) (by omega)]
        simp
theorem mk_defers (n : Nat) (e : Env) : (mk n e).defers = e.ds := rfl
theorem upd_same (e : Env) (d : Nat) (v : Value) : upd e d v d = v := by simp [upd]
theorem upd_other (e : Env) (d t : Nat) (v : Value) (h : t ≠ d) : upd e d v t = e t := by
  simp only [upd]; rw [show Nat.beq t d = false from by rw [Bool.eq_false_iff]; simp; exact h]; rfl
theorem mk_args (n : Nat) (l : List Value) (h : l.length ≤ n) :
    ({ tmps := l.toArray ++ Array.replicate (n - l.toArray.size) undef, defers := [] } : Act) = mk n (argEnv l) := by
  simp only [mk, Act.mk.injEq]
  refine ⟨?_, rfl⟩
  apply Array.ext
  · simp; omega
  · intro i h1 h2
    simp only [Array.getElem_ofFn, argEnv, Array.getElem_append, List.size_toArray, List.getElem_toArray, Array.getElem_replicate]
    split
    · rename_i hi; simp [List.getD_eq_getElem?_getD, hi]
    · rename_i hi; simp [List.getD_eq_getElem?_getD, List.getElem?_eq_none (Nat.le_of_not_lt hi)]

/-! ### The heap: what is known of blocks -/
inductive HP where
  | blk (b : Nat) (o : Obj)
  | sl (A : Option Addr) (n c : Nat) (T sz : Nat) (cs : List Value)
def HP.dom : HP → List Nat
  | .blk b _ => [b]
  | .sl none _ _ _ _ _ => []
  | .sl (some a) _ _ _ _ _ => [a.block]
def HP.sat (w : World) : HP → Prop
  | .blk b o => w.heap[b]? = some o
  | .sl A n c T sz cs => w.ownsRow 0 T sz (.slice A n c) n cs
def doms (L : List HP) : List Nat := L.flatMap HP.dom
structure Sat (L : List HP) (w : World) : Prop where
  all : ∀ p ∈ L, p.sat w
  nodup : (doms L).Nodup
structure Fr (M : List Nat) (w w' : World) : Prop where
  os : w'.os = w.os
  tape : w'.tape = w.tape
  output : w'.output = w.output
  size : w.heap.size ≤ w'.heap.size
  block : ∀ k, k < w.heap.size → k ∉ M → w'.heap[k]? = w.heap[k]?
structure St (w0 : World) (M : List Nat) (L : List HP) (w : World) : Prop where
  sat : Sat L w
  fr : Fr M w0 w
  own : ∀ b ∈ doms L, b ∈ M ∨ w0.heap.size ≤ b

theorem Sat.nil (w : World) : Sat [] w := ⟨fun p h => by simp at h, by simp [doms]⟩
theorem Fr.refl (M : List Nat) (w : World) : Fr M w w := ⟨rfl, rfl, rfl, Nat.le_refl _, fun _ _ _ => rfl⟩
theorem Fr.trans {M : List Nat} {a b c : World} (h : Fr M a b) (k : Fr M b c) : Fr M a c :=
  ⟨k.os.trans h.os, k.tape.trans h.tape, k.output.trans h.output, Nat.le_trans h.size k.size,
    fun i hi hm => (k.block i (Nat.lt_of_lt_of_le hi h.size) hm).trans (h.block i hi hm)⟩
theorem Fr.below {w w' : World} (h : Fr [] w w') : Below w.heap.size w w' := ⟨h.os, h.tape, h.output, h.size, fun k hk => h.block k hk (by simp)⟩
theorem St.init (L : List HP) (w : World) (h : Sat L w) : St w (doms L) L w := ⟨h, Fr.refl _ _, fun b hb => .inl hb⟩

theorem HP.dom_lt {p : HP} {w : World} (h : p.sat w) : ∀ b ∈ p.dom, b < w.heap.size := by
  intro b hb
  cases p with
  | blk b' o =>
    simp [HP.dom] at hb; subst hb
    exact (Array.getElem?_eq_some_iff.1 h).1
  | sl A n c T sz cs =>
    cases A with
    | none => simp [HP.dom] at hb
    | some a =>
      simp [HP.dom] at hb; subst hb
      exact (World.ownsRow.lt h _ rfl).2
theorem Sat.lt {L : List HP} {w : World} (h : Sat L w) : ∀ b ∈ doms L, b < w.heap.size := by
  intro b hb
  obtain ⟨p, hp, hbp⟩ := List.mem_flatMap.1 hb
  exact HP.dom_lt (h.all p hp) b hbp
/-- What is known lives on where its blocks are as they were. -/
theorem HP.keep {p : HP} {w w' : World} (h : p.sat w) (hk : ∀ b ∈ p.dom, w'.heap[b]? = w.heap[b]?) : p.sat w' := by
  cases p with
  | blk b o => exact (hk b (by simp [HP.dom])).trans h
  | sl A n c T sz cs =>
    refine ⟨h.1, ?_⟩
    rcases h.2 with hn | ⟨g, cap, cur, hv, hb, hg, rest⟩
    · exact .inl hn
    · refine .inr ⟨g, cap, cur, hv, hb, ?_, rest⟩
      injection hv with hv1 _ _
      subst hv1
      exact (hk g (by simp [HP.dom])).trans hg
theorem Sat.keep {L : List HP} {w w' : World} (h : Sat L w) (hk : ∀ b ∈ doms L, w'.heap[b]? = w.heap[b]?) : Sat L w' :=
  ⟨fun p hp => HP.keep (h.all p hp) fun b hb => hk b (List.mem_flatMap.2 ⟨p, hp, hb⟩), h.nodup⟩
theorem Sat.perm {L L' : List HP} {w : World} (h : Sat L w) (hp : L.Perm L') : Sat L' w :=
  ⟨fun p hp' => h.all p (hp.mem_iff.2 hp'), (hp.flatMap_right _).nodup_iff.1 h.nodup⟩
theorem doms_append (A B : List HP) : doms (A ++ B) = doms A ++ doms B := by simp [doms]
theorem doms_cons (p : HP) (B : List HP) : doms (p :: B) = p.dom ++ doms B := by simp [doms]
theorem Sat.app {A B : List HP} {w : World} (h : Sat (A ++ B) w) : Sat A w ∧ Sat B w ∧ ∀ b ∈ doms A, b ∉ doms B := by
  have hn := h.nodup
  rw [doms_append, List.nodup_append] at hn
  exact ⟨⟨fun p hp => h.all p (List.mem_append.2 (.inl hp)), hn.1⟩, ⟨fun p hp => h.all p (List.mem_append.2 (.inr hp)), hn.2.1⟩, fun b hb hb' => hn.2.2 b hb b hb' rfl⟩
theorem Sat.mk_app {A B : List HP} {w : World} (ha : Sat A w) (hb : Sat B w) (hd : ∀ b ∈ doms A, b ∉ doms B) : Sat (A ++ B) w := by
  refine ⟨fun p hp => (List.mem_append.1 hp).elim (ha.all p) (hb.all p), ?_⟩
  rw [doms_append, List.nodup_append]
  exact ⟨ha.nodup, hb.nodup, fun b hb x hx e => hd b hb (e ▸ hx)⟩
theorem St.perm {w0 : World} {M : List Nat} {L L' : List HP} {w : World} (h : St w0 M L w) (hp : L.Perm L') : St w0 M L' w :=
  ⟨h.sat.perm hp, h.fr, fun b hb => h.own b ((hp.flatMap_right _).mem_iff.2 hb)⟩
theorem St.drop {w0 : World} {M : List Nat} {A L : List HP} {w : World} (h : St w0 M (A ++ L) w) : St w0 M L w :=
  ⟨h.sat.app.2.1, h.fr, fun b hb => h.own b (by rw [doms_append]; exact List.mem_append.2 (.inr hb))⟩
theorem St.step {w0 : World} {M : List Nat} {A B L : List HP} {w w' : World} (h : St w0 M (A ++ L) w) (k : St w (doms A) B w') : St w0 M (B ++ L) w' := by
  obtain ⟨h1, h2, h3⟩ := h.sat.app
  have hlt := h2.lt
  refine ⟨Sat.mk_app k.sat (h2.keep fun b hb => k.fr.block b (hlt b hb) fun hm => h3 b hm hb) (fun b hb hb' => ?_), ?_, fun b hb => ?_⟩
  · rcases k.own b hb with hm | hm
    · exact h3 b hm hb'
    · have := hlt b hb'; omega
  · refine ⟨k.fr.os.trans h.fr.os, k.fr.tape.trans h.fr.tape, k.fr.output.trans h.fr.output, Nat.le_trans h.fr.size k.fr.size, fun i hi hm => ?_⟩
    refine (k.fr.block i (Nat.lt_of_lt_of_le hi h.fr.size) fun hi' => ?_).trans (h.fr.block i hi hm)
    rcases h.own i (by rw [doms_append]; exact List.mem_append.2 (.inl hi')) with h' | h'
    · exact hm h'
    · omega
  · rw [doms_append] at hb
    rcases List.mem_append.1 hb with hb | hb
    · rcases k.own b hb with hm | hm
      · exact h.own b (by rw [doms_append]; exact List.mem_append.2 (.inl hm))
      · exact .inr (Nat.le_trans h.fr.size hm)
    · exact h.own b (by rw [doms_append]; exact List.mem_append.2 (.inr hb))
theorem St.drawn {w0 : World} {M : List Nat} {L : List HP} {w : World} (h : St w0 M L w) (k : Nat) : St w0 M L { w with drawn := k } :=
  ⟨⟨fun p hp => HP.keep (w := w) (h.sat.all p hp) fun _ _ => rfl, h.sat.nodup⟩, ⟨h.fr.os, h.fr.tape, h.fr.output, h.fr.size, h.fr.block⟩, h.own⟩
/-- One entry among those that are known: what stands there is replaced. -/
inductive Rep : List HP → HP → HP → List HP → Prop where
  | head {x y : HP} {l : List HP} : Rep (x :: l) x y (y :: l)
  | tail {x y z : HP} {l l' : List HP} (h : Rep l x y l') : Rep (z :: l) x y (z :: l')
theorem Rep.perm {l l' : List HP} {x y : HP} (h : Rep l x y l') : ∃ r, l.Perm (x :: r) ∧ l'.Perm (y :: r) := by
  induction h with
  | head => exact ⟨_, .refl _, .refl _⟩
  | tail h ih => obtain ⟨r, h1, h2⟩ := ih; exact ⟨_ :: r, (h1.cons _).trans (.swap _ _ _), (h2.cons _).trans (.swap _ _ _)⟩
inductive Out : List HP → HP → List HP → Prop where
  | head {x : HP} {l : List HP} : Out (x :: l) x l
  | tail {x z : HP} {l l' : List HP} (h : Out l x l') : Out (z :: l) x (z :: l')
theorem Out.perm {l l' : List HP} {x : HP} (h : Out l x l') : l.Perm (x :: l') := by
  induction h with
  | head => exact .refl _
  | tail h ih => exact (ih.cons _).trans (.swap _ _ _)
inductive Outs : List HP → List HP → List HP → Prop where
  | nil {l : List HP} : Outs l [] l
  | cons {l l1 l2 xs : List HP} {x : HP} (h : Out l x l1) (k : Outs l1 xs l2) : Outs l (x :: xs) l2
theorem Outs.perm {l r xs : List HP} (h : Outs l xs r) : l.Perm (xs ++ r) := by
  induction h with
  | nil => exact .refl _
  | cons h k ih => exact h.perm.trans (ih.cons _)
end Go.Gv
