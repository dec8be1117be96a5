/- Part of an evaluator of the program's calls, proved sound: what it yields, the program does in every world. No condition beyond those that each theorem names. -/
import Derived.Test.YtoclidojcihnfaaGreatGvD
import Derived.Lib.ConvBytes
import Derived.Laws.BytesArg
set_option linter.unusedVariables false
set_option linter.unusedSimpArgs false
namespace Go.Gv
open Go.RowKit

inductive In : List HP → HP → Prop where
  | head {x : HP} {l : List HP} : In (x :: l) x
  | tail {x z : HP} {l : List HP} (h : In l x) : In (z :: l) x
theorem In.mem {l : List HP} {x : HP} (h : In l x) : x ∈ l := by
  induction h with
  | head => simp
  | tail h ih => exact List.mem_cons_of_mem _ ih
theorem Rep.perm2 {l l' : List HP} {x y : HP} (h : Rep l x y l') : ∃ r, l.Perm (x :: r) ∧ (y :: r).Perm l' := by
  obtain ⟨r, h1, h2⟩ := h.perm
  exact ⟨r, h1, h2.symm⟩
theorem HP.nodup1 (p : HP) : p.dom.Nodup := by
  cases p with
  | blk b o => simp [HP.dom]
  | sl A n c T sz cs => cases A <;> simp [HP.dom]
section
variable {w0 w w' : World} {M : List Nat} {L : List HP} {p q : HP}
theorem St.first {x : HP} {r : List HP} (h : St w0 M L w) (hp : L.Perm (x :: r)) : x.sat w := h.sat.all x (hp.mem_iff.2 (by simp))
theorem St.step1 (h : St w0 M (p :: L) w) (hq : q.sat w') (hf : Fr p.dom w w') (hd : ∀ b ∈ q.dom, b ∈ p.dom ∨ w.heap.size ≤ b) : St w0 M (q :: L) w' := by
  have hp : doms [p] = p.dom := by simp [doms]
  have hq' : doms [q] = q.dom := by simp [doms]
  exact St.step (A := [p]) (B := [q]) h ⟨⟨fun x hx => by simp at hx; subst hx; exact hq, by rw [hq']; exact q.nodup1⟩, by rw [hp]; exact hf, fun b hb => by rw [hp]; rw [hq'] at hb; exact hd b hb⟩
theorem St.new (h : St w0 M L w) (hq : q.sat w') (hf : Fr [] w w') (hd : ∀ b ∈ q.dom, w.heap.size ≤ b) : St w0 M (q :: L) w' := by
  have hq' : doms [q] = q.dom := by simp [doms]
  exact St.step (A := []) (B := [q]) (L := L) h ⟨⟨fun x hx => by simp at hx; subst hx; exact hq, by rw [hq']; exact q.nodup1⟩, by simpa [doms] using hf, fun b hb => by rw [hq'] at hb; exact .inr (hd b hb)⟩
theorem St.rep {x y : HP} {L' : List HP} (h : St w0 M L w) (hr : Rep L x y L') (hq : y.sat w') (hf : Fr x.dom w w') (hd : ∀ b ∈ y.dom, b ∈ x.dom ∨ w.heap.size ≤ b) : St w0 M L' w' := by
  obtain ⟨r, h1, h2⟩ := hr.perm2
  exact (St.step1 (h.perm h1) hq hf hd).perm h2
theorem Fr.alloc (w : World) (o : Obj) : Fr [] w (w.alloc o) := ⟨rfl, rfl, rfl, by simp, fun k hk _ => _root_.Go.heap_alloc_old w o hk⟩
theorem St.alloc (h : St w0 M L w) (o : Obj) : St w0 M (.blk w.heap.size o :: L) (w.alloc o) :=
  h.new (q := .blk w.heap.size o) (heap_alloc_new w o) (Fr.alloc w o) (by simp [HP.dom])
theorem Fr.setRow (w : World) (b : Nat) (cs : Array Value) : Fr [b] w (w.setRow b cs) :=
  ⟨rfl, rfl, rfl, by simp, fun k hk hm => setRow_other w b k cs (by simpa using hm)⟩
theorem St.setRow {b T : Nat} {cs cs' : List Value} {L' : List HP} (h : St w0 M L w) (hr : Rep L (.blk b (.cells cs.toArray T (0, 0))) (.blk b (.cells cs'.toArray T (0, 0))) L') : St w0 M L' (w.setRow b cs'.toArray) := by
  obtain ⟨r, h1, _⟩ := hr.perm2
  have hb : w.heap[b]? = some (.cells cs.toArray T (0, 0)) := h.first h1
  exact h.rep hr (setRow_heap w b _ _ T _ hb) (Fr.setRow w b _) (by simp [HP.dom])
theorem St.at_ {b : Nat} {o : Obj} (h : St w0 M L w) (hm : In L (.blk b o)) : w.heap[b]? = some o := h.sat.all _ hm.mem
theorem St.own_ {A : Option Addr} {n c T sz : Nat} {cs : List Value} (h : St w0 M L w) (hm : In L (.sl A n c T sz cs)) : w.ownsRow 0 T sz (.slice A n c) n cs := h.sat.all _ hm.mem
/-- What stands in the cells of a slice's row. -/
def Cells (w : World) (b p : Nat) (cs : List Value) : Prop := ∀ j u, cs[j]? = some u → w.cell? ⟨b, p + j, none⟩ = some u
theorem Cells.blk {b T p m : Nat} {cs : List Value} {fr : Nat × Nat} (h : w.heap[b]? = some (.cells cs.toArray T fr)) : Cells w b p ((cs.drop p).take m) := by
  intro j u hu
  rw [cell_of_row w b (p + j) _ T fr h]
  rw [List.getElem?_take] at hu
  split at hu
  · rw [List.getElem?_drop] at hu; simpa using hu
  · cases hu
theorem Cells.own {b n c T sz p m : Nat} {cs : List Value} (h : w.ownsRow 0 T sz (.slice (some ⟨b, 0, none⟩) n c) n cs) : Cells w b p ((cs.drop p).take m) := by
  intro j u hu
  rw [List.getElem?_take] at hu
  split at hu
  · rw [List.getElem?_drop] at hu
    have := h.cells (g := b) rfl (p + j) u hu
    rwa [add_none, Nat.zero_add] at this
  · cases hu
theorem Cells.load {P : Program} {t b p sz by_ : Nat} {z : Value} {cs : List Value} (ha : aggI P t = some true) (ht : tyI P t = some (z, sz, by_)) (h : Cells w b p cs) (hl : cs.length = sz) : (loadVar t ⟨b, p, none⟩).run P w = .ok (.agg cs.toArray) w := by
  have h1 := run_loadCells_list (P := P) w ⟨b, p, none⟩ cs fun j v hv => by rw [add_none]; exact h j v hv
  subst hl
  simp [loadVar, aggI.run ha, tyI.size ht, h1]
theorem Cells.load1 {P : Program} {t b p : Nat} {v : Value} (ha : aggI P t = some false) (h : w.cell? ⟨b, p, none⟩ = some v) : (loadVar t ⟨b, p, none⟩).run P w = .ok v w := by
  simp [loadVar, aggI.run ha, load, Sem.run, h]
end

/-- The operation has a value, and turns the heap. -/
def Turn (C : Ctx) (L : List HP) (e : Env) (o : Oper) (R : Value → List HP → Prop) : Prop := ∀ w, St C.w0 C.M L w → ∃ v w' L', (execOp (ev C.n e) o).run C.P w = .ok (.value v) w' ∧ R v L' ∧ St C.w0 C.M L' w'
/-- The operation turns the heap, and has no value. -/
def Turn0 (C : Ctx) (L : List HP) (e : Env) (o : Oper) (R : List HP → Prop) : Prop := ∀ w, St C.w0 C.M L w → ∃ w' L', (execOp (ev C.n e) o).run C.P w = .ok .skip w' ∧ R L' ∧ St C.w0 C.M L' w'
section
variable {C : Ctx} {Q : SPost} {e : Env} {L : List HP} {ops : Array Oper} {o : Oper} {l : List Oper} {t u : TypeId} {x y : Operand} {k : IntKind} {a b : Int}
theorem wanted_of {j t : Nat} {want b : Bool} (ho : o.guard = some (j, want)) (hj : (ops[j]?).bind (·.dst) = some t) (hv : ev C.n e (.tmp t) = .bool b) (hb : b = want) : wantedS C.n ops e o = true := by
  simp [wantedS, ho, hj, hv, hb]
theorem wanted_not {j t : Nat} {want b : Bool} (ho : o.guard = some (j, want)) (hj : (ops[j]?).bind (·.dst) = some t) (hv : ev C.n e (.tmp t) = .bool b) (hb : b = !want) : wantedS C.n ops e o = false := by
  simp [wantedS, ho, hj, hv, hb]
theorem WL.split {t : Nat} {b : Bool} (hv : ev C.n e (.tmp t) = .bool b) (ht : b = true → WL C ops Q l e L) (hf : b = false → WL C ops Q l e L) : WL C ops Q l e L := by
  cases b
  · exact hf rfl
  · exact ht rfl
theorem WL.tv {d : Nat} {R : Value → List HP → Prop} (hw : wantedS C.n ops e o = true) (hd : o.dst = some d) (h : Turn C L e o R) (k : ∀ v L', R v L' → WL C ops Q l (upd e d v) L') : WL C ops Q (o :: l) e L :=
  WL.turn hw R h fun v L' hR => by rw [hd]; exact k v L' hR
theorem WL.ts {R : List HP → Prop} (hw : wantedS C.n ops e o = true) (hd : o.dst = none) (h : Turn0 C L e o R) (k : ∀ L', R L' → WL C ops Q l e L') : WL C ops Q (o :: l) e L :=
  WL.turn0 hw R h fun L' hR => by rw [hd]; exact k L' hR
/-! ### Loads -/
theorem Yld.ld {b p T : Nat} {fr : Nat × Nat} {cs : List Value} {v : Value} (ho : o.op = .load t x) (ha : aggI C.P t = some false) (hx : ev C.n e x = .pointer (some ⟨b, p, none⟩)) (hm : In L (.blk b (.cells cs.toArray T fr))) (hc : cs[p]? = some v) : Yld C L e o v := fun w hst => by
  have h1 := Cells.load1 (P := C.P) (t := t) ha (cell_of_row w b p _ T fr (hst.at_ hm) |>.trans (by simpa using hc))
  simp [execOp, ho, hx, Instr.loadAt, Instr.sureAddr, h1]
theorem Yld.ldA {b p T sz by_ : Nat} {z : Value} {fr : Nat × Nat} {cs vs : List Value} (ho : o.op = .load t x) (ha : aggI C.P t = some true) (ht : tyI C.P t = some (z, sz, by_)) (hx : ev C.n e x = .pointer (some ⟨b, p, none⟩)) (hm : In L (.blk b (.cells cs.toArray T fr))) (hc : (cs.drop p).take sz = vs) (hl : vs.length = sz) : Yld C L e o (.agg vs.toArray) := fun w hst => by
  subst hc
  have h1 := Cells.load (P := C.P) (t := t) ha ht (Cells.blk (p := p) (m := sz) (hst.at_ hm)) hl
  simp [execOp, ho, hx, Instr.loadAt, Instr.sureAddr, h1]
theorem Yld.ldS {b p n c T sz : Nat} {cs : List Value} {v : Value} (ho : o.op = .load t x) (ha : aggI C.P t = some false) (hx : ev C.n e x = .pointer (some ⟨b, p, none⟩)) (hm : In L (.sl (some ⟨b, 0, none⟩) n c T sz cs)) (hc : cs[p]? = some v) : Yld C L e o v := fun w hst => by
  have h2 := (hst.own_ hm).cells (g := b) rfl p v hc
  rw [add_none, Nat.zero_add] at h2
  have h1 := Cells.load1 (P := C.P) (t := t) ha h2
  simp [execOp, ho, hx, Instr.loadAt, Instr.sureAddr, h1]
theorem Yld.ldSA {b p n c T s2 sz by_ : Nat} {z : Value} {cs vs : List Value} (ho : o.op = .load t x) (ha : aggI C.P t = some true) (ht : tyI C.P t = some (z, sz, by_)) (hx : ev C.n e x = .pointer (some ⟨b, p, none⟩)) (hm : In L (.sl (some ⟨b, 0, none⟩) n c T s2 cs)) (hc : (cs.drop p).take sz = vs) (hl : vs.length = sz) : Yld C L e o (.agg vs.toArray) := fun w hst => by
  subst hc
  have h1 := Cells.load (P := C.P) (t := t) ha ht (Cells.own (p := p) (m := sz) (hst.own_ hm)) hl
  simp [execOp, ho, hx, Instr.loadAt, Instr.sureAddr, h1]
/-- Out of what was there when the call began, and is none of the blocks that may be turned. -/
theorem Yld.ldR {b p : Nat} {v : Value} (ho : o.op = .load t x) (ha : aggI C.P t = some false) (hx : ev C.n e x = .pointer (some ⟨b, p, none⟩)) (hc : C.w0.cell? ⟨b, p, none⟩ = some v) (hM : b ∉ C.M) : Yld C L e o v := fun w hst => by
  have hlt : b < C.w0.heap.size := World.block_lt_of_cell? C.w0 _ hc
  have h2 : w.cell? ⟨b, p, none⟩ = some v := (World.cell?_of_block (a := ⟨b, p, none⟩) (hst.fr.block b hlt hM)).trans hc
  have h1 := Cells.load1 (P := C.P) (t := t) ha h2
  simp [execOp, ho, hx, Instr.loadAt, Instr.sureAddr, h1]
theorem Yld.ldRA {b p sz by_ : Nat} {z : Value} {vs : List Value} (ho : o.op = .load t x) (ha : aggI C.P t = some true) (ht : tyI C.P t = some (z, sz, by_)) (hx : ev C.n e x = .pointer (some ⟨b, p, none⟩)) (hc : Cells C.w0 b p vs) (hl : vs.length = sz) (hM : b ∉ C.M) : Yld C L e o (.agg vs.toArray) := fun w hst => by
  have h1 := Cells.load (P := C.P) (w := w) (b := b) (p := p) (cs := vs) (t := t) ha ht (fun j u hu => by
    have h0 := hc j u hu
    exact (World.cell?_of_block (a := ⟨b, p + j, none⟩) (hst.fr.block b (World.block_lt_of_cell? C.w0 _ h0) hM)).trans h0) hl
  simp [execOp, ho, hx, Instr.loadAt, Instr.sureAddr, h1]

/-! ### New blocks -/
theorem Turn.alloc {sz by_ : Nat} {z : Value} {cs : List Value} (ho : o.op = .alloc t) (ht : tyI C.P t = some (z, sz, by_)) (hz : z.cells = cs.toArray) : Turn C L e o (fun v L' => ∃ b, v = .pointer (some ⟨b, 0, none⟩) ∧ L' = .blk b (.cells cs.toArray t (0, 0)) :: L) :=
  fun w hst => ⟨_, w.alloc (.cells cs.toArray t), _, by simp [execOp, ho, Instr.alloc, tyI.zero ht, newVar, newRow, newObj, hz, Sem.run], ⟨w.heap.size, rfl, rfl⟩, hst.alloc _⟩
theorem Turn.box {v : Value} {cs : List Value} (ho : o.op = .box t x) (hx : ev C.n e x = v) (hv : v.cells = cs.toArray) : Turn C L e o (fun v L' => ∃ b, v = .pointer (some ⟨b, 0, none⟩) ∧ L' = .blk b (.cells cs.toArray t (0, 0)) :: L) :=
  fun w hst => ⟨_, w.alloc (.cells cs.toArray t), _, by simp [execOp, ho, Instr.box, newVar, newRow, newObj, hx, hv, Sem.run], ⟨w.heap.size, rfl, rfl⟩, hst.alloc _⟩
/-! ### Stores -/
theorem storeCells_run {P : Program} {w : World} {b T p : Nat} {cs : List Value} (vs : List Value) (hb : w.heap[b]? = some (.cells cs.toArray T (0, 0))) (hl : p + vs.length ≤ cs.length) (h1 : ∀ v ∈ vs, v.oneCell' = true) :
    (storeCells ⟨b, p, none⟩ vs).run P w = .ok () (w.setRow b (cs.take p ++ vs ++ cs.drop (p + vs.length)).toArray) := by
  have := run_storeCells_at (P := P) b p T vs 0 cs.toArray w hb (by simpa using hl) h1
  simpa using this
theorem set_split {α : Type} (cs : List α) (p : Nat) (v : α) (h : p < cs.length) : cs.take p ++ [v] ++ cs.drop (p + 1) = cs.set p v := by
  rw [List.set_eq_take_append_cons_drop, if_pos h]; simp
theorem Turn.st {b p T sz by_ : Nat} {z v : Value} {cs : List Value} {L' : List HP} (ho : o.op = .store t x y) (ht : tyI C.P t = some (z, 1, by_)) (hx : ev C.n e x = .pointer (some ⟨b, p, none⟩)) (hy : ev C.n e y = v) (h1 : v.oneCell' = true)
    (hr : Rep L (.blk b (.cells cs.toArray T (0, 0))) (.blk b (.cells (cs.set p v).toArray T (0, 0))) L') (hp : Nat.blt p cs.length = true) : Turn0 C L e o (fun L'' => L'' = L') :=
  fun w hst => by
      have hp' : p < cs.length := by simpa [Nat.blt_eq] using hp
      obtain ⟨r, hr1, _⟩ := hr.perm2
      have hb : w.heap[b]? = some (.cells cs.toArray T (0, 0)) := hst.first hr1
      have hcs := storeCells_run (P := C.P) (p := p) [v] hb (by simp; omega) (by simpa using h1)
      simp only [List.length_singleton] at hcs
      rw [set_split _ _ _ hp'] at hcs
      have hvc : v.cells = #[v] := by cases v <;> first | rfl | cases h1
      refine ⟨_, _, ?_, rfl, hst.setRow hr⟩
      simp [execOp, ho, hx, hy, Instr.storeAt, Instr.sureAddr, storeVar, tyI.size ht, hvc, hcs]
theorem Turn.stA {b p T sz by_ : Nat} {z : Value} {cs vs : List Value} {L' : List HP} (ho : o.op = .store t x y) (ht : tyI C.P t = some (z, sz, by_)) (hx : ev C.n e x = .pointer (some ⟨b, p, none⟩)) (hy : ev C.n e y = .agg vs.toArray) (hsz : vs.length = sz) (h1 : vs.all (·.oneCell') = true)
    (hr : Rep L (.blk b (.cells cs.toArray T (0, 0))) (.blk b (.cells (cs.take p ++ vs ++ cs.drop (p + sz)).toArray T (0, 0))) L') (hp : Nat.ble (p + sz) cs.length = true) : Turn0 C L e o (fun L'' => L'' = L') :=
  fun w hst => by
      subst hsz
      obtain ⟨r, hr1, _⟩ := hr.perm2
      have hb : w.heap[b]? = some (.cells cs.toArray T (0, 0)) := hst.first hr1
      have hcs := storeCells_run (P := C.P) vs hb (Nat.le_of_ble_eq_true hp) (by simpa using h1)
      refine ⟨_, _, ?_, rfl, hst.setRow hr⟩
      simp [execOp, ho, hx, hy, Instr.storeAt, Instr.sureAddr, storeVar, tyI.size ht, Value.cells, hcs]
theorem own_setRow {w : World} {b n c T sz : Nat} {cs : List Value} (p : Nat) (vs : List Value) (h : w.ownsRow 0 T sz (.slice (some ⟨b, 0, none⟩) n c) n cs) (hl : p + vs.length ≤ cs.length) (h1 : ∀ v ∈ vs, v.oneCell' = true) (P : Program) :
    ∃ w', (storeCells ⟨b, p, none⟩ vs).run P w = .ok () w' ∧ w'.ownsRow 0 T sz (.slice (some ⟨b, 0, none⟩) n c) n (cs.take p ++ vs ++ cs.drop (p + vs.length)) ∧ Fr [b] w w' := by
  rcases h.2 with ⟨h', _⟩ | ⟨g, cap, cur, hv, hb, hg, hn, hm, hs, ht⟩
  · cases h'
  · injection hv with hv1 hv2 hv3
    injection hv1 with hv1; injection hv1 with hv1; subst hv1; subst hv3
    have hcl : cs.length = n * sz := h.1
    have hcur : cur.toList.length = c * sz := by simpa using hs
    have hle : n * sz ≤ c * sz := Nat.mul_le_mul_right _ hn
    have hrun := storeCells_run (P := P) (w := w) (b := b) (T := T) (p := p) (cs := cur.toList) vs (by simpa using hg) (by omega) h1
    refine ⟨_, hrun, ⟨?_, .inr ⟨b, c, _, rfl, hb, setRow_heap w b cur _ T _ hg, hn, hm, ?_, ?_⟩⟩, Fr.setRow w b _⟩
    · simp only [List.length_append, List.length_take, List.length_drop]; omega
    · simp only [List.size_toArray, List.length_append, List.length_take, List.length_drop]; omega
    · subst ht
      apply List.ext_getElem?
      intro i
      simp only [List.getElem?_take, List.getElem?_append, List.length_append, List.length_take, List.getElem?_drop]
      have hl' := hl
      simp only [List.length_take] at hl' hcl
      repeat' split
      all_goals first | rfl | omega | (congr 1; omega)
theorem Turn.stS {b p n c T sz s2 by_ : Nat} {z v : Value} {cs : List Value} {L' : List HP} (ho : o.op = .store t x y) (ht : tyI C.P t = some (z, 1, by_)) (hx : ev C.n e x = .pointer (some ⟨b, p, none⟩)) (hy : ev C.n e y = v) (h1 : v.oneCell' = true)
    (hr : Rep L (.sl (some ⟨b, 0, none⟩) n c T sz cs) (.sl (some ⟨b, 0, none⟩) n c T sz (cs.set p v)) L') (hp : p < cs.length) : Turn0 C L e o (fun L'' => L'' = L') :=
  fun w hst => by
      obtain ⟨r, hr1, _⟩ := hr.perm2
      have hown : w.ownsRow 0 T sz (.slice (some ⟨b, 0, none⟩) n c) n cs := hst.first hr1
      obtain ⟨w', hrun, ho', hf⟩ := own_setRow p [v] hown (by simp; omega) (by simpa using h1) C.P
      simp only [List.length_singleton] at ho'
      rw [set_split _ _ _ hp] at ho'
      have hvc : v.cells = #[v] := by cases v <;> first | rfl | cases h1
      refine ⟨w', L', ?_, rfl, hst.rep hr ho' hf (by simp [HP.dom])⟩
      simp [execOp, ho, hx, hy, Instr.storeAt, Instr.sureAddr, storeVar, tyI.size ht, hvc, hrun]
theorem Turn.stSA {b p n c T sz s2 by_ : Nat} {z : Value} {cs vs : List Value} {L' : List HP} (ho : o.op = .store t x y) (ht : tyI C.P t = some (z, s2, by_)) (hx : ev C.n e x = .pointer (some ⟨b, p, none⟩)) (hy : ev C.n e y = .agg vs.toArray) (hsz : vs.length = s2) (h1 : vs.all (·.oneCell') = true)
    (hr : Rep L (.sl (some ⟨b, 0, none⟩) n c T sz cs) (.sl (some ⟨b, 0, none⟩) n c T sz (cs.take p ++ vs ++ cs.drop (p + s2))) L') (hp : p + s2 ≤ cs.length) : Turn0 C L e o (fun L'' => L'' = L') :=
  fun w hst => by
      subst hsz
      obtain ⟨r, hr1, _⟩ := hr.perm2
      have hown : w.ownsRow 0 T sz (.slice (some ⟨b, 0, none⟩) n c) n cs := hst.first hr1
      obtain ⟨w', hrun, ho', hf⟩ := own_setRow p vs hown hp (by simpa using h1) C.P
      refine ⟨w', L', ?_, rfl, hst.rep hr ho' hf (by simp [HP.dom])⟩
      simp [execOp, ho, hx, hy, Instr.storeAt, Instr.sureAddr, storeVar, tyI.size ht, Value.cells, hrun]
end
end Go.Gv
