/- Part of an evaluator of the program's calls, proved sound: what it yields, the program does in every world. No condition beyond those that each theorem names. -/
import Derived.Test.YtoclidojcihnfaaGreatGvE
set_option linter.unusedVariables false
set_option linter.unusedSimpArgs false
namespace Go.Gv
open Go.RowKit
section
variable {C : Ctx} {Q : SPost} {e : Env} {L : List HP} {ops : Array Oper} {o : Oper} {l : List Oper} {t u : TypeId} {x y : Operand} {k : IntKind} {a b : Int}
/-! ### Rows of the call's own -/
theorem St.addNil {w0 w : World} {M : List Nat} (h : St w0 M L w) (T sz : Nat) : St w0 M (.sl none 0 0 T sz [] :: L) w :=
  h.new (q := .sl none 0 0 T sz []) (World.ownsRow_nil w 0 T sz) (Fr.refl _ _) (by simp [HP.dom])
theorem WC.addNil {c : Code} (T sz : Nat) (h : WC C c Q e (.sl none 0 0 T sz [] :: L)) : WC C c Q e L := fun w hst => h w (hst.addNil T sz)
theorem WL.addNil (T sz : Nat) (h : WL C ops Q l e (.sl none 0 0 T sz [] :: L)) : WL C ops Q l e L := fun w hst => h w (hst.addNil T sz)
/-- What is known may be forgotten, or put in another order. -/
theorem WC.sub {c : Code} {L' r : List HP} (h : Outs L L' r) (k : WC C c Q e L') : WC C c Q e L := fun w hst => k w ((hst.perm h.perm).perm List.perm_append_comm).drop
theorem WL.sub {L' r : List HP} (h : Outs L L' r) (k : WL C ops Q l e L') : WL C ops Q l e L := fun w hst => k w ((hst.perm h.perm).perm List.perm_append_comm).drop
/-- A slice that has an element has a row. -/
theorem WL.some {A : Option Addr} {n c T sz : Nat} {cs : List Value} (hm : In L (.sl A n c T sz cs)) (hn : 0 < n) (k : ∀ b, A = some ⟨b, 0, none⟩ → WL C ops Q l e L) : WL C ops Q l e L := fun w hst => by
  have h := hst.own_ hm
  obtain ⟨g, cap, hv, _⟩ := h.form hn
  injection hv with hv
  exact k g hv w hst
theorem WC.some {cd : Code} {A : Option Addr} {n c T sz : Nat} {cs : List Value} (hm : In L (.sl A n c T sz cs)) (hn : 0 < n) (k : ∀ b, A = some ⟨b, 0, none⟩ → WC C cd Q e L) : WC C cd Q e L := fun w hst => by
  have h := hst.own_ hm
  obtain ⟨g, cap, hv, _⟩ := h.form hn
  injection hv with hv
  exact k g hv w hst
/-- Of a slice that is known: how many cells there are. -/
theorem WL.len {A : Option Addr} {n c T sz : Nat} {cs : List Value} (hm : In L (.sl A n c T sz cs)) (k : cs.length = n * sz → WL C ops Q l e L) : WL C ops Q l e L := fun w hst => k (hst.own_ hm).1 w hst
theorem WC.len {cd : Code} {A : Option Addr} {n c T sz : Nat} {cs : List Value} (hm : In L (.sl A n c T sz cs)) (k : cs.length = n * sz → WC C cd Q e L) : WC C cd Q e L := fun w hst => k (hst.own_ hm).1 w hst
theorem fr_of_grown {w w' : World} {r : Option Nat} (h : w.grownBy w' r) : Fr (match r with | none => [] | Option.some b => [b]) w w' :=
  ⟨h.os, h.tape, h.output, h.size, fun k hk hm => h.block k hk (by rintro rfl; simp at hm)⟩
/-- append(s, x...), s a slice of the call's own, x read from a row of its own (a literal's). -/
theorem Turn.app {el sz by_ : Nat} {z : Value} {A : Option Addr} {n c b2 m c2 : Nat} {cs news : List Value} {L1 : List HP} {n2 c3 T2 s2 : Nat}
    (ho : o.op = .call { callee := .builtin .append, args := #[x, y], argTypes := #[t, t] }) (hs : slI C.P t = Option.some (el, sz, by_, z)) (hz : z.cells.size = sz) (hsz : Nat.blt 0 sz = true)
    (hx : ev C.n e x = .slice A n c) (hy : ev C.n e y = .slice (Option.some ⟨b2, 0, none⟩) m c2)
    (hm2 : In L (.sl (Option.some ⟨b2, 0, none⟩) m c3 T2 sz news)) (hr : Out L (.sl A n c el sz cs) L1) (hpos : 0 < m) (h1 : news.all (·.oneCell') = true)
    (hb : (n + m) * by_ ≤ 140737488355328) (hb2 : n + m ≤ 9223372036854775807) : Turn C L e o (fun v L' => ∃ b' c', v = .slice (Option.some ⟨b', 0, none⟩) (n + m) c' ∧ L' = .sl (Option.some ⟨b', 0, none⟩) (n + m) c' el sz (cs ++ news) :: L1) :=
  fun w hst => by
      obtain ⟨hu, hT⟩ := slI.info hs
      obtain ⟨i, hi1, hi2, hi3, hi4⟩ := tyI.info hT
      have hst1 := hst.perm hr.perm
      have hown : w.ownsRow 0 el sz (.slice A n c) n cs := hst1.first (List.Perm.refl _)
      have hsrc := hst.own_ hm2
      have hcells : ∀ j v, news[j]? = Option.some v → w.cell? ((⟨b2, 0, none⟩ : Addr).add j) = Option.some v := hsrc.cells (g := b2) rfl
      obtain ⟨v', w', hrun, hown', hg, _, hat⟩ := run_append_own_at (P := C.P) w 0 t o.type el i z sz by_ hu hi1 hi2 hi3 hi4 hz (by simpa [Nat.blt_eq] using hsz) (.slice A n c) n cs hown ⟨b2, 0, none⟩ m c2 news hsrc.1 hcells
        (by simpa using h1) (by simpa [maxLen] using hb2) hb (Nat.zero_le _)
      obtain ⟨g, cap, hv, _⟩ := hown'.form (by omega)
      subst hv
      refine ⟨_, w', _, ?_, ⟨g, cap, rfl, rfl⟩, ?_⟩
      · simp [execOp, ho, resolve, invoke, builtin, hx, hy, hrun]
      · refine hst1.step1 (q := .sl (Option.some ⟨g, 0, none⟩) (n + m) cap el sz (cs ++ news)) hown' ?_ ?_
        · cases A with
          | none => exact fr_of_grown (r := none) hg
          | some a => exact fr_of_grown (r := Option.some a.block) hg
        · intro b' hb'
          simp [HP.dom] at hb'
          subst hb'
          rcases hat with h' | h'
          · left
            cases A with
            | none => simp [Value.ownBlock] at h'
            | some a => simp [Value.ownBlock] at h'; simp [HP.dom, h']
          · right
            simp [Value.ownBlock] at h'; omega
/-- Parts laid over cells. -/
def fillC (place : Nat → Option (Nat × Nat)) : List Value → List (Nat × Value) → Option (List Value)
  | cs, [] => Option.some cs
  | cs, (i, v) :: rest => match place i with
    | none => none
    | Option.some (off, size) => bif Nat.beq v.cells.toList.length size && Nat.ble (off + size) cs.length then fillC place (cs.take off ++ v.cells.toList ++ cs.drop (off + size)) rest else none
theorem foldl_set (vs : List Value) (off : Nat) : ∀ (k : Nat) (cs : List Value), off + k + vs.length ≤ cs.length →
    ((vs.zipIdx k).foldl (fun (cs : Array Value) (p : Value × Nat) => cs.setIfInBounds (off + p.2) p.1) cs.toArray).toList = cs.take (off + k) ++ vs ++ cs.drop (off + k + vs.length) := by
  induction vs with
  | nil => intro k cs h; simp
  | cons v vs ih =>
    intro k cs h
    simp only [List.length_cons] at h
    simp only [List.zipIdx_cons, List.foldl_cons]
    have := ih (k + 1) (cs.set (off + k) v) (by simp; omega)
    simp only [List.setIfInBounds_toArray]
    rw [this]
    have h2 : off + (k + 1) = off + k + 1 := by omega
    rw [h2, List.length_cons]
    have h3 : off + k < cs.length := by omega
    apply List.ext_getElem?
    intro i
    simp only [List.getElem?_append, List.length_append, List.length_take, List.length_set, List.getElem?_take, List.getElem?_set, List.getElem?_drop, List.length_cons]
    rcases Nat.lt_trichotomy i (off + k) with hi | hi | hi
    · rw [if_pos (by omega), if_pos (by omega), if_pos (by omega), if_neg (by omega), if_pos (by omega), if_pos (by omega), if_pos (by omega)]
    · subst hi
      rw [if_pos (by omega), if_pos (by omega), if_pos (by omega), if_pos rfl, if_pos (by omega), if_pos (by omega), if_neg (by omega)]
      simp [show off + k - min (off + k) cs.length = 0 by omega]
    · by_cases hj : i < off + k + 1 + vs.length
      · rw [if_pos (by omega), if_neg (by omega), if_pos (by omega), if_neg (by omega)]
        rw [show i - min (off + k) cs.length = (i - min (off + k + 1) cs.length) + 1 by omega, List.getElem?_cons_succ]
      · rw [if_neg (by omega), if_neg (by omega), if_neg (by omega)]
        congr 1
        omega
theorem fill_run {place : Nat → Option (Nat × Nat)} : ∀ (ps : List (Nat × Value)) (cs out : List Value), fillC place cs ps = Option.some out → Instr.fill place cs.toArray ps = Option.some out.toArray
  | [], cs, out, h => by simp only [fillC, Option.some.injEq] at h; subst h; rfl
  | (i, v) :: rest, cs, out, h => by
    simp only [fillC] at h
    simp only [Instr.fill]
    cases hp : place i with
    | none => rw [hp] at h; cases h
    | some p =>
      obtain ⟨off, size⟩ := p
      rw [hp] at h
      simp only at h ⊢
      cases hc : (Nat.beq v.cells.toList.length size && Nat.ble (off + size) cs.length) with
      | false => rw [hc] at h; cases h
      | true =>
        rw [hc] at h
        simp only [Bool.and_eq_true] at hc
        have h1 : v.cells.size = size := by simpa using hc.1
        have h2 : off + size ≤ cs.length := Nat.le_of_ble_eq_true hc.2
        rw [if_neg (by simp only [List.size_toArray, Bool.or_eq_true, decide_eq_true_eq, not_or]; omega)]
        simp only [cond_true] at h
        rw [← fill_run rest _ out h]
        congr 1
        have := foldl_set v.cells.toList off 0 cs (by simp; omega)
        rw [← Array.toList_inj]
        rw [← Array.foldl_toList, Array.toList_zipIdx]
        subst h1
        simpa using this
def zcells (zl : List Value) (n : Nat) : List Value := (List.range n).map fun i => zl.getD (i % zl.length) undef
theorem zcells_run (zl : List Value) (n : Nat) (h : zl ≠ []) : (Array.range n).map (fun i => zl.toArray[i % zl.toArray.size]!) = (zcells zl n).toArray := by
  unfold zcells
  rw [← Array.toList_inj]
  simp only [Array.toList_map, Array.toList_range]
  apply List.map_congr_left
  intro i _
  have hl : 0 < zl.length := List.length_pos_iff.2 h
  have hlt := Nat.mod_lt i hl
  simp [List.getD_eq_getElem?_getD, hlt]
theorem Turn.bslice {el sz by_ len : Nat} {z : Value} {ps : List (Nat × Operand)} {zl cs : List Value}
    (ho : o.op = .buildSlice t len ps.toArray) (hs : slI C.P t = Option.some (el, sz, by_, z))
    (hz : z.cells = zl.toArray) (hzn : Nat.blt 0 zl.length = true) (hlz : Nat.blt 0 (len * sz) = true)
    (hf : fillC (fun i => Option.some (i * sz, sz)) (zcells zl (len * sz)) (ps.map fun p => (p.1, ev C.n e p.2)) = Option.some cs)
    (hlen : cs.length = len * sz) (hsm : Nat.ble (len * sz) 16777216 = true) (hm : Nat.ble len 9223372036854775807 = true) : Turn C L e o (fun v L' => ∃ b, v = .slice (Option.some ⟨b, 0, none⟩) len len ∧ L' = .sl (Option.some ⟨b, 0, none⟩) len len el sz cs :: L) :=
  fun w hst => by
      obtain ⟨hu, hT⟩ := slI.info hs
      have hsm' : ¬ (16777216 < len * sz) := by have := Nat.le_of_ble_eq_true hsm; omega
      have hlz' : ¬ (len * sz = 0) := by have : 0 < len * sz := by simpa [Nat.blt_eq] using hlz
                                         omega
      have hfill := fill_run _ _ _ hf
      have hzl : zl ≠ [] := by intro h0; subst h0; cases hzn
      have hzr := zcells_run zl (len * sz) hzl
      refine ⟨_, w.alloc (.cells cs.toArray el), _, ?_, ⟨w.heap.size, rfl, rfl⟩, ?_⟩
      · have hps : (Array.map (fun p : Nat × Operand => (p.1, ev C.n e p.2)) ps.toArray).toList = ps.map fun p => (p.1, ev C.n e p.2) := by simp
        simp only [execOp, ho, Instr.buildSlice, hps]
        simp only [Sem.run_bind, run_underlying hu, Result.andThen_ok, tyI.size hT, if_neg hsm', if_neg hlz', Sem.run_pure, tyI.zero hT, hz, hzr, hfill, newRow, newObj, pure_bind]
        simp [Sem.run]
      · refine hst.new (q := .sl (Option.some ⟨w.heap.size, 0, none⟩) len len el sz cs) ?_ (Fr.alloc w _) (by simp [HP.dom])
        have := World.ownsRow_lit (base := 0) (e := el) (size := sz) w cs.toArray len (Nat.zero_le _) (by simpa [maxLen] using Nat.le_of_ble_eq_true hm) (by simpa using hlen)
        simpa [HP.sat] using this
/-! ### Structs and arrays that are put together -/
def stI (P : Program) (t : Nat) : Option (List (Nat × Nat)) := match P.underlying t with
  | Option.some (.struct fs) => fs.toList.mapM fun f => (P.info? f.type).map fun i => (f.offset, i.size)
  | _ => none
theorem stI_places {P : Program} (w : World) : ∀ (fs : List Field) (pl : List (Nat × Nat)), (fs.mapM fun f => (P.info? f.type).map fun i => (f.offset, i.size)) = Option.some pl →
    (fs.mapM (m := Sem) fun f => do pure (f.offset, ← sizeOf f.type)).run P w = .ok pl w
  | [], pl, h => by simp at h; subst h; simp
  | f :: fs, pl, h => by
    simp only [List.mapM_cons, Option.bind_eq_bind, Option.bind_eq_some_iff, Option.map_eq_some_iff, Option.pure_def, Option.some.injEq] at h
    obtain ⟨p, ⟨i, hi, rfl⟩, ps, hps, rfl⟩ := h
    have ih := stI_places w fs ps hps
    have hsz : (sizeOf f.type).run P w = .ok i.size w := by simp [sizeOf, typeInfo, hi]
    simp only [List.mapM_cons, Sem.run_bind, hsz, Result.andThen_ok, Sem.run_pure, ih]
theorem Yld.build {z : Value} {sz by_ : Nat} {pl : List (Nat × Nat)} {ps : List (Nat × Operand)} {zl cs : List Value} (ho : o.op = .build t ps.toArray) (hT : tyI C.P t = Option.some (z, sz, by_)) (hz : z.cells = zl.toArray) (hs : stI C.P t = Option.some pl)
    (hf : fillC (pl[·]?) zl (ps.map fun p => (p.1, ev C.n e p.2)) = Option.some cs) : Yld C L e o (.agg cs.toArray) := fun w _ => by
  unfold stI at hs
  split at hs
  · rename_i fs hu
    have hpl := stI_places w _ _ hs
    have hfill := fill_run _ _ _ hf
    have hm : (fs.mapM (m := Sem) fun f => do pure (f.offset, ← sizeOf f.type)).run C.P w = .ok pl.toArray w := by
      rw [Array.mapM_eq_mapM_toList]
      simp only [map_eq_pure_bind, Sem.run_bind, Sem.run_pure] at hpl ⊢
      simp only [hpl, Result.andThen_ok]
    have hps : (Array.map (fun p : Nat × Operand => (p.1, ev C.n e p.2)) ps.toArray).toList = ps.map fun p => (p.1, ev C.n e p.2) := by simp
    simp only [execOp, ho, Instr.build, hps]
    simp only [Sem.run_bind, tyI.zero hT, Result.andThen_ok, run_underlying hu, hm, hz]
    have : Instr.fill (fun x => pl.toArray[x]?) zl.toArray (List.map (fun p => (p.fst, ev C.n e p.snd)) ps) = Option.some cs.toArray := by simpa using hfill
    simp only [this]
    simp
  · cases hs
theorem Yld.buildA {z : Value} {n el sz s2 by_ : Nat} {ps : List (Nat × Operand)} {zl cs : List Value} (ho : o.op = .build t ps.toArray) (hT : tyI C.P t = Option.some (z, s2, by_)) (hz : z.cells = zl.toArray) (hs : arI C.P t = Option.some (n, el, sz))
    (hf : fillC (fun i => Option.some (i * sz, sz)) zl (ps.map fun p => (p.1, ev C.n e p.2)) = Option.some cs) : Yld C L e o (.agg cs.toArray) := fun w _ => by
  obtain ⟨hu, z', b', hT'⟩ := arI.info hs
  have hfill := fill_run _ _ _ hf
  have hps : (Array.map (fun p : Nat × Operand => (p.1, ev C.n e p.2)) ps.toArray).toList = ps.map fun p => (p.1, ev C.n e p.2) := by simp
  simp only [execOp, ho, Instr.build, hps]
  simp only [Sem.run_bind, tyI.zero hT, Result.andThen_ok, run_underlying hu, hz, tyI.size hT', hfill]
  simp
/-! ### make -/
def reps (n : Nat) (zl : List Value) : List Value := (List.replicate n zl).flatten
theorem reps_length (n : Nat) (zl : List Value) : (reps n zl).length = n * zl.length := by simp [reps]
theorem reps_one (n : Nat) (z : Value) : reps n [z] = List.replicate n z := by
  induction n with
  | zero => rfl
  | succ n ih => simp only [reps] at ih ⊢; rw [List.replicate_succ, List.flatten_cons, ih]; rfl
theorem zcells_step (zl : List Value) (m : Nat) (h : 0 < zl.length) : zcells zl (zl.length + m) = zl ++ zcells zl m := by
  unfold zcells
  rw [List.range_add, List.map_append, List.map_map]
  congr 1
  · apply List.ext_getElem
    · simp
    · intro i h1 h2
      simp only [List.getElem_map, List.getElem_range, Nat.mod_eq_of_lt h2]
      simp [List.getD_eq_getElem?_getD, h2]
  · apply List.map_congr_left
    intro i _
    simp
theorem madeCells_reps (zl : List Value) (n : Nat) (h : 0 < zl.length) : (madeCells zl.toArray (n * zl.length)).toList = reps n zl := by
  unfold madeCells
  have := zcells_run zl (n * zl.length) (by intro h0; subst h0; simp at h)
  rw [this]
  show zcells zl (n * zl.length) = _
  clear this
  induction n with
  | zero => simp [zcells, reps]
  | succ n ih => rw [Nat.succ_mul, Nat.add_comm, zcells_step _ _ h, ih]; simp [reps, List.replicate_succ]
theorem Turn.make {el sz by_ : Nat} {z : Value} {zl : List Value} {j : IntKind} (ho : o.op = .makeSlice t x y) (hs : slI C.P t = Option.some (el, sz, by_, z)) (hz : z.cells = zl.toArray) (hzl : zl.length = sz) (hsz : Nat.blt 0 sz = true)
    (hx : ev C.n e x = .int k a) (hy : ev C.n e y = .int j a) (h0 : 0 ≤ a) (hb : by_ * a ≤ 281474976710656) (hm : a ≤ 9223372036854775807) : Turn C L e o (fun v L' => ∃ b, v = .slice (Option.some ⟨b, 0, none⟩) a.toNat a.toNat ∧ L' = .sl (Option.some ⟨b, 0, none⟩) a.toNat a.toNat el sz (reps a.toNat zl) :: L) :=
  fun w hst => by
      obtain ⟨hu, hT⟩ := slI.info hs
      obtain ⟨i, hi1, hi2, hi3, hi4⟩ := tyI.info hT
      obtain ⟨m, rfl⟩ := Int.eq_ofNat_of_zero_le h0
      subst hi4
      have h5 : ((i.bytes * m : Nat) : Int) ≤ 281474976710656 := by rw [Int.natCast_mul]; exact hb
      have h6 : i.bytes * m ≤ 281474976710656 := Int.ofNat_le.1 h5
      have hzp : 0 < zl.length := by rw [hzl]; simpa [Nat.blt_eq] using hsz
      obtain ⟨w', hrun, hown, hg⟩ := run_make_full (P := C.P) w 0 t el i z sz hu hi1 hi2 hi3 k j m h6 (by unfold maxLen; omega) (Nat.zero_le _)
      rw [hz, ← hzl, madeCells_reps _ _ hzp, hzl] at hown
      refine ⟨_, w', _, ?_, ⟨w.heap.size, rfl, rfl⟩, ?_⟩
      · simp [execOp, ho, hx, hy, hrun]
      · exact hst.new (q := .sl (Option.some ⟨w.heap.size, 0, none⟩) m m el sz (reps m zl)) hown (fr_of_grown (r := none) hg) (by simp [HP.dom])
end
end Go.Gv
