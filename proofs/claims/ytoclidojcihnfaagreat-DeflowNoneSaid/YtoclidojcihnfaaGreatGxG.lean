/- Part of an evaluator of the program's calls, proved sound: what it yields, the program does in every world. No condition beyond those that each theorem names. -/
import Derived.Test.YtoclidojcihnfaaGreatGxF
import Derived.Lib.AppendStr
set_option linter.unusedVariables false
set_option linter.unusedSimpArgs false
namespace Go.Gx
open Go.RowKit Go.Gv

/-! ### What is put together -/
/-- A value's cells. -/
noncomputable def vcl (v : V) : Option (List S) := match v with
  | .o s => cond (one s) (some [s]) none
  | .a l => some l
  | .t _ => none
  | .x _ => none
theorem vcl_R {σ : Sg} {v : V} {x : Value} {l : List S} (h : VR σ v x) (hl : vcl v = some l) : All2 (SR σ) l x.cells.toList := by
  cases v with
  | o s =>
    simp only [vcl] at hl
    cases h1 : one s with
    | false => rw [h1] at hl; cases hl
    | true =>
      rw [h1] at hl; cases hl
      have hs : SR σ s x := h
      rw [one_cells (one_of hs h1)]
      exact .cons hs .nil
  | a cs => cases hl; obtain ⟨vs, rfl, h2⟩ := h; simpa [Value.cells] using h2
  | t l => cases hl
  | x v => cases hl
noncomputable def prts (n : Nat) (e : FE) (ps : List (Nat × Operand)) : Option (List (Nat × List S)) :=
  List.rec (motive := fun _ => Option (List (Nat × List S))) (some []) (fun p _ ih => ob (opv n e p.2) fun v => ob (vcl v) fun l => ob ih fun r => some ((p.1, l) :: r)) ps
noncomputable def fillS (place : Nat → Option (Nat × Nat)) (ps : List (Nat × List S)) (cs : List S) : Option (List S) :=
  List.rec (motive := fun _ => List S → Option (List S)) (fun cs => some cs) (fun p _ ih cs => ob (place p.1) fun q => grd (and (Nat.beq p.2.length q.2) (Nat.ble (q.1 + q.2) cs.length)) (ih (lput q.1 p.2 cs))) ps cs
theorem fill_R {σ : Sg} {n : Nat} {e : FE} {E : Env} (he : ER σ n e E) {place : Nat → Option (Nat × Nat)} : ∀ (ps : List (Nat × Operand)) (qs : List (Nat × List S)) (cs r : List S) (vs : List Value),
    prts n e ps = some qs → fillS place qs cs = some r → All2 (SR σ) cs vs → ∃ us, fillC place vs (ps.map fun p => (p.1, ev n E p.2)) = some us ∧ All2 (SR σ) r us
  | [], qs, cs, r, vs, hq, hf, ha => by
    cases hq
    cases hf
    exact ⟨vs, rfl, ha⟩
  | p :: ps, qs, cs, r, vs, hq, hf, ha => by
    obtain ⟨v, h1, hq⟩ := ob_some hq
    obtain ⟨l, h2, hq⟩ := ob_some hq
    obtain ⟨qs', h3, hq⟩ := ob_some hq
    cases hq
    obtain ⟨⟨off, sz⟩, h4, hf⟩ := ob_some hf
    obtain ⟨h5, hf⟩ := grd_some hf
    have h5' : Nat.beq l.length sz = true ∧ Nat.ble (off + sz) cs.length = true := by
      have h6 : (Nat.beq l.length sz && Nat.ble (off + sz) cs.length) = true := h5
      simpa only [Bool.and_eq_true] using h6
    have h7 := Nat.eq_of_beq_eq_true h5'.1
    have h8 := Nat.le_of_ble_eq_true h5'.2
    have hc := vcl_R (he.opv h1) h2
    have hlen := hc.length
    have hlen2 := ha.length
    have hnew : All2 (SR σ) (lput off l cs) (vs.take off ++ (ev n E p.2).cells.toList ++ vs.drop (off + sz)) := by
      have := ((ha.take off).append hc).append (ha.drop (off + l.length))
      unfold lput; rw [h7] at this ⊢; exact this
    obtain ⟨us, h9, h10⟩ := fill_R he ps qs' _ r _ h3 hf hnew
    refine ⟨us, ?_, h10⟩
    simp only [List.map_cons, fillC, h4]
    rw [show Nat.beq (ev n E p.2).cells.toList.length sz = true from by rw [← hlen]; exact h5'.1, show Nat.ble (off + sz) vs.length = true from by rw [← hlen2]; exact h5'.2]
    exact h9
section
variable {P : Program} {n : Nat} {e : FE} {h : H} {o : Oper}
theorem Pur.build {t sz by_ : Nat} {z : Value} {pl : List (Nat × Nat)} {ps : List (Nat × Operand)} {zs r : List S} {qs : List (Nat × List S)} (ho : o.op = .build t ps.toArray) (hT : tyI P t = some (z, sz, by_)) (hz : zSs z.cells.toList = some zs) (hs : stI P t = some pl)
    (hq : prts n e ps = some qs) (hf : fillS (pl[·]?) qs zs = some r) : Pur P n e h o (.a r) 0 :=
  fun σ E rh he hr => by
    obtain ⟨us, h1, h2⟩ := fill_R he ps qs zs r z.cells.toList hq hf (zSs_SR hz)
    exact ⟨_, ⟨us, rfl, h2⟩, fun C L hP hn _ => by subst hP hn; exact Yld.build ho hT (by simp) hs h1⟩
theorem Pur.buildA {t sz s2 m el by_ : Nat} {z : Value} {ps : List (Nat × Operand)} {zs r : List S} {qs : List (Nat × List S)} (ho : o.op = .build t ps.toArray) (hT : tyI P t = some (z, s2, by_)) (hz : zSs z.cells.toList = some zs) (hs : arI P t = some (m, el, sz))
    (hq : prts n e ps = some qs) (hf : fillS (fun i => some (i * sz, sz)) qs zs = some r) : Pur P n e h o (.a r) 0 :=
  fun σ E rh he hr => by
    obtain ⟨us, h1, h2⟩ := fill_R he ps qs zs r z.cells.toList hq hf (zSs_SR hz)
    exact ⟨_, ⟨us, rfl, h2⟩, fun C L hP hn _ => by subst hP hn; exact Yld.buildA ho hT (by simp) hs h1⟩
theorem repl_R {σ : Sg} {zs : List S} {zl : List Value} (h : All2 (SR σ) zs zl) : ∀ m, All2 (SR σ) (repl zs m) (reps m zl)
  | 0 => .nil
  | m + 1 => by
    have := repl_R h m
    have h2 : reps (m + 1) zl = zl ++ reps m zl := by simp [reps, List.replicate_succ]
    rw [h2]
    exact h.append this
theorem zcells_reps (zl : List Value) (m : Nat) (h : 0 < zl.length) : zcells zl (m * zl.length) = reps m zl := by
  induction m with
  | zero => simp [zcells, reps]
  | succ m ih => rw [Nat.succ_mul, Nat.add_comm, zcells_step _ _ h, ih]; simp [reps, List.replicate_succ]
theorem Gv.bslB {C : Ctx} {E : Env} {L : List HP} {o : Oper} {t el sz by_ len : Nat} {z : Value} {ps : List (Nat × Operand)} {cs : List Value}
    (ho : o.op = .buildSlice t len ps.toArray) (hs : slI C.P t = some (el, sz, by_, z)) (hz : z.cells.toList.length = sz) (hsz : 0 < sz) (hlen : 0 < len)
    (hf : fillC (fun i => some (i * sz, sz)) (reps len z.cells.toList) (ps.map fun p => (p.1, ev C.n E p.2)) = some cs) (hsm : len * sz ≤ 16777216) :
    Turn C L E o (fun v L' => ∃ b, v = .slice (some ⟨b, 0, none⟩) len len ∧ L' = .blk b (.cells cs.toArray el (0, 0)) :: L) :=
  fun w hst => by
      obtain ⟨hu, hT⟩ := slI.info hs
      have hp : 0 < len * sz := Nat.mul_pos hlen hsz
      have hsm' : ¬ (16777216 < len * sz) := by omega
      have hlz' : ¬ (len * sz = 0) := by omega
      have hzl : z.cells.toList ≠ [] := by intro h0; rw [h0] at hz; simp at hz; omega
      rw [← zcells_reps _ _ (by rw [hz]; exact hsz), hz] at hf
      have hfill := fill_run _ _ _ hf
      have hzr := zcells_run z.cells.toList (len * sz) hzl
      refine ⟨_, w.alloc (.cells cs.toArray el), _, ?_, ⟨w.heap.size, rfl, rfl⟩, hst.alloc _⟩
      have hps : (Array.map (fun p : Nat × Operand => (p.1, ev C.n E p.2)) ps.toArray).toList = ps.map fun p => (p.1, ev C.n E p.2) := by simp
      have hz2 : z.cells = z.cells.toList.toArray := by simp
      simp only [execOp, ho, Instr.buildSlice, hps]
      simp only [Sem.run_bind, run_underlying hu, Result.andThen_ok, tyI.size hT, if_neg hsm', if_neg hlz', Sem.run_pure, tyI.zero hT]
      rw [hz2]
      simp only [hzr, hfill, newRow, newObj, pure_bind]
      simp [Sem.run]
theorem Trn.bsl {t len el sz by_ : Nat} {z : Value} {ps : List (Nat × Operand)} {zs r : List S} {qs : List (Nat × List S)} (ho : o.op = .buildSlice t len ps.toArray) (hs : slI P t = some (el, sz, by_, z)) (hz : zSs z.cells.toList = some zs) (hzl : Nat.beq zs.length sz = true)
    (hsz : Nat.blt 0 sz = true) (hlen : Nat.blt 0 len = true) (hsm : Nat.ble (len * sz) 16777216 = true) (hq : prts n e ps = some qs) (hf : fillS (fun i => some (i * sz, sz)) qs (repl zs len) = some r) :
    Trn P n e h o (.o (.sl h.n 0 len (.kn len))) (h.new (.c el (B.ofL r))) :=
  fun σ E rh he hr C hP hn => by
    rw [Nat.blt_eq] at hsz hlen
    have hz' : All2 (SR σ) zs z.cells.toList := zSs_SR hz
    have hzl' : z.cells.toList.length = sz := by rw [← hz'.length]; exact Nat.eq_of_beq_eq_true hzl
    obtain ⟨us, h1, h2⟩ := fill_R he ps qs (repl zs len) r (reps len z.cells.toList) hq hf (repl_R hz' len)
    subst hP hn
    refine Turn.conv (Gv.bslB ho hs hzl' hsz hlen h1 (Nat.le_of_ble_eq_true hsm)) (List.Perm.refl _) ?_
    rintro _ _ ⟨b, rfl, rfl⟩
    have hst := Stp.new (b := b) (c := 0) (tl := []) hr (v := .c el (B.ofL r)) (o := .cells us.toArray el (0, 0)) (by simp) ⟨_, rfl, by rw [B.toL_ofL]; exact h2.mono fun _ _ => SR.mono (Sg.new_le (hr.out h.n (Nat.le_refl _)))⟩
    exact ⟨_, by rw [H.n_new]; exact (Lof_new h.n rh _).symm, _, _, hst, ⟨b, len, by simp [Sg.new], rfl, Nat.le_refl _, rfl⟩, rfl⟩
theorem Trn.make {t el sz by_ : Nat} {z : Value} {zs : List S} {x y : Operand} {j k : IntKind} {l c : Nat} (ho : o.op = .makeSlice t x y) (hs : slI P t = some (el, sz, by_, z)) (hz : zSs z.cells.toList = some zs) (hzl : Nat.beq zs.length sz = true) (hsz : Nat.blt 0 sz = true)
    (hx : opv n e x = some (.o (.i j (.ofNat l)))) (hy : opv n e y = some (.o (.i k (.ofNat c)))) (hlc : Nat.ble l c = true) (hb : Nat.ble (by_ * c) 281474976710656 = true) (hm : Nat.ble c 9223372036854775807 = true) :
    Trn P n e h o (.o (.sl h.n 0 l (.kn c))) (h.new (.c el (B.rep zs c))) :=
  fun σ E rh he hr C hP hn => by
    rw [Nat.blt_eq] at hsz
    have hz' : All2 (SR σ) zs z.cells.toList := zSs_SR hz
    have hzl' : z.cells.toList.length = sz := by rw [← hz'.length]; exact Nat.eq_of_beq_eq_true hzl
    have hx' : ev n E x = .int j (.ofNat l) := he.opv hx
    have hy' : ev n E y = .int k (.ofNat c) := he.opv hy
    subst hP hn
    obtain ⟨hu, hT⟩ := slI.info hs
    obtain ⟨i, hi1, hi2, hi3, hi4⟩ := tyI.info hT
    have hlc := Nat.le_of_ble_eq_true hlc
    have hb := Nat.le_of_ble_eq_true hb
    have hm := Nat.le_of_ble_eq_true hm
    have hT2 : Turn C (Lof h.n rh) E o (fun v L' => ∃ b, v = .slice (some ⟨b, 0, none⟩) l c ∧ L' = .blk b (.cells (reps c z.cells.toList).toArray el (0, 0)) :: Lof h.n rh) := fun w hst => by
      have h5 : ((by_ * c : Nat) : Int) ≤ 281474976710656 := by omega
      rw [Int.natCast_mul, ← hi4] at h5
      have hrun := run_make (P := C.P) w t el i z hu hi1 hi2 j k (l : Int) (c : Int) (Int.natCast_nonneg l) (by omega) h5 (by omega)
      simp only [Int.toNat_natCast, hi3] at hrun
      have hmc : madeCells z.cells (c * sz) = (reps c z.cells.toList).toArray := by
        have := madeCells_reps z.cells.toList c (by omega)
        rw [hzl'] at this
        simp only [Array.toArray_toList] at this
        rw [← this]
      rw [hmc] at hrun
      refine ⟨_, _, _, ?_, ⟨w.heap.size, rfl, rfl⟩, hst.alloc _⟩
      simp [execOp, ho, hx', hy', hrun]
    refine Turn.conv hT2 (List.Perm.refl _) ?_
    rintro _ _ ⟨b, rfl, rfl⟩
    have hst := Stp.new (b := b) (c := 0) (tl := []) hr (v := .c el (B.rep zs c)) (o := .cells (reps c z.cells.toList).toArray el (0, 0)) (by simp) ⟨_, rfl, by rw [B.toL_rep]; exact (repl_R hz' c).mono fun _ _ => SR.mono (Sg.new_le (hr.out h.n (Nat.le_refl _)))⟩
    exact ⟨_, by rw [H.n_new]; exact (Lof_new h.n rh _).symm, _, _, hst, ⟨b, c, by simp [Sg.new], rfl, hlc, rfl⟩, rfl⟩
noncomputable def caps (n : Nat) (e : FE) (ps : List Operand) : Option (List (Nat × Nat)) :=
  List.rec (motive := fun _ => Option (List (Nat × Nat))) (some []) (fun x _ ih => ob (opv n e x) fun v => match v with | .o (.p k off) => ob ih fun r => some ((k, off) :: r) | _ => none) ps
theorem caps_R {σ : Sg} {n : Nat} {e : FE} {E : Env} (he : ER σ n e E) : ∀ (ps : List Operand) (qs : List (Nat × Nat)), caps n e ps = some qs → All2 (PR σ) qs (ps.map (ev n E))
  | [], qs, h => by cases h; exact .nil
  | p :: ps, qs, h => by
    obtain ⟨v, h1, h⟩ := ob_some h
    split at h
    · rename_i k off
      obtain ⟨r, h2, h3⟩ := ob_some h
      cases h3
      exact .cons (he.opv h1) (caps_R he ps r h2)
    · cases h
theorem Pur.mkf {f : FuncId} {fs cs : List Operand} {qf qc : List (Nat × Nat)} (ho : o.op = .makeFunc (.func f) fs.toArray cs.toArray) (hf : caps n e fs = some qf) (hc : caps n e cs = some qc) : Pur P n e h o (.o (.f f qf qc)) 0 :=
  fun σ E rh he hr => ⟨_, ⟨_, _, rfl, caps_R he fs qf hf, caps_R he cs qc hc⟩, fun C L hP hn _ => by subst hn; exact Yld.mkf ho rfl rfl⟩
end
end Go.Gx
