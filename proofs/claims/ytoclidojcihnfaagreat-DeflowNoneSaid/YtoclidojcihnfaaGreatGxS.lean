/- Part of an evaluator of the program's calls, proved sound: what it yields, the program does in every world. No condition beyond those that each theorem names. -/
import Derived.Test.YtoclidojcihnfaaGreatGxR
set_option linter.unusedVariables false
set_option linter.unusedSimpArgs false
namespace Go.Gx
open Go.RowKit Go.Gv

/-! ### What only lays a new block -/
def mkp (sl : Bool) (l c : Nat) : Nat → Value := match sl with
  | false => fun b => .pointer (some ⟨b, 0, none⟩)
  | true => fun b => .slice (some ⟨b, 0, none⟩) l c
def Alc (P : Program) (n : Nat) (e : FE) (h : H) (o : Oper) (sl : Bool) (v : V) (g : H) : Prop :=
  ∀ (σ : Sg) (E : Env) (rh : RH), ER σ n e E → HR σ h rh → ∃ (cs : List Value) (T l c : Nat) (cv : B), (∀ w, (execOp (ev n E) o).run P w = .ok (.value (mkp sl l c w.heap.size)) (w.alloc (.cells cs.toArray T))) ∧
    g = h.new (.c T cv) ∧ All2 (SR σ) cv.toL cs ∧ ∀ b, VR (σ.new h.n b 0 []) v (mkp sl l c b)
section
variable {P : Program} {n : Nat} {e : FE} {h : H} {o : Oper}
theorem Alc.alloc {t sz by_ : Nat} {z : Value} {cs : List S} (ho : o.op = .alloc t) (ht : tyI P t = some (z, sz, by_)) (hz : zSs z.cells.toList = some cs) : Alc P n e h o false (.o (.p h.n 0)) (h.new (.c t (B.ofL cs))) :=
  fun σ E rh he hr => by
    refine ⟨z.cells.toList, t, 0, 0, B.ofL cs, fun w => ?_, rfl, by rw [B.toL_ofL]; exact zSs_SR hz, fun b => ⟨b, by simp [Sg.new], rfl⟩⟩
    simp [execOp, ho, Instr.alloc, tyI.zero ht, newVar, newRow, newObj, Sem.run, mkp]
theorem Alc.box {t : Nat} {x : Operand} {s : S} (ho : o.op = .box t x) (hx : opv n e x = some (.o s)) (h1 : one s = true) : Alc P n e h o false (.o (.p h.n 0)) (h.new (.c t (B.ofL [s]))) :=
  fun σ E rh he hr => by
    have hv : SR σ s (ev n E x) := he.opv hx
    have hc := one_cells (one_of hv h1)
    refine ⟨[ev n E x], t, 0, 0, B.ofL [s], fun w => ?_, rfl, by rw [B.toL_ofL]; exact .cons hv .nil, fun b => ⟨b, by simp [Sg.new], rfl⟩⟩
    simp [execOp, ho, Instr.box, newVar, newRow, newObj, hc, Sem.run, mkp]
theorem Alc.boxA {t : Nat} {x : Operand} {cs : List S} (ho : o.op = .box t x) (hx : opv n e x = some (.a cs)) : Alc P n e h o false (.o (.p h.n 0)) (h.new (.c t (B.ofL cs))) :=
  fun σ E rh he hr => by
    obtain ⟨vs, hv, hall⟩ : VR σ (.a cs) (ev n E x) := he.opv hx
    refine ⟨vs, t, 0, 0, B.ofL cs, fun w => ?_, rfl, by rw [B.toL_ofL]; exact hall, fun b => ⟨b, by simp [Sg.new], rfl⟩⟩
    simp [execOp, ho, Instr.box, newVar, newRow, newObj, hv, Value.cells, Sem.run, mkp]
theorem bsl_run {P : Program} {n : Nat} {E : Env} {o : Oper} {t el sz by_ len : Nat} {z : Value} {ps : List (Nat × Operand)} {cs : List Value}
    (ho : o.op = .buildSlice t len ps.toArray) (hs : slI P t = some (el, sz, by_, z)) (hz : z.cells.toList.length = sz) (hsz : 0 < sz) (hlen : 0 < len)
    (hf : fillC (fun i => some (i * sz, sz)) (reps len z.cells.toList) (ps.map fun p => (p.1, ev n E p.2)) = some cs) (hsm : len * sz ≤ 16777216) (w : World) :
    (execOp (ev n E) o).run P w = .ok (.value (.slice (some ⟨w.heap.size, 0, none⟩) len len)) (w.alloc (.cells cs.toArray el)) := by
  obtain ⟨hu, hT⟩ := slI.info hs
  have hp : 0 < len * sz := Nat.mul_pos hlen hsz
  have hsm' : ¬ (16777216 < len * sz) := by omega
  have hlz' : ¬ (len * sz = 0) := by omega
  have hzl : z.cells.toList ≠ [] := by intro h0; rw [h0] at hz; simp at hz; omega
  rw [← zcells_reps _ _ (by rw [hz]; exact hsz), hz] at hf
  have hfill := fill_run _ _ _ hf
  have hzr := zcells_run z.cells.toList (len * sz) hzl
  have hps : (Array.map (fun p : Nat × Operand => (p.1, ev n E p.2)) ps.toArray).toList = ps.map fun p => (p.1, ev n E p.2) := by simp
  have hz2 : z.cells = z.cells.toList.toArray := by simp
  simp only [execOp, ho, Instr.buildSlice, hps]
  simp only [Sem.run_bind, run_underlying hu, Result.andThen_ok, tyI.size hT, if_neg hsm', if_neg hlz', Sem.run_pure, tyI.zero hT]
  rw [hz2]
  simp only [hzr, hfill, newRow, newObj, pure_bind]
  simp [Sem.run]
theorem Alc.bsl {t len el sz by_ : Nat} {z : Value} {ps : List (Nat × Operand)} {zs r : List S} {qs : List (Nat × List S)} (ho : o.op = .buildSlice t len ps.toArray) (hs : slI P t = some (el, sz, by_, z)) (hz : zSs z.cells.toList = some zs) (hzl : Nat.beq zs.length sz = true)
    (hsz : Nat.blt 0 sz = true) (hlen : Nat.blt 0 len = true) (hsm : Nat.ble (len * sz) 16777216 = true) (hq : prts n e ps = some qs) (hf : fillS (fun i => some (i * sz, sz)) qs (repl zs len) = some r) :
    Alc P n e h o true (.o (.sl h.n 0 len (.kn len))) (h.new (.c el (B.ofL r))) :=
  fun σ E rh he hr => by
    rw [Nat.blt_eq] at hsz hlen
    have hz' : All2 (SR σ) zs z.cells.toList := zSs_SR hz
    have hzl' : z.cells.toList.length = sz := by rw [← hz'.length]; exact Nat.eq_of_beq_eq_true hzl
    obtain ⟨us, h1, h2⟩ := fill_R he ps qs (repl zs len) r (reps len z.cells.toList) hq hf (repl_R hz' len)
    exact ⟨us, el, len, len, B.ofL r, fun w => bsl_run ho hs hzl' hsz hlen h1 (Nat.le_of_ble_eq_true hsm) w, rfl, by rw [B.toL_ofL]; exact h2, fun b => ⟨b, len, by simp [Sg.new], rfl, Nat.le_refl _, rfl⟩⟩
theorem Alc.make {t el sz by_ : Nat} {z : Value} {zs : List S} {x y : Operand} {j k : IntKind} {l c : Nat} (ho : o.op = .makeSlice t x y) (hs : slI P t = some (el, sz, by_, z)) (hz : zSs z.cells.toList = some zs) (hzl : Nat.beq zs.length sz = true) (hsz : Nat.blt 0 sz = true)
    (hx : opv n e x = some (.o (.i j (.ofNat l)))) (hy : opv n e y = some (.o (.i k (.ofNat c)))) (hlc : Nat.ble l c = true) (hb : Nat.ble (by_ * c) 281474976710656 = true) (hm : Nat.ble c 9223372036854775807 = true) :
    Alc P n e h o true (.o (.sl h.n 0 l (.kn c))) (h.new (.c el (B.rep zs c))) :=
  fun σ E rh he hr => by
    rw [Nat.blt_eq] at hsz
    have hz' : All2 (SR σ) zs z.cells.toList := zSs_SR hz
    have hzl' : z.cells.toList.length = sz := by rw [← hz'.length]; exact Nat.eq_of_beq_eq_true hzl
    have hx' : ev n E x = .int j (.ofNat l) := he.opv hx
    have hy' : ev n E y = .int k (.ofNat c) := he.opv hy
    obtain ⟨hu, hT⟩ := slI.info hs
    obtain ⟨i, hi1, hi2, hi3, hi4⟩ := tyI.info hT
    have hlc := Nat.le_of_ble_eq_true hlc
    have hb := Nat.le_of_ble_eq_true hb
    have hm := Nat.le_of_ble_eq_true hm
    refine ⟨reps c z.cells.toList, el, l, c, B.rep zs c, fun w => ?_, rfl, by rw [B.toL_rep]; exact repl_R hz' c, fun b => ⟨b, c, by simp [Sg.new], rfl, hlc, rfl⟩⟩
    have h5 : ((by_ * c : Nat) : Int) ≤ 281474976710656 := by omega
    rw [Int.natCast_mul, ← hi4] at h5
    have hrun := run_make (P := P) w t el i z hu hi1 hi2 j k (l : Int) (c : Int) (Int.natCast_nonneg l) (by omega) h5 (by omega)
    simp only [Int.toNat_natCast, hi3] at hrun
    have hmc : madeCells z.cells (c * sz) = (reps c z.cells.toList).toArray := by
      have := madeCells_reps z.cells.toList c (by omega)
      rw [hzl'] at this
      simp only [Array.toArray_toList] at this
      rw [← this]
    rw [hmc] at hrun
    simp [execOp, ho, hx', hy', hrun, mkp]
structure AF where
  run : FE → H → Option (V × H)
/-- The block that an operation of this kind lays. -/
noncomputable def alc (P : Program) (n : Nat) (sl : Bool) (op : Op) : AF := match sl, op with
  | false, .alloc t => match tyI P t with
    | some q => match zSs q.1.cells.toList with
      | some cs => ⟨fun _ h => kNew t (B.ofL cs) h⟩
      | none => ⟨fun _ _ => none⟩
    | none => ⟨fun _ _ => none⟩
  | false, .box t x => ⟨fun e h => ob (opv n e x) fun a => kBox t h a⟩
  | true, .buildSlice t len ps => match slI P t with
    | some q => match zSs q.2.2.2.cells.toList with
      | some zs => match Nat.beq zs.length q.2.1, Nat.blt 0 q.2.1, Nat.blt 0 len, Nat.ble (len * q.2.1) 16777216 with
        | true, true, true, true => ⟨fun e h => ob (opvs n e (ps.toList.map (·.2))) fun vs => kBsl q.1 q.2.1 len zs (ps.toList.map (·.1)) vs h⟩
        | _, _, _, _ => ⟨fun _ _ => none⟩
      | none => ⟨fun _ _ => none⟩
    | none => ⟨fun _ _ => none⟩
  | true, .makeSlice t x y => match slI P t with
    | some q => match zSs q.2.2.2.cells.toList with
      | some zs => match Nat.beq zs.length q.2.1, Nat.blt 0 q.2.1 with
        | true, true => ⟨fun e h => ob (opv n e x) fun a => ob (opv n e y) fun b => kMk q.1 q.2.2.1 zs h a b⟩
        | _, _ => ⟨fun _ _ => none⟩
      | none => ⟨fun _ _ => none⟩
    | none => ⟨fun _ _ => none⟩
  | _, _ => ⟨fun _ _ => none⟩
theorem Alc.got {sl : Bool} {a v : V} {b g : H} (hr : some (a, b) = some (v, g)) (k : Alc P n e h o sl a b) : Alc P n e h o sl v g := by cases hr; exact k
theorem alc_ok {sl : Bool} {v : V} {g : H} (hr : (alc P n sl o.op).run e h = some (v, g)) : Alc P n e h o sl v g := by
  generalize ho : o.op = op at hr
  unfold alc at hr
  split at hr
  · split at hr
    · rename_i q hq
      split at hr
      · rename_i cs hz
        have hr : kNew _ (B.ofL cs) h = some (v, g) := hr
        unfold kNew at hr; rw [fN_eq] at hr
        exact Alc.got hr (Alc.alloc ho hq hz)
      · cases hr
    · cases hr
  · rename_i t x
    obtain ⟨a, hx, hr⟩ := ob_some hr
    unfold kBox at hr
    split at hr
    · obtain ⟨h1, hr⟩ := grd_some hr
      unfold kNew at hr; rw [fN_eq] at hr
      exact Alc.got hr (Alc.box ho hx h1)
    · unfold kNew at hr; rw [fN_eq] at hr
      exact Alc.got hr (Alc.boxA ho hx)
    · cases hr
  · rename_i t len ps
    have ho : o.op = .buildSlice t len ps.toList.toArray := by simpa using ho
    split at hr
    · rename_i q hq
      split at hr
      · rename_i zs hz
        split at hr
        · rename_i b1 b2 b3 b4
          obtain ⟨vs, hx, hr⟩ := ob_some hr
          obtain ⟨cs, h1, hr⟩ := ob_some hr
          obtain ⟨l, h2, hr⟩ := ob_some hr
          rw [fN_eq] at hr
          exact Alc.got hr (Alc.bsl ho hq hz b1 b2 b3 b4 (prts_of _ hx h1) h2)
        · cases hr
      · cases hr
    · cases hr
  · rename_i t x y
    split at hr
    · rename_i q hq
      split at hr
      · rename_i zs hz
        split at hr
        · rename_i b1 b2
          obtain ⟨a, hx, hr⟩ := ob_some hr
          obtain ⟨b, hy, hr⟩ := ob_some hr
          unfold kMk at hr
          split at hr
          · obtain ⟨h1, hr⟩ := grd_some hr
            obtain ⟨h2, hr⟩ := grd_some hr
            obtain ⟨h3, hr⟩ := grd_some hr
            simp only [fN_eq] at hr
            exact Alc.got hr (Alc.make ho hq hz b1 b2 hx hy h1 h2 h3)
          · cases hr
        · cases hr
      · cases hr
    · cases hr
  · cases hr
end
/-! ### Values that name no block -/
noncomputable def pl1 (s : S) : Bool := match s with
  | .i _ _ => true
  | .b _ => true
  | .s _ => true
  | .r _ => true
  | _ => false
noncomputable def pln (v : V) : Bool := match v with
  | .o s => pl1 s
  | .a l => l.all pl1
  | .t l => l.all fun v => match v with
    | .o s => pl1 s
    | .a l => l.all pl1
    | _ => false
  | .x _ => false
theorem pl1_mono {σ τ : Sg} {s : S} {x : Value} (h : pl1 s = true) (k : SR σ s x) : SR τ s x := by cases s <;> first | exact k | cases h
theorem pl1_uniq {σ τ : Sg} {s : S} {x y : Value} (h : pl1 s = true) (k : SR σ s x) (m : SR τ s y) : x = y := by
  cases s with
  | s l =>
    obtain ⟨p, rfl, h1⟩ := k
    obtain ⟨q, rfl, h2⟩ := m
    have : p.data.toList = q.data.toList := map_toNat_inj (h1.trans h2.symm)
    congr 1
    exact ByteArray.ext (Array.ext' this)
  | i _ _ => have k : x = _ := k; have m : y = _ := m; rw [k, m]
  | b _ => have k : x = _ := k; have m : y = _ := m; rw [k, m]
  | r _ => have k : x = _ := k; have m : y = _ := m; rw [k, m]
  | _ => cases h
theorem all_uniq {R S' : V → Value → Prop} {l : List V} (hu : ∀ v x y, v ∈ l → R v x → S' v y → x = y) : ∀ {a b : List Value}, All2 R l a → All2 S' l b → a = b := by
  induction l with
  | nil => intro a b h k; cases h; cases k; rfl
  | cons v l ih =>
    intro a b h k
    cases h; cases k
    rename_i x xs h1 h2 y ys k1 k2
    rw [hu v x y (by simp) h1 k1, ih (fun v x y hv => hu v x y (List.mem_cons_of_mem _ hv)) h2 k2]
theorem alls_uniq {σ τ : Sg} {l : List S} (h : l.all pl1 = true) : ∀ {a b : List Value}, All2 (SR σ) l a → All2 (SR τ) l b → a = b := by
  induction l with
  | nil => intro a b h k; cases h; cases k; rfl
  | cons v l ih =>
    intro a b h1 k1
    simp only [List.all_cons, Bool.and_eq_true] at h
    cases h1; cases k1
    rename_i x xs h2 h3 y ys k2 k3
    rw [pl1_uniq h.1 h2 k2, ih h.2 h3 k3]
theorem pln_uniq {σ τ : Sg} {v : V} {x y : Value} (h : pln v = true) (k : VR σ v x) (m : VR τ v y) : x = y := by
  cases v with
  | o s => exact pl1_uniq h k m
  | a l => obtain ⟨xs, rfl, h1⟩ := k; obtain ⟨ys, rfl, h2⟩ := m; rw [alls_uniq h h1 h2]
  | t l =>
    obtain ⟨xs, rfl, h1⟩ := k
    obtain ⟨ys, rfl, h2⟩ := m
    have hl : ∀ v ∈ l, _ := List.all_eq_true.1 h
    rw [all_uniq (fun v x y hv r1 r2 => ?_) h1 h2]
    have := hl v hv
    cases v with
    | o s => exact pl1_uniq this r1 r2
    | a l => obtain ⟨xs, rfl, h1⟩ := r1; obtain ⟨ys, rfl, h2⟩ := r2; rw [alls_uniq this h1 h2]
    | t l => cases this
    | x v => cases this
  | x v => cases h
end Go.Gx
