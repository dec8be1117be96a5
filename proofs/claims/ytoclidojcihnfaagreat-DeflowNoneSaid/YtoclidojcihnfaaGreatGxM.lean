/- Part of an evaluator of the program's calls, proved sound: what it yields, the program does in every world. No condition beyond those that each theorem names. -/
import Derived.Test.YtoclidojcihnfaaGreatGxL
set_option linter.unusedVariables false
set_option linter.unusedSimpArgs false
namespace Go.Gx
open Go.RowKit Go.Gv

/-! ### What turns the memory: functions of values and memory -/
noncomputable def kNew (t : Nat) (b : B) (h : H) : Option (V × H) := fN h.n fun k => some (.o (.p k 0), h.new (.c t b))
noncomputable def kBox (t : Nat) (h : H) (a : V) : Option (V × H) := match a with
  | .o s => grd (one s) (kNew t (B.ofL [s]) h)
  | .a cs => kNew t (B.ofL cs) h
  | _ => none
/-- The cells of values in a row. -/
noncomputable def vcls (l : List V) : Option (List (List S)) := List.rec (motive := fun _ => Option (List (List S))) (some []) (fun v _ ih => ob (vcl v) fun c => ob ih fun r => some (c :: r)) l
noncomputable def zp {α β : Type} (a : List α) (b : List β) : List (α × β) := List.rec (motive := fun _ => List β → List (α × β)) (fun _ => []) (fun x _ ih b => List.rec (motive := fun _ => List (α × β)) [] (fun y ys _ => (x, y) :: ih ys) b) a b
noncomputable def kBldS (pl : List (Nat × Nat)) (zs : List S) (is : List Nat) (vs : List V) : Option V := ob (vcls vs) fun cs => ob (fillS (pl[·]?) (zp is cs) zs) fun l => some (.a l)
noncomputable def kBldA (sz : Nat) (zs : List S) (is : List Nat) (vs : List V) : Option V := ob (vcls vs) fun cs => ob (fillS (fun i => some (i * sz, sz)) (zp is cs) zs) fun l => some (.a l)
noncomputable def kBsl (el sz len : Nat) (zs : List S) (is : List Nat) (vs : List V) (h : H) : Option (V × H) := ob (vcls vs) fun cs => ob (fillS (fun i => some (i * sz, sz)) (zp is cs) (repl zs len)) fun l => fN h.n fun k => some (.o (.sl k 0 len (.kn len)), h.new (.c el (B.ofL l)))
noncomputable def kMk (el by_ : Nat) (zs : List S) (h : H) (a b : V) : Option (V × H) := match a, b with
  | .o (.i _ (.ofNat l)), .o (.i _ (.ofNat c)) => grd (Nat.ble l c) (grd (Nat.ble (by_ * c) 281474976710656) (grd (Nat.ble c 9223372036854775807) (fN h.n fun k => fN l fun l => fN c fun c => some (.o (.sl k 0 l (.kn c)), h.new (.c el (B.rep zs c))))))
  | _, _ => none
noncomputable def kS2B (el : Nat) (h : H) (a : V) : Option (V × H) := match a with
  | .o (.s l) => fN h.n fun k => fN l.length fun m => some (.o (.sl k 0 m (.un 0)), h.new (.f el (B.ofL (l.map fun c : Nat => .i .u8 (.ofNat c)))))
  | _ => none
/-- What a slice that is appended to has. -/
noncomputable def appQ (h : H) (el sz : Nat) (a : V) : Option (Nat × B × Option Nat) := match a with
  | .o (.r (.slice none 0 0)) => some (0, B.ofL [], none)
  | .o (.sl k 0 len (.kn c)) => match h.get k with
    | .c T b => grd (Nat.beq T el) (grd (Nat.beq b.n (c * sz)) (grd (Nat.ble c maxLen) (some (len, b.shr (len * sz), some k))))
    | _ => none
  | .o (.sl k 0 len (.un 0)) => match h.get k with
    | .u T sz' b => grd (Nat.beq T el) (grd (Nat.beq sz' sz) (grd (Nat.beq b.n (len * sz)) (some (len, b, some k))))
    | _ => none
  | _ => none
noncomputable def nek (kk : Option Nat) (k2 : Nat) : Bool := Option.rec (motive := fun _ => Bool) true (fun k => Bool.not (Nat.beq k k2)) kk
noncomputable def kApp (el sz by_ : Nat) (h : H) (a b : V) : Option (V × H) := match b with
  | .o (.sl k2 off2 m _) => fN m fun m => Nat.rec (motive := fun _ => Option (V × H)) (ob (kLenL a) fun _ => some (a, h)) (fun _ _ => ob (h.get k2).row fun b2 => ob (appQ h el sz a) fun r =>
      (grd (Nat.ble (off2 + m * sz) b2.n) (grd (nek r.2.2 k2) (grd (Nat.ble ((r.1 + m) * by_) 140737488355328) (grd (Nat.ble (r.1 + m) 9223372036854775807)
        (grd ((b2.rng off2 (m * sz)).all one) (fN (r.1 + m) fun l => fN h.n fun k => some (.o (.sl k 0 l (.un 0)), (h.killo r.2.2).new (.u el sz (B.apps (b2.rng off2 (m * sz)) r.2.1)))))))))) m
  | .o (.r (.slice none 0 _)) => ob (kLenL a) fun _ => some (a, h)
  | _ => none
noncomputable def kSt (h : H) (a v : V) : Option H := match a, v with
  | .o (.p k off), .o s => ob (h.get k).row fun b => grd (one s) (grd (Nat.blt off b.n) (ob ((h.get k).wi (b.set off s)) fun vo => some (h.upd k vo)))
  | _, _ => none
noncomputable def kStA (sz : Nat) (h : H) (a v : V) : Option H := match a, v with
  | .o (.p k off), .a ss => ob (h.get k).row fun b => grd (ss.all one) (grd (Nat.beq ss.length sz) (grd (Nat.ble (off + sz) b.n) (ob ((h.get k).wi (b.puts ss off)) fun vo => some (h.upd k vo))))
  | _, _ => none
noncomputable def kCpy (sz : Nat) (h : H) (a b : V) : Option (V × H) := match a, b with
  | .o (.sl k off dlen _), .o (.s l) => ob (h.get k).row fun r => fN (Nat.min l.length dlen) fun m => grd (Nat.beq sz 1) (grd (Nat.ble (off + m) r.n)
      (ob ((h.get k).wi (r.puts ((l.take m).map fun c : Nat => .i .u8 (.ofNat c)) off)) fun v => some (.o (.i .i64 (.ofNat m)), h.upd k v)))
  | .o (.sl k off dlen _), .o (.sl k2 off2 m2 _) => ob (h.get k).row fun r => ob (h.get k2).row fun r2 => fN (Nat.min m2 dlen) fun m => grd (Nat.ble (off + m * sz) r.n) (grd (Nat.ble (off2 + m * sz) r2.n) (grd ((r2.rng off2 (m * sz)).all one)
      (ob ((h.get k).wi (r.puts (r2.rng off2 (m * sz)) off)) fun v => some (.o (.i .i64 (.ofNat m)), h.upd k v))))
  | .o (.sl _ _ _ _), .o (.r (.slice none 0 _)) => some (.o (.i .i64 (.ofNat 0)), h)
  | _, _ => none
section
variable {P : Program} {n : Nat} {e : FE} {h g : H} {o : Oper} {t u : Nat} {x y : Operand} {a b v : V}
theorem Trn.got {a v : V} {b g : H} (hr : some (a, b) = some (v, g)) (k : Trn P n e h o a b) : Trn P n e h o v g := by cases hr; exact k
theorem Trn0.got {b g : H} (hr : some b = some g) (k : Trn0 P n e h o b) : Trn0 P n e h o g := by cases hr; exact k
theorem Pur.trn {rd : Nat} (k : Pur P n e h o v rd) : Trn P n e h o v h := fun σ E rh he hr C hP hn => by
  obtain ⟨x, h1, h2⟩ := k σ E rh he hr
  exact fun w hst => ⟨x, w, _, h2 C _ hP hn (fun j p _ hj hp => In.of_mem (HR.mem hj hp)) w hst, ⟨σ, rh, Stp.refl hr, h1, rfl⟩, hst⟩
theorem kAlloc_ok {sz by_ : Nat} {z : Value} {cs : List S} (ho : o.op = .alloc t) (ht : tyI P t = some (z, sz, by_)) (hz : zSs z.cells.toList = some cs) (hr : kNew t (B.ofL cs) h = some (v, g)) : Trn P n e h o v g := by
  unfold kNew at hr; rw [fN_eq] at hr
  exact Trn.got hr (Trn.alloc ho ht hz)
theorem kBox_ok (ho : o.op = .box t x) (hx : opv n e x = some a) (hr : kBox t h a = some (v, g)) : Trn P n e h o v g := by
  unfold kBox at hr
  split at hr
  · obtain ⟨h1, h2⟩ := grd_some hr
    unfold kNew at h2; rw [fN_eq] at h2
    exact Trn.got h2 (Trn.box ho hx h1)
  · unfold kNew at hr; rw [fN_eq] at hr
    exact Trn.got hr (Trn.boxA ho hx)
  · cases hr
noncomputable def opvs (n : Nat) (e : FE) (l : List Operand) : Option (List V) := List.rec (motive := fun _ => Option (List V)) (some []) (fun x _ ih => ob (opv n e x) fun v => ob ih fun r => some (v :: r)) l
theorem opvs_R {σ : Sg} {n : Nat} {e : FE} {E : Env} (he : ER σ n e E) : ∀ (l : List Operand) (vs : List V), opvs n e l = some vs → All2 (VR σ) vs (l.map (ev n E))
  | [], vs, h => by cases h; exact .nil
  | x :: l, vs, h => by
    obtain ⟨v, h1, h⟩ := ob_some h
    obtain ⟨r, h2, h⟩ := ob_some h
    cases h
    exact .cons (he.opv h1) (opvs_R he l r h2)
theorem prts_of : ∀ (ps : List (Nat × Operand)) {vs : List V} {cs : List (List S)}, opvs n e (ps.map (·.2)) = some vs → vcls vs = some cs → prts n e ps = some (zp (ps.map (·.1)) cs)
  | [], vs, cs, h, k => by cases h; cases k; rfl
  | p :: ps, vs, cs, h, k => by
    obtain ⟨v, h1, h⟩ := ob_some h
    obtain ⟨r, h2, h⟩ := ob_some h
    cases h
    obtain ⟨c, k1, k⟩ := ob_some k
    obtain ⟨r', k2, k⟩ := ob_some k
    cases k
    have ih := prts_of ps h2 k2
    show ob (opv n e p.2) (fun v => ob (vcl v) fun l => ob (prts n e ps) fun r => some ((p.1, l) :: r)) = _
    rw [h1]; show ob (vcl v) _ = _
    rw [k1]; show ob (prts n e ps) _ = _
    rw [ih]; rfl
theorem kBldS_ok {sz by_ : Nat} {z : Value} {pl : List (Nat × Nat)} {ps : List (Nat × Operand)} {zs : List S} {vs : List V} (ho : o.op = .build t ps.toArray) (hT : tyI P t = some (z, sz, by_)) (hz : zSs z.cells.toList = some zs) (hs : stI P t = some pl)
    (hx : opvs n e (ps.map (·.2)) = some vs) (hr : kBldS pl zs (ps.map (·.1)) vs = some v) : Pur P n e h o v 0 := by
  obtain ⟨cs, h1, hr⟩ := ob_some hr
  obtain ⟨l, h2, hr⟩ := ob_some hr
  cases hr
  exact Pur.build ho hT hz hs (prts_of ps hx h1) h2
theorem kBldA_ok {sz s2 m el by_ : Nat} {z : Value} {ps : List (Nat × Operand)} {zs : List S} {vs : List V} (ho : o.op = .build t ps.toArray) (hT : tyI P t = some (z, s2, by_)) (hz : zSs z.cells.toList = some zs) (hs : arI P t = some (m, el, sz))
    (hx : opvs n e (ps.map (·.2)) = some vs) (hr : kBldA sz zs (ps.map (·.1)) vs = some v) : Pur P n e h o v 0 := by
  obtain ⟨cs, h1, hr⟩ := ob_some hr
  obtain ⟨l, h2, hr⟩ := ob_some hr
  cases hr
  exact Pur.buildA ho hT hz hs (prts_of ps hx h1) h2
theorem kBsl_ok {el sz by_ len : Nat} {z : Value} {ps : List (Nat × Operand)} {zs : List S} {vs : List V} (ho : o.op = .buildSlice t len ps.toArray) (hs : slI P t = some (el, sz, by_, z)) (hz : zSs z.cells.toList = some zs) (hzl : Nat.beq zs.length sz = true)
    (hsz : Nat.blt 0 sz = true) (hlen : Nat.blt 0 len = true) (hsm : Nat.ble (len * sz) 16777216 = true) (hx : opvs n e (ps.map (·.2)) = some vs) (hr : kBsl el sz len zs (ps.map (·.1)) vs h = some (v, g)) : Trn P n e h o v g := by
  obtain ⟨cs, h1, hr⟩ := ob_some hr
  obtain ⟨l, h2, hr⟩ := ob_some hr
  rw [fN_eq] at hr
  exact Trn.got hr (Trn.bsl ho hs hz hzl hsz hlen hsm (prts_of ps hx h1) h2)
theorem kMk_ok {el sz by_ : Nat} {z : Value} {zs : List S} (ho : o.op = .makeSlice t x y) (hs : slI P t = some (el, sz, by_, z)) (hz : zSs z.cells.toList = some zs) (hzl : Nat.beq zs.length sz = true) (hsz : Nat.blt 0 sz = true)
    (hx : opv n e x = some a) (hy : opv n e y = some b) (hr : kMk el by_ zs h a b = some (v, g)) : Trn P n e h o v g := by
  unfold kMk at hr
  split at hr
  · obtain ⟨h1, hr⟩ := grd_some hr
    obtain ⟨h2, hr⟩ := grd_some hr
    obtain ⟨h3, hr⟩ := grd_some hr
    simp only [fN_eq] at hr
    exact Trn.got hr (Trn.make ho hs hz hzl hsz hx hy h1 h2 h3)
  · cases hr
theorem kS2B_ok {el : Nat} (ho : o.op = .convert t u x) (hs : P.underlying t = some .string) (hu : P.underlying u = some (.slice el)) (he8 : P.underlying el = some (.int .u8)) (hx : opv n e x = some a) (hr : kS2B el h a = some (v, g)) : Trn P n e h o v g := by
  unfold kS2B at hr
  split at hr
  · simp only [fN_eq] at hr
    exact Trn.got hr (Trn.s2b ho hs hu he8 hx)
  · cases hr
theorem appQ_ok {el sz len : Nat} {ks : B} {kk : Option Nat} (hr : appQ h el sz a = some (len, ks, kk)) : App h el sz a len ks kk := by
  unfold appQ at hr
  split at hr
  · cases hr; exact .nil
  · split at hr
    · rename_i hg
      obtain ⟨h1, hr⟩ := grd_some hr
      obtain ⟨h2, hr⟩ := grd_some hr
      obtain ⟨h3, hr⟩ := grd_some hr
      cases hr
      have := Nat.eq_of_beq_eq_true h1
      subst this
      exact .kn hg (Nat.eq_of_beq_eq_true h2) (Nat.le_of_ble_eq_true h3)
    · cases hr
  · split at hr
    · rename_i hg
      obtain ⟨h1, hr⟩ := grd_some hr
      obtain ⟨h2, hr⟩ := grd_some hr
      obtain ⟨h3, hr⟩ := grd_some hr
      cases hr
      have := Nat.eq_of_beq_eq_true h1
      subst this
      have := Nat.eq_of_beq_eq_true h2
      subst this
      exact .un hg (Nat.eq_of_beq_eq_true h3)
    · cases hr
  · cases hr
theorem nek_ne {kk : Option Nat} {k2 : Nat} (h : nek kk k2 = true) : kk ≠ some k2 := by
  rintro rfl
  simp only [nek, Nat.beq_refl, Bool.not_true] at h
  cases h
/-- Nothing is appended. -/
theorem Pur.app0 {el sz by_ : Nat} {z : Value} {B2 : Option Addr} {c2 : Nat} {r : V} (ho : o.op = .call { callee := .builtin .append, args := #[x, y], argTypes := #[t, t] }) (hs : slI P t = some (el, sz, by_, z)) (hx : opv n e x = some a) (hl : kLenL a = some r)
    (hy : ∀ (σ : Sg) (E : Env), ER σ n e E → ∃ B2 c2, ev n E y = .slice B2 0 c2) : Pur P n e h o a 0 := fun σ E rh he hr => by
  obtain ⟨B2, c2, hyv⟩ := hy σ E he
  have hxv := he.opv hx
  have key : ∃ A l c, ev n E x = .slice A l c ∧ l ≤ c := by
    unfold kLenL at hl
    split at hl
    · obtain ⟨b, cp, _, _, hle, h3⟩ := hxv
      exact ⟨_, _, _, h3, hle⟩
    · have h3 : ev n E x = _ := hxv
      exact ⟨_, _, _, h3, Nat.zero_le _⟩
    · cases hl
  obtain ⟨A, l, c, h3, hle⟩ := key
  refine ⟨ev n E x, hxv, fun C L hP hn _ => fun w _ => ?_⟩
  subst hP hn
  obtain ⟨hu, hT⟩ := slI.info hs
  obtain ⟨i, hi1, hi2, hi3, hi4⟩ := tyI.info hT
  have hrun : (Builtin.append_ #[t, t] o.type #[.slice A l c, .slice B2 0 c2]).run C.P w = .ok (.slice A l c) w := by
    cases A <;> cases B2 <;> simp [Builtin.append_, run_underlying hu, sizeOf, typeInfo, hi1, Builtin.lenOf, Builtin.firstCells, loadCells, loadCellsFrom, hle, storeCells]
  simp [execOp, ho, resolve, invoke, builtin, h3, hyv, hrun]
theorem kApp_ok {el sz by_ : Nat} {z : Value} (ho : o.op = .call { callee := .builtin .append, args := #[x, y], argTypes := #[t, t] }) (hs : slI P t = some (el, sz, by_, z)) (hz : Nat.beq z.cells.size sz = true) (hsz : Nat.blt 0 sz = true) (hx : opv n e x = some a) (hy : opv n e y = some b)
    (hr : kApp el sz by_ h a b = some (v, g)) : Trn P n e h o v g := by
  unfold kApp at hr
  split at hr
  · rename_i k2 off2 m c2
    rw [fN_eq] at hr
    cases m with
    | zero =>
      obtain ⟨r, h1, h2⟩ := ob_some hr
      refine Trn.got h2 (Pur.trn (Pur.app0 (B2 := none) (c2 := 0) ho hs hx h1 fun σ E he => ?_))
      obtain ⟨b, cp, _, _, _, h3⟩ : SR σ (.sl k2 off2 0 c2) (ev n E y) := he.opv hy
      exact ⟨_, _, h3⟩
    | succ m =>
      obtain ⟨b2, h1, hr⟩ := ob_some hr
      obtain ⟨⟨len, ks, kk⟩, h2, hr⟩ := ob_some hr
      obtain ⟨q1, hr⟩ := grd_some hr
      obtain ⟨q2, hr⟩ := grd_some hr
      obtain ⟨q3, hr⟩ := grd_some hr
      obtain ⟨q4, hr⟩ := grd_some hr
      obtain ⟨q5, hr⟩ := grd_some hr
      simp only [fN_eq] at hr
      exact Trn.got hr (Trn.app ho hs hz hsz hx (appQ_ok h2) hy (VO.cs_of h1) (nek_ne q2) (by rw [B.len]; exact q1) (B.rng_eq (Nat.le_of_ble_eq_true q1)) q5 (blt_t (Nat.succ_pos _)) q3 q4)
  · obtain ⟨r, h1, h2⟩ := ob_some hr
    refine Trn.got h2 (Pur.trn (Pur.app0 (B2 := none) (c2 := 0) ho hs hx h1 fun σ E he => ?_))
    have h3 : ev n E y = _ := he.opv hy
    exact ⟨_, _, h3⟩
  · cases hr
theorem kSt_ok {by_ : Nat} {z : Value} (ho : o.op = .store t x y) (ht : tyI P t = some (z, 1, by_)) (hx : opv n e x = some a) (hy : opv n e y = some b) (hr : kSt h a b = some g) : Trn0 P n e h o g := by
  unfold kSt at hr
  split at hr
  · obtain ⟨r, h1, hr⟩ := ob_some hr
    obtain ⟨h2, hr⟩ := grd_some hr
    obtain ⟨h3, hr⟩ := grd_some hr
    obtain ⟨vo, h4, hr⟩ := ob_some hr
    exact Trn0.got hr (Trn0.st ho ht hx hy h2 (VO.cs_of h1) (B.toL_set _ _ _) h4 (by rw [B.len]; exact h3))
  · cases hr
theorem kStA_ok {sz by_ : Nat} {z : Value} (ho : o.op = .store t x y) (ht : tyI P t = some (z, sz, by_)) (hx : opv n e x = some a) (hy : opv n e y = some b) (hr : kStA sz h a b = some g) : Trn0 P n e h o g := by
  unfold kStA at hr
  split at hr
  · obtain ⟨r, h1, hr⟩ := ob_some hr
    obtain ⟨h2, hr⟩ := grd_some hr
    obtain ⟨h3, hr⟩ := grd_some hr
    obtain ⟨h5, hr⟩ := grd_some hr
    obtain ⟨vo, h4, hr⟩ := ob_some hr
    refine Trn0.got hr (Trn0.stA ho ht hx hy h2 h3 (VO.cs_of h1) (B.toL_puts _ _ _ ?_) h4 (by rw [B.len]; exact h5))
    rw [Nat.eq_of_beq_eq_true h3]; exact Nat.le_of_ble_eq_true h5
  · cases hr
theorem Pur.cpy0 {el sz by_ k off dlen : Nat} {z : Value} {c : Cp} {c2 : Nat} (ho : o.op = .call { callee := .builtin .copy, args := #[x, y], argTypes := #[t, u] }) (hs : slI P t = some (el, sz, by_, z)) (hx : opv n e x = some (.o (.sl k off dlen c))) (hy : opv n e y = some (.o (.r (.slice none 0 c2)))) :
    Pur P n e h o (.o (.i .i64 (.ofNat 0))) 0 := fun σ E rh he hr => by
  obtain ⟨b, cp, _, _, _, h3⟩ : SR σ (.sl k off dlen c) (ev n E x) := he.opv hx
  have h4 : ev n E y = .slice none 0 c2 := he.opv hy
  refine ⟨.int .i64 (.ofNat 0), rfl, fun C L hP hn _ => fun w _ => ?_⟩
  subst hP hn
  obtain ⟨hu, hT⟩ := slI.info hs
  simp [execOp, ho, resolve, invoke, builtin, h3, h4, Builtin.copy_, run_underlying hu, Builtin.lenOf, tyI.size hT, Builtin.firstCells, storeCells, goInt]
theorem kCpy_ok {el sz by_ : Nat} {z : Value} (ho : o.op = .call { callee := .builtin .copy, args := #[x, y], argTypes := #[t, u] }) (hs : slI P t = some (el, sz, by_, z)) (hx : opv n e x = some a) (hy : opv n e y = some b) (hr : kCpy sz h a b = some (v, g)) : Trn P n e h o v g := by
  unfold kCpy at hr
  split at hr
  · obtain ⟨r, h1, hr⟩ := ob_some hr
    rw [fN_eq] at hr
    obtain ⟨h3, hr⟩ := grd_some hr
    obtain ⟨h4, hr⟩ := grd_some hr
    obtain ⟨w, h5, hf⟩ := ob_some hr
    have h3' : sz = 1 := Nat.eq_of_beq_eq_true h3
    subst h3'
    refine Trn.got hf (Trn.copyS ho hs hx hy (VO.cs_of h1) (B.toL_puts _ _ _ ?_) h5 (by rw [B.len]; exact h4))
    have := Nat.le_of_ble_eq_true h4
    rename_i l _ _ _
    have := Nat.min_le_left l.length ‹Nat›
    simp only [List.length_map, List.length_take]
    omega
  · obtain ⟨r, h1, hr⟩ := ob_some hr
    obtain ⟨r2, h2, hr⟩ := ob_some hr
    rw [fN_eq] at hr
    obtain ⟨h3, hr⟩ := grd_some hr
    obtain ⟨h4, hr⟩ := grd_some hr
    obtain ⟨h5, hr⟩ := grd_some hr
    obtain ⟨w, h6, hr⟩ := ob_some hr
    rw [B.rng_eq (Nat.le_of_ble_eq_true h4)] at h5 h6
    refine Trn.got hr (Trn.copyL ho hs hx hy (VO.cs_of h1) (VO.cs_of h2) h5 (B.toL_puts _ _ _ ?_) h6 (by rw [B.len]; exact h3) (by rw [B.len]; exact h4))
    have := Nat.le_of_ble_eq_true h3
    simp only [List.length_take, List.length_drop]
    omega
  · exact Trn.got hr (Pur.trn (Pur.cpy0 ho hs hx hy))
  · cases hr
end
end Go.Gx
