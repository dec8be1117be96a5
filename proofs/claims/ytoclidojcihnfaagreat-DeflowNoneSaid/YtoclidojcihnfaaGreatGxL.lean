/- Part of an evaluator of the program's calls, proved sound: what it yields, the program does in every world. No condition beyond those that each theorem names. -/
import Derived.Test.YtoclidojcihnfaaGreatGxK
set_option linter.unusedVariables false
set_option linter.unusedSimpArgs false
namespace Go.Gx
open Go.RowKit Go.Gv

/-! ### What operations come to: functions of values and memory -/
noncomputable def kInt (f : A2) (a b : V) : Option V := match a, b with
  | .o (.i k x), .o (.i j y) => cond (decide (k = j)) (ob (f.f k x y) fun r => some (.o r)) none
  | _, _ => none
noncomputable def kShf (op : BinOp) (a b : V) : Option V := match a, b with
  | .o (.i k x), .o (.i _ y) => ob (shft op k x y) fun r => some (.o r)
  | _, _ => none
noncomputable def kCat (a b : V) : Option V := match a, b with
  | .o (.s x), .o (.s y) => grd (Nat.ble (x.length + y.length) 9223372036854775807) (some (.o (.s (x ++ y))))
  | _, _ => none
noncomputable def kEqS (ne : Bool) (a b : V) : Option V := match a, b with
  | .o (.s x), .o (.s y) => fB (leq x y) fun r => some (.o (.b (cond ne (not r) r)))
  | _, _ => none
noncomputable def kEqB (ne : Bool) (a b : V) : Option V := match a, b with
  | .o (.b x), .o (.b y) => some (.o (.b (cond ne (not (bequ x y)) (bequ x y))))
  | _, _ => none
noncomputable def kEqA (P : Program) (t : Nat) (ne : Bool) (a b : V) : Option V := match a, b with
  | .a x, .a y => ob (eqV P 10000 t (.a x) (.a y)) fun r => some (.o (.b (cond ne (not r) r)))
  | _, _ => none
/-- A pointer, and nil. -/
noncomputable def kNil (ne : Bool) (a b : V) : Option V := match b with
  | .o (.r (.pointer none)) => match a with
    | .o (.p _ _) => some (.o (.b ne))
    | .o (.r (.pointer none)) => some (.o (.b (not ne)))
    | _ => none
  | _ => none
section
variable {P : Program} {n : Nat} {e : FE} {h : H} {o : Oper} {op : BinOp} {t u : Nat} {x y : Operand} {a b v : V}
theorem kInt_ok (ho : o.op = .binOp op t x y u) (hx : opv n e x = some a) (hy : opv n e y = some b) (hr : kInt (ari op) a b = some v) : Pur P n e h o v 0 := by
  unfold kInt at hr
  split at hr
  · rename_i k x' j y'
    by_cases hk : k = j
    · subst hk
      simp only [decide_true, cond_true] at hr
      obtain ⟨r, h1, h2⟩ := ob_some hr; cases h2; exact Pur.arith ho hx hy h1
    · simp [hk] at hr
  · cases hr
theorem kShf_ok (ho : o.op = .binOp op t x y u) (hx : opv n e x = some a) (hy : opv n e y = some b) (hr : kShf op a b = some v) : Pur P n e h o v 0 := by
  unfold kShf at hr
  split at hr
  · obtain ⟨r, h1, h2⟩ := ob_some hr; cases h2; exact Pur.shft ho hx hy h1
  · cases hr
theorem kCat_ok (ho : o.op = .binOp .add t x y u) (hx : opv n e x = some a) (hy : opv n e y = some b) (hr : kCat a b = some v) : Pur P n e h o v 0 := by
  unfold kCat at hr
  split at hr
  · obtain ⟨h1, h2⟩ := grd_some hr; cases h2; exact Pur.cat ho hx hy h1
  · cases hr
theorem kEqS_ok {ne : Bool} (ho : o.op = .binOp (cond ne .neq .eql) t x y u) (hx : opv n e x = some a) (hy : opv n e y = some b) (hr : kEqS ne a b = some v) : Pur P n e h o v 0 := by
  unfold kEqS at hr
  split at hr
  · rw [fB_eq] at hr; cases hr
    cases ne with
    | true => exact Pur.neS ho hx hy
    | false => exact Pur.eqS ho hx hy
  · cases hr
theorem kEqB_ok {ne : Bool} (ho : o.op = .binOp (cond ne .neq .eql) t x y u) (hu : P.underlying t = some .bool) (hx : opv n e x = some a) (hy : opv n e y = some b) (hr : kEqB ne a b = some v) : Pur P n e h o v 0 := by
  unfold kEqB at hr
  split at hr
  · cases hr
    cases ne with
    | true => exact Pur.neB ho hu hx hy
    | false => exact Pur.eqB ho hu hx hy
  · cases hr
theorem kEqA_ok {ne : Bool} (ho : o.op = .binOp (cond ne .neq .eql) t x y u) (hg : P.eqGuardType P.depth t = false) (hx : opv n e x = some a) (hy : opv n e y = some b) (hr : kEqA P t ne a b = some v) : Pur P n e h o v 0 := by
  unfold kEqA at hr
  split at hr
  · obtain ⟨r, h1, h2⟩ := ob_some hr
    cases h2
    cases ne with
    | true => exact Pur.neA ho hg hx hy h1
    | false => exact Pur.eqA ho hg hx hy h1
  · cases hr
theorem kNil_ok {ne : Bool} {el : Nat} (ho : o.op = .binOp (cond ne .neq .eql) t x y u) (hu : P.underlying t = some (.pointer el)) (hx : opv n e x = some a) (hy : opv n e y = some b) (hr : kNil ne a b = some v) : Pur P n e h o v 0 := by
  unfold kNil at hr
  split at hr
  · split at hr
    · cases hr
      cases ne with
      | true => exact Pur.nenil ho hu hx hy (.inl ⟨_, _, rfl, rfl⟩)
      | false => exact Pur.eqnil ho hu hx hy (.inl ⟨_, _, rfl, rfl⟩)
    · cases hr
      cases ne with
      | true => exact Pur.nenil ho hu hx hy (.inr ⟨rfl, rfl⟩)
      | false => exact Pur.eqnil ho hu hx hy (.inr ⟨rfl, rfl⟩)
    · cases hr
  · cases hr
end
/-- An operation on two values; which, is told by its kind and its type alone. -/
structure A2V where
  f : V → V → Option V
noncomputable def bop (P : Program) (op : BinOp) (t : Nat) : A2V := match P.underlying t with
  | some (.int _) => match op with
    | .shl => ⟨kShf .shl⟩
    | .shr => ⟨kShf .shr⟩
    | op => ⟨kInt (ari op)⟩
  | some .string => match op with
    | .add => ⟨kCat⟩
    | .eql => ⟨kEqS false⟩
    | .neq => ⟨kEqS true⟩
    | _ => ⟨fun _ _ => none⟩
  | some .bool => match op with
    | .eql => ⟨kEqB false⟩
    | .neq => ⟨kEqB true⟩
    | _ => ⟨fun _ _ => none⟩
  | some (.pointer _) => match op with
    | .eql => ⟨kNil false⟩
    | .neq => ⟨kNil true⟩
    | _ => ⟨fun _ _ => none⟩
  | some (.struct _) => match P.eqGuardType P.depth t with
    | false => match op with
      | .eql => ⟨kEqA P t false⟩
      | .neq => ⟨kEqA P t true⟩
      | _ => ⟨fun _ _ => none⟩
    | true => ⟨fun _ _ => none⟩
  | some (.array _ _) => match P.eqGuardType P.depth t with
    | false => match op with
      | .eql => ⟨kEqA P t false⟩
      | .neq => ⟨kEqA P t true⟩
      | _ => ⟨fun _ _ => none⟩
    | true => ⟨fun _ _ => none⟩
  | _ => ⟨fun _ _ => none⟩
theorem bop_ok {P : Program} {n : Nat} {e : FE} {h : H} {o : Oper} {op : BinOp} {t u : Nat} {x y : Operand} {a b v : V} (ho : o.op = .binOp op t x y u) (hx : opv n e x = some a) (hy : opv n e y = some b) (hr : (bop P op t).f a b = some v) : Pur P n e h o v 0 := by
  unfold bop at hr
  split at hr
  · split at hr
    · exact kShf_ok ho hx hy hr
    · exact kShf_ok ho hx hy hr
    · exact kInt_ok ho hx hy hr
  · split at hr
    · exact kCat_ok ho hx hy hr
    · exact kEqS_ok (ne := false) ho hx hy hr
    · exact kEqS_ok (ne := true) ho hx hy hr
    · cases hr
  · rename_i hu
    split at hr
    · exact kEqB_ok (ne := false) ho hu hx hy hr
    · exact kEqB_ok (ne := true) ho hu hx hy hr
    · cases hr
  · rename_i hu
    split at hr
    · exact kNil_ok (ne := false) ho hu hx hy hr
    · exact kNil_ok (ne := true) ho hu hx hy hr
    · cases hr
  · split at hr
    · rename_i hg
      split at hr
      · exact kEqA_ok (ne := false) ho hg hx hy hr
      · exact kEqA_ok (ne := true) ho hg hx hy hr
      · cases hr
    · cases hr
  · split at hr
    · rename_i hg
      split at hr
      · exact kEqA_ok (ne := false) ho hg hx hy hr
      · exact kEqA_ok (ne := true) ho hg hx hy hr
      · cases hr
    · cases hr
  · cases hr
/-! Memory -/
noncomputable def kLd (h : H) (a : V) : Option V := match a with
  | .o (.p k off) => ob (h.get k).row fun b => ob (b.get? off) fun s => some (.o s)
  | _ => none
noncomputable def kLdA (sz : Nat) (h : H) (a : V) : Option V := match a with
  | .o (.p k off) => ob (h.get k).row fun b => grd (Nat.ble (off + sz) b.n) (some (.a (b.rng off sz)))
  | _ => none
/-- The block that a pointer leads to, and one more. -/
noncomputable def pb (a : V) : Nat := match a with
  | .o (.p k _) => Nat.succ k
  | .o (.sl k _ _ _) => Nat.succ k
  | .o (.m k) => Nat.succ k
  | _ => 0
noncomputable def kFld (d : Nat) (a : V) : Option V := match a with
  | .o (.p k off) => fN (off + d) fun off => some (.o (.p k off))
  | _ => none
noncomputable def kIdx (sz : Nat) (a b : V) : Option V := match a, b with
  | .o (.sl k off len _), .o (.i _ (.ofNat m)) => grd (Nat.blt m len) (fN (off + m * sz) fun off => some (.o (.p k off)))
  | _, _ => none
noncomputable def kIdxA (len sz : Nat) (a b : V) : Option V := match a, b with
  | .o (.p k off), .o (.i _ (.ofNat m)) => grd (Nat.blt m len) (fN (off + m * sz) fun off => some (.o (.p k off)))
  | _, _ => none
noncomputable def kChr (a b : V) : Option V := match a, b with
  | .o (.s l), .o (.i _ (.ofNat m)) => match l[m]? with
    | some c => some (.o (.i .u8 (.ofNat c)))
    | none => none
  | _, _ => none
noncomputable def kIxV (P : Program) (len el sz : Nat) (a b : V) : Option V := match a, b with
  | .a cs, .o (.i _ (.ofNat m)) => grd (Nat.blt m len) (prt P el cs (m * sz))
  | _, _ => none
noncomputable def kCv (k : IntKind) (a : V) : Option V := match a with
  | .o (.i _ z) => fI (wr k z) fun z => some (.o (.i k z))
  | _ => none
noncomputable def kB2S (h : H) (a : V) : Option V := match a with
  | .o (.sl k off len _) => ob (h.get k).row fun b => grd (Nat.ble (off + len) b.n) (ob (byts (b.rng off len)) fun l => some (.o (.s l)))
  | .o (.r (.slice none _ _)) => some (.o (.s []))
  | _ => none
noncomputable def kPick (c : V) (x y : Option V) : Option V := match c with
  | .o (.b b) => cond b x y
  | _ => none
noncomputable def kNilc (a : V) : Option V := match a with
  | .o (.p k off) => some (.o (.p k off))
  | _ => none
noncomputable def kExt (i : Nat) (a : V) : Option V := match a with
  | .t l => ob l[i]? fun v => some v
  | _ => none
noncomputable def kNot (a : V) : Option V := match a with
  | .o (.b b) => some (.o (.b (not b)))
  | _ => none
noncomputable def kNeg (a : V) : Option V := match a with
  | .o (.i k a) => fI (wr k (isub (.ofNat 0) a)) fun z => some (.o (.i k z))
  | _ => none
noncomputable def kInv (a : V) : Option V := match a with
  | .o (.i k a) => fI (ixor k (if k.signed then -1 else k.max) a) fun z => some (.o (.i k z))
  | _ => none
noncomputable def kMin (mx : Bool) (a b : V) : Option V := match a, b with
  | .o (.i k a), .o (.i j b) => cond (decide (k = j)) (fI (cond (bequ (ilt a b) mx) b a) fun z => some (.o (.i k z))) none
  | _, _ => none
noncomputable def kLenS (a : V) : Option V := match a with
  | .o (.s l) => some (.o (.i .i64 (.ofNat l.length)))
  | _ => none
noncomputable def kLenL (a : V) : Option V := match a with
  | .o (.sl _ _ len _) => some (.o (.i .i64 (.ofNat len)))
  | .o (.r (.slice none 0 _)) => some (.o (.i .i64 (.ofNat 0)))
  | _ => none
/-- A bound that is given, or is not. -/
noncomputable def kBnd (a : Option V) (d : Nat) : Option Nat := match a with
  | none => some d
  | some (.o (.i _ (.ofNat m))) => fN m fun m => some m
  | _ => none
noncomputable def kSlS (a : V) (lo hi : Option V) : Option V := match a with
  | .o (.s l) => ob (kBnd lo 0) fun i => ob (kBnd hi l.length) fun j => grd (Nat.ble i j) (grd (Nat.ble j l.length) (some (.o (.s ((l.drop i).take (j - i))))))
  | _ => none
noncomputable def kSlL (sz : Nat) (a : V) (lo hi mx : Option V) : Option V := match a with
  | .o (.sl k off len (.kn c)) => ob (kBnd lo 0) fun i => ob (kBnd hi len) fun j => ob (kBnd mx c) fun m => grd (or mx.isNone hi.isSome) (grd (Nat.ble i j) (grd (Nat.ble j m) (grd (Nat.ble m c)
        (fN (cond (Nat.beq m i) off (off + i * sz)) fun a => fN (j - i) fun l => fN (m - i) fun c => some (.o (.sl k a l (.kn c)))))))
  | .o (.sl k off len (.un sh)) => match mx with
    | none => ob (kBnd lo 0) fun i => ob (kBnd hi len) fun j => grd (Nat.blt i j) (grd (Nat.ble j len) (fN (off + i * sz) fun a => fN (j - i) fun l => fN (sh + i) fun s => some (.o (.sl k a l (.un s)))))
    | some _ => none
  | _ => none
noncomputable def kSlA (len sz : Nat) (a : V) (lo hi mx : Option V) : Option V := match a with
  | .o (.p k off) => ob (kBnd lo 0) fun i => ob (kBnd hi len) fun j => ob (kBnd mx len) fun m => grd (or mx.isNone hi.isSome) (grd (Nat.ble i j) (grd (Nat.ble j m) (grd (Nat.ble m len)
          (fN (cond (Nat.beq m i) off (off + i * sz)) fun a => fN (j - i) fun l => fN (m - i) fun c => some (.o (.sl k a l (.kn c)))))))
  | _ => none
section
variable {P : Program} {n : Nat} {e : FE} {h : H} {o : Oper} {t u : Nat} {x y : Operand} {a b v : V}
theorem kLd_ok (ho : o.op = .load t x) (hag : aggI P t = some false) (hx : opv n e x = some a) (hr : kLd h a = some v) : Pur P n e h o v (pb a) := by
  unfold kLd at hr
  split at hr
  · obtain ⟨r, h1, h2⟩ := ob_some hr
    obtain ⟨s, h3, h4⟩ := ob_some h2
    cases h4
    exact Pur.ld ho hag hx (VO.cs_of h1) (B.get?_of h3)
  · cases hr
theorem kLdA_ok {sz by_ : Nat} {z : Value} (ho : o.op = .load t x) (hag : aggI P t = some true) (hT : tyI P t = some (z, sz, by_)) (hx : opv n e x = some a) (hr : kLdA sz h a = some v) : Pur P n e h o v (pb a) := by
  unfold kLdA at hr
  split at hr
  · obtain ⟨r, h1, h2⟩ := ob_some hr
    obtain ⟨h3, h4⟩ := grd_some h2
    cases h4
    rw [B.rng_eq (Nat.le_of_ble_eq_true h3)]
    exact Pur.ldA ho hag hT hx (VO.cs_of h1) (by rw [B.len]; exact h3)
  · cases hr
theorem kFld_ok {s f d : Nat} (ho : o.op = .fieldAddr s x f) (hf : fldI P s f = some d) (hx : opv n e x = some a) (hr : kFld d a = some v) : Pur P n e h o v 0 := by
  unfold kFld at hr
  split at hr
  · rw [fN_eq] at hr; cases hr; exact Pur.fld ho hx hf
  · cases hr
theorem kIdx_ok {el sz by_ : Nat} {z : Value} (ho : o.op = .indexAddr t x y) (hs : slI P t = some (el, sz, by_, z)) (hx : opv n e x = some a) (hy : opv n e y = some b) (hr : kIdx sz a b = some v) : Pur P n e h o v 0 := by
  unfold kIdx at hr
  split at hr
  · obtain ⟨h1, h2⟩ := grd_some hr
    rw [fN_eq] at h2; cases h2
    exact Pur.idx ho hs hx hy h1
  · cases hr
theorem kIdxA_ok {len el sz : Nat} (ho : o.op = .indexAddr t x y) (hs : arI P t = some (len, el, sz)) (hx : opv n e x = some a) (hy : opv n e y = some b) (hr : kIdxA len sz a b = some v) : Pur P n e h o v 0 := by
  unfold kIdxA at hr
  split at hr
  · obtain ⟨h1, h2⟩ := grd_some hr
    rw [fN_eq] at h2; cases h2
    exact Pur.idxA ho hs hx hy h1
  · cases hr
theorem kChr_ok (ho : o.op = .index t x y) (hs : P.underlying t = some .string) (hx : opv n e x = some a) (hy : opv n e y = some b) (hr : kChr a b = some v) : Pur P n e h o v 0 := by
  unfold kChr at hr
  split at hr
  · split at hr
    · rename_i c hc; cases hr; exact Pur.chr ho hs hx hy hc
    · cases hr
  · cases hr
theorem kIxV_ok {len el sz : Nat} (ho : o.op = .index t x y) (hs : arI P t = some (len, el, sz)) (hx : opv n e x = some a) (hy : opv n e y = some b) (hr : kIxV P len el sz a b = some v) : Pur P n e h o v 0 := by
  unfold kIxV at hr
  split at hr
  · obtain ⟨h1, h2⟩ := grd_some hr
    exact Pur.idxV ho hs hx hy h1 h2
  · cases hr
theorem kCv_ok {k : IntKind} (ho : o.op = .convert t u x) (hu : P_int P u = some k) (ht : (P.underlying t).isSome = true) (hx : opv n e x = some a) (hr : kCv k a = some v) : Pur P n e h o v 0 := by
  unfold kCv at hr
  split at hr
  · rw [fI_eq] at hr; cases hr; exact Pur.cv ho hu ht hx
  · cases hr
theorem kB2S_ok {el : Nat} (ho : o.op = .convert t u x) (hs : P.underlying t = some (.slice el)) (he8 : P.underlying el = some (.int .u8)) (hu : P.underlying u = some .string) (hx : opv n e x = some a) (hr : kB2S h a = some v) : Pur P n e h o v (pb a) := by
  unfold kB2S at hr
  split at hr
  · obtain ⟨r, h1, h2⟩ := ob_some hr
    obtain ⟨h3, h4⟩ := grd_some h2
    obtain ⟨l, h5, h6⟩ := ob_some h4
    cases h6
    rw [B.rng_eq (Nat.le_of_ble_eq_true h3)] at h5
    exact Pur.b2s ho hs he8 hu hx (VO.cs_of h1) (by rw [B.len]; exact h3) h5
  · cases hr; exact Pur.b2s0 ho hs he8 hu hx
  · cases hr
theorem kPick_ok {c : Operand} {cv : V} (ho : o.op = .pick c x y) (hc : opv n e c = some cv) (hr : kPick cv (opv n e x) (opv n e y) = some v) : Pur P n e h o v 0 := by
  unfold kPick at hr
  split at hr
  · rename_i b
    refine Pur.pick ho hc ?_
    cases b <;> exact hr
  · cases hr
theorem kNilc_ok (ho : o.op = .nilCheck x) (hx : opv n e x = some a) (hr : kNilc a = some v) : Pur P n e h o v 0 := by
  unfold kNilc at hr
  split at hr
  · cases hr; exact Pur.nilc ho hx
  · cases hr
theorem kExt_ok {i : Nat} (ho : o.op = .extract x i) (hx : opv n e x = some a) (hr : kExt i a = some v) : Pur P n e h o v 0 := by
  unfold kExt at hr
  split at hr
  · obtain ⟨w, h1, h2⟩ := ob_some hr; cases h2; exact Pur.extract ho hx h1
  · cases hr
theorem kNot_ok (ho : o.op = .unOp .not t x) (hx : opv n e x = some a) (hr : kNot a = some v) : Pur P n e h o v 0 := by
  unfold kNot at hr
  split at hr
  · cases hr; exact Pur.not ho hx
  · cases hr
theorem kNeg_ok (ho : o.op = .unOp .neg t x) (hx : opv n e x = some a) (hr : kNeg a = some v) : Pur P n e h o v 0 := by
  unfold kNeg at hr
  split at hr
  · rw [fI_eq] at hr; cases hr; exact Pur.neg ho hx
  · cases hr
theorem kInv_ok (ho : o.op = .unOp .xor t x) (hx : opv n e x = some a) (hr : kInv a = some v) : Pur P n e h o v 0 := by
  unfold kInv at hr
  split at hr
  · rw [fI_eq] at hr; cases hr; exact Pur.inv ho hx
  · cases hr
theorem kMin_ok {mx : Bool} {ts : Array TypeId} (ho : o.op = .call { callee := .builtin (cond mx .max .min), args := #[x, y], argTypes := ts }) (hx : opv n e x = some a) (hy : opv n e y = some b) (hr : kMin mx a b = some v) : Pur P n e h o v 0 := by
  unfold kMin at hr
  split at hr
  · rename_i k a' j b'
    by_cases hk : k = j
    · subst hk
      simp only [decide_true, cond_true, fI_eq] at hr
      cases hr
      cases mx with
      | true =>
        have := Pur.max (P := P) (h := h) ho hx hy
        cases hi : ilt a' b' <;> rw [hi] at this <;> exact this
      | false =>
        have := Pur.min (P := P) (h := h) ho hx hy
        cases hi : ilt a' b' <;> rw [hi] at this <;> exact this
    · simp [hk] at hr
  · cases hr
theorem kLenS_ok (ho : o.op = .call { callee := .builtin .len, args := #[x], argTypes := #[t] }) (hs : P.underlying t = some .string) (hx : opv n e x = some a) (hr : kLenS a = some v) : Pur P n e h o v 0 := by
  unfold kLenS at hr
  split at hr
  · cases hr; exact Pur.lenS ho hs hx
  · cases hr
theorem kLenL_ok {el sz by_ : Nat} {z : Value} (ho : o.op = .call { callee := .builtin .len, args := #[x], argTypes := #[t] }) (hs : slI P t = some (el, sz, by_, z)) (hx : opv n e x = some a) (hr : kLenL a = some v) : Pur P n e h o v 0 := by
  unfold kLenL at hr
  split at hr
  · cases hr; exact Pur.lenL ho hs hx
  · cases hr; exact Pur.lenL0 ho hs hx
  · cases hr
/-- An operand that is given, or is not. -/
noncomputable def opo (n : Nat) (e : FE) (x : Option Operand) : Option (Option V) := Option.rec (motive := fun _ => Option (Option V)) (some none) (fun x => ob (opv n e x) fun v => some (some v)) x
theorem opo_bnd {x : Option Operand} {a : Option V} {d m : Nat} (hx : opo n e x = some a) (hb : kBnd a d = some m) : bnd n e x d = some m := by
  cases x with
  | none => cases hx; exact hb
  | some x =>
    obtain ⟨v, h1, h2⟩ := ob_some hx
    cases h2
    unfold kBnd at hb
    unfold bnd
    simp only [h1]
    split at hb
    · rename_i h; cases h
    · rename_i h; cases h; exact hb
    · cases hb
theorem opo_none {x : Option Operand} {a : Option V} (hx : opo n e x = some a) : a.isNone = x.isNone := by
  cases x with
  | none => cases hx; rfl
  | some x => obtain ⟨v, h1, h2⟩ := ob_some hx; cases h2; rfl
theorem opo_isSome {x : Option Operand} {a : Option V} (hx : opo n e x = some a) : a.isSome = x.isSome := by
  cases x with
  | none => cases hx; rfl
  | some x => obtain ⟨v, h1, h2⟩ := ob_some hx; cases h2; rfl
variable {lo hi mx : Option Operand} {l' h' m' : Option V}
theorem or_hyp (hh : opo n e hi = some h') (hm : opo n e mx = some m') (h4 : or m'.isNone h'.isSome = true) : mx = none ∨ hi.isSome = true := by
  rw [opo_none hm, opo_isSome hh] at h4
  cases mx with
  | none => exact .inl rfl
  | some _ => exact .inr (by simpa using h4)
theorem kSlS_ok (ho : o.op = .slice t x lo hi none) (hs : P.underlying t = some .string) (hx : opv n e x = some a) (hl : opo n e lo = some l') (hh : opo n e hi = some h') (hr : kSlS a l' h' = some v) : Pur P n e h o v 0 := by
  unfold kSlS at hr
  split at hr
  · obtain ⟨i, h1, hr⟩ := ob_some hr
    obtain ⟨j, h2, hr⟩ := ob_some hr
    obtain ⟨h3, hr⟩ := grd_some hr
    obtain ⟨h4, hr⟩ := grd_some hr
    cases hr
    exact Pur.sub ho hs hx (opo_bnd hl h1) (opo_bnd hh h2) h3 h4
  · cases hr
theorem kSlL_ok {el sz by_ : Nat} {z : Value} (ho : o.op = .slice t x lo hi mx) (hs : slI P t = some (el, sz, by_, z)) (hx : opv n e x = some a) (hl : opo n e lo = some l') (hh : opo n e hi = some h') (hm : opo n e mx = some m') (hr : kSlL sz a l' h' m' = some v) : Pur P n e h o v 0 := by
  unfold kSlL at hr
  split at hr
  · obtain ⟨i, h1, hr⟩ := ob_some hr
    obtain ⟨j, h2, hr⟩ := ob_some hr
    obtain ⟨m, h3, hr⟩ := ob_some hr
    obtain ⟨h4, hr⟩ := grd_some hr
    obtain ⟨h5, hr⟩ := grd_some hr
    obtain ⟨h6, hr⟩ := grd_some hr
    obtain ⟨h7, hr⟩ := grd_some hr
    simp only [fN_eq] at hr
    cases hr
    exact Pur.slc ho hs hx (opo_bnd hl h1) (opo_bnd hh h2) (opo_bnd hm h3) (or_hyp hh hm h4) h5 h6 h7
  · split at hr
    · obtain ⟨i, h1, hr⟩ := ob_some hr
      obtain ⟨j, h2, hr⟩ := ob_some hr
      obtain ⟨h5, hr⟩ := grd_some hr
      obtain ⟨h6, hr⟩ := grd_some hr
      simp only [fN_eq] at hr
      cases hr
      have : mx = none := by
        have := opo_none hm
        cases mx with
        | none => rfl
        | some _ => cases this
      subst this
      exact Pur.slu ho hs hx (opo_bnd hl h1) (opo_bnd hh h2) h5 h6
    · cases hr
  · cases hr
theorem kSlA_ok {ar len el sz : Nat} (ho : o.op = .slice t x lo hi mx) (hs : P.underlying t = some (.pointer ar) ∨ t = ar) (ha : arI P ar = some (len, el, sz)) (hx : opv n e x = some a) (hl : opo n e lo = some l') (hh : opo n e hi = some h') (hm : opo n e mx = some m') (hr : kSlA len sz a l' h' m' = some v) : Pur P n e h o v 0 := by
  unfold kSlA at hr
  split at hr
  · obtain ⟨i, h1, hr⟩ := ob_some hr
    obtain ⟨j, h2, hr⟩ := ob_some hr
    obtain ⟨m, h3, hr⟩ := ob_some hr
    obtain ⟨h4, hr⟩ := grd_some hr
    obtain ⟨h5, hr⟩ := grd_some hr
    obtain ⟨h6, hr⟩ := grd_some hr
    obtain ⟨h7, hr⟩ := grd_some hr
    simp only [fN_eq] at hr
    cases hr
    exact Pur.slA ho hs ha hx (opo_bnd hl h1) (opo_bnd hh h2) (opo_bnd hm h3) (or_hyp hh hm h4) h5 h6 h7
  · cases hr
end
end Go.Gx
