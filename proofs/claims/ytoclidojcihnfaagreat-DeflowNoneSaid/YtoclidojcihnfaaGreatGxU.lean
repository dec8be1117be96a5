/- Part of an evaluator of the program's calls, proved sound: what it yields, the program does in every world. No condition beyond those that each theorem names. -/
import Derived.Test.YtoclidojcihnfaaGreatGxT
set_option linter.unusedVariables false
set_option linter.unusedSimpArgs false
namespace Go.Gx
open Go.RowKit Go.Gv

/-! ### Regions that draw their order -/
/-- Where a region stands: the frame, the memory, the blocks that were read, whether the memory is as at the beginning, and what it was behind what turned it. -/
structure DS where
  e : FE
  h : H
  rd : List Nat
  cl : Bool
  gn : List H
/-- The block that an operation reads: where it is told by a value. -/
noncomputable def rdo (n : Nat) (e : FE) (op : Op) : Option Nat := match op with
  | .load _ x => ob (opv n e x) fun a => some (pb a)
  | .convert _ _ x => ob (opv n e x) fun a => some (pb a)
  | .lookup _ x _ _ => ob (opv n e x) fun a => some (pb a)
  | _ => some 0
noncomputable def addr (k : Nat) (l : List Nat) : List Nat := Nat.rec (motive := fun _ => List Nat) l (fun k _ => k :: l) k
structure Ik : Type 1 where
  run : {β : Type} → CF → H → (DS → Option β) → DS → Option β
noncomputable def nx (v : V) : Bool := V.rec (motive_1 := fun _ => Bool) (motive_2 := fun _ => Unit) (fun _ => true) (fun _ => true) (fun _ _ => true) (fun _ => false) () (fun _ _ _ _ => ()) v
theorem nx_ne {v : V} (h : nx v = true) : ∀ x, v ≠ .x x := by rintro x rfl; cases h
/-- A value that only reads. -/
structure VF where
  run : FE → H → Option V
noncomputable def pur0 (P : Program) (n : Nat) (o : Oper) : VF := match o.op with
  | .move x => ⟨fun e _ => opv n e x⟩
  | .assign x => ⟨fun e _ => opv n e x⟩
  | .load t x => match aggI P t with
    | some false => ⟨fun e h => ob (opv n e x) fun a => kLd h a⟩
    | some true => match tyI P t with
      | some q => ⟨fun e h => ob (opv n e x) fun a => kLdA q.2.1 h a⟩
      | none => ⟨fun _ _ => none⟩
    | none => ⟨fun _ _ => none⟩
  | .binOp op t x y _ => ⟨fun e _ => ob (opv n e x) fun a => ob (opv n e y) fun b => (bop P op t).f a b⟩
  | .indexAddr t x y => match slI P t with
    | some q => ⟨fun e _ => ob (opv n e x) fun a => ob (opv n e y) fun b => kIdx q.2.1 a b⟩
    | none => match arI P t with
      | some q => ⟨fun e _ => ob (opv n e x) fun a => ob (opv n e y) fun b => kIdxA q.1 q.2.2 a b⟩
      | none => ⟨fun _ _ => none⟩
  | .index t x y => match P.underlying t with
    | some .string => ⟨fun e _ => ob (opv n e x) fun a => ob (opv n e y) fun b => kChr a b⟩
    | _ => match arI P t with
      | some q => ⟨fun e _ => ob (opv n e x) fun a => ob (opv n e y) fun b => kIxV P q.1 q.2.1 q.2.2 a b⟩
      | none => ⟨fun _ _ => none⟩
  | .pick c x y => ⟨fun e _ => ob (opv n e c) fun c => kPick c (opv n e x) (opv n e y)⟩
  | .fieldAddr s x f => match fldI P s f with
    | some d => ⟨fun e _ => ob (opv n e x) fun a => kFld d a⟩
    | none => ⟨fun _ _ => none⟩
  | .nilCheck x => ⟨fun e _ => ob (opv n e x) fun a => kNilc a⟩
  | .extract x i => ⟨fun e _ => ob (opv n e x) fun a => kExt i a⟩
  | .convert t u x => match P.underlying t with
    | some (.slice el) => match P.underlying el with
      | some (.int .u8) => match P.underlying u with
        | some .string => ⟨fun e h => ob (opv n e x) fun a => kB2S h a⟩
        | _ => ⟨fun _ _ => none⟩
      | _ => ⟨fun _ _ => none⟩
    | some (.int _) => match P_int P u with
      | some k => ⟨fun e _ => ob (opv n e x) fun a => kCv k a⟩
      | none => ⟨fun _ _ => none⟩
    | _ => ⟨fun _ _ => none⟩
  | .slice t x lo hi mx => match P.underlying t with
    | some .string => match mx with
      | none => ⟨fun e _ => ob (opv n e x) fun a => ob (opo n e lo) fun l => ob (opo n e hi) fun h => kSlS a l h⟩
      | some _ => ⟨fun _ _ => none⟩
    | some (.pointer ar) => match arI P ar with
      | some q => ⟨fun e _ => ob (opv n e x) fun a => ob (opo n e lo) fun l => ob (opo n e hi) fun h => ob (opo n e mx) fun m => kSlA q.1 q.2.2 a l h m⟩
      | none => ⟨fun _ _ => none⟩
    | some (.array _ _) => match arI P t with
      | some q => ⟨fun e _ => ob (opv n e x) fun a => ob (opo n e lo) fun l => ob (opo n e hi) fun h => ob (opo n e mx) fun m => kSlA q.1 q.2.2 a l h m⟩
      | none => ⟨fun _ _ => none⟩
    | _ => match slI P t with
      | some q => ⟨fun e _ => ob (opv n e x) fun a => ob (opo n e lo) fun l => ob (opo n e hi) fun h => ob (opo n e mx) fun m => kSlL q.2.1 a l h m⟩
      | none => ⟨fun _ _ => none⟩
  | .lookup t x y ok => match P.underlying t with
    | some (.map kt et) => match tyI P et with
      | some q => match zV0 q.1 with
        | some z => ⟨fun e h => ob (opv n e x) fun m => ob (opv n e y) fun key => kLk P kt z ok h m key⟩
        | none => ⟨fun _ _ => none⟩
      | none => ⟨fun _ _ => none⟩
    | _ => ⟨fun _ _ => none⟩
  | .build t ps => match tyI P t with
    | some q => match zSs q.1.cells.toList with
      | some zs => match arI P t with
        | some r => ⟨fun e _ => ob (opvs n e (ps.toList.map (·.2))) fun vs => kBldA r.2.2 zs (ps.toList.map (·.1)) vs⟩
        | none => match stI P t with
          | some pl => ⟨fun e _ => ob (opvs n e (ps.toList.map (·.2))) fun vs => kBldS pl zs (ps.toList.map (·.1)) vs⟩
          | none => ⟨fun _ _ => none⟩
      | none => ⟨fun _ _ => none⟩
    | none => ⟨fun _ _ => none⟩
  | .makeFunc (.func f) fs cs => ⟨fun e _ => ob (opvs n e fs.toList) fun a => ob (opvs n e cs.toList) fun b => kMkf f a b⟩
  | .unOp u t x => match u with
    | .not => ⟨fun e _ => ob (opv n e x) fun a => kNot a⟩
    | .neg => ⟨fun e _ => ob (opv n e x) fun a => kNeg a⟩
    | .xor => ⟨fun e _ => ob (opv n e x) fun a => kInv a⟩
    | _ => ⟨fun _ _ => none⟩
  | .call c => match c with
    | ⟨.builtin .len, ⟨[x]⟩, ⟨[t]⟩⟩ => match arI P t with
      | some q => ⟨fun _ _ => some (.o (.i .i64 (.ofNat q.1)))⟩
      | none => match P.underlying t with
        | some .string => ⟨fun e _ => ob (opv n e x) fun a => kLenS a⟩
        | _ => match slI P t with
          | some _ => ⟨fun e _ => ob (opv n e x) fun a => kLenL a⟩
          | none => ⟨fun _ _ => none⟩
    | ⟨.builtin .min, ⟨[x, y]⟩, _⟩ => ⟨fun e _ => ob (opv n e x) fun a => ob (opv n e y) fun b => kMin false a b⟩
    | ⟨.builtin .max, ⟨[x, y]⟩, _⟩ => ⟨fun e _ => ob (opv n e x) fun a => ob (opv n e y) fun b => kMin true a b⟩
    | _ => ⟨fun _ _ => none⟩
  | _ => ⟨fun _ _ => none⟩
/-- What is asked of a value that only reads: it reads at most the block that 'rdo' tells. -/
def PurF (P : Program) (n : Nat) (o : Oper) (f : VF) : Prop := ∀ e h v, f.run e h = some v → ∃ rd, Pur P n e h o v rd ∧ ∀ r, rdo n e o.op = some r → rd = r
theorem purF_none {P : Program} {n : Nat} {o : Oper} : PurF P n o ⟨fun _ _ => none⟩ := fun e h v hv => by cases hv
theorem pur0_ok {P : Program} {n : Nat} {o : Oper} : PurF P n o (pur0 P n o) := by
  have z : ∀ {e : FE} {op : Op}, o.op = op → (∀ t x, op ≠ .load t x) → (∀ t u x, op ≠ .convert t u x) → (∀ t x y b, op ≠ .lookup t x y b) → ∀ r, rdo n e o.op = some r → 0 = r := by
    intro e op ho h1 h2 h3 r hr
    rw [ho] at hr
    unfold rdo at hr
    split at hr
    · exact absurd rfl (h1 _ _)
    · exact absurd rfl (h2 _ _ _)
    · exact absurd rfl (h3 _ _ _ _)
    · cases hr; rfl
  have l1 : ∀ {e : FE} {t : Nat} {x : Operand} {a : V}, o.op = .load t x → opv n e x = some a → ∀ r, rdo n e o.op = some r → pb a = r := by
    intro e t x a ho hx r hr
    rw [ho] at hr
    obtain ⟨a', h1, h2⟩ := ob_some hr
    rw [hx] at h1; cases h1; cases h2; rfl
  have l2 : ∀ {e : FE} {t u : Nat} {x : Operand} {a : V}, o.op = .convert t u x → opv n e x = some a → ∀ r, rdo n e o.op = some r → pb a = r := by
    intro e t u x a ho hx r hr
    rw [ho] at hr
    obtain ⟨a', h1, h2⟩ := ob_some hr
    rw [hx] at h1; cases h1; cases h2; rfl
  have l3 : ∀ {e : FE} {t : Nat} {x y : Operand} {b : Bool} {a : V}, o.op = .lookup t x y b → opv n e x = some a → ∀ r, rdo n e o.op = some r → pb a = r := by
    intro e t x y b a ho hx r hr
    rw [ho] at hr
    obtain ⟨a', h1, h2⟩ := ob_some hr
    rw [hx] at h1; cases h1; cases h2; rfl
  unfold pur0
  split
  · rename_i x ho; exact fun e h v hv => ⟨_, Pur.move ho hv, z ho (by simp) (by simp) (by simp)⟩
  · rename_i x ho; exact fun e h v hv => ⟨_, Pur.assign ho hv, z ho (by simp) (by simp) (by simp)⟩
  · rename_i t x ho
    split
    · rename_i hag; exact fun e h v hv => ob1 hv fun a h1 h2 => ⟨_, kLd_ok ho hag h1 h2, l1 ho h1⟩
    · rename_i hag
      split
      · rename_i q hq; exact fun e h v hv => ob1 hv fun a h1 h2 => ⟨_, kLdA_ok ho hag hq h1 h2, l1 ho h1⟩
      · exact purF_none
    · exact purF_none
  · rename_i op t x y u ho; exact fun e h v hv => ob1 hv fun a h1 h2 => ob1 h2 fun b h3 h4 => ⟨_, bop_ok ho h1 h3 h4, z ho (by simp) (by simp) (by simp)⟩
  · rename_i t x y ho
    split
    · rename_i q hq; exact fun e h v hv => ob1 hv fun a h1 h2 => ob1 h2 fun b h3 h4 => ⟨_, kIdx_ok ho hq h1 h3 h4, z ho (by simp) (by simp) (by simp)⟩
    · split
      · rename_i q hq; exact fun e h v hv => ob1 hv fun a h1 h2 => ob1 h2 fun b h3 h4 => ⟨_, kIdxA_ok ho hq h1 h3 h4, z ho (by simp) (by simp) (by simp)⟩
      · exact purF_none
  · rename_i t x y ho
    split
    · rename_i hu; exact fun e h v hv => ob1 hv fun a h1 h2 => ob1 h2 fun b h3 h4 => ⟨_, kChr_ok ho hu h1 h3 h4, z ho (by simp) (by simp) (by simp)⟩
    · split
      · rename_i q hq; exact fun e h v hv => ob1 hv fun a h1 h2 => ob1 h2 fun b h3 h4 => ⟨_, kIxV_ok ho hq h1 h3 h4, z ho (by simp) (by simp) (by simp)⟩
      · exact purF_none
  · rename_i c x y ho; exact fun e h v hv => ob1 hv fun a h1 h2 => ⟨_, kPick_ok ho h1 h2, z ho (by simp) (by simp) (by simp)⟩
  · rename_i s x f ho
    split
    · rename_i d hd; exact fun e h v hv => ob1 hv fun a h1 h2 => ⟨_, kFld_ok ho hd h1 h2, z ho (by simp) (by simp) (by simp)⟩
    · exact purF_none
  · rename_i x ho; exact fun e h v hv => ob1 hv fun a h1 h2 => ⟨_, kNilc_ok ho h1 h2, z ho (by simp) (by simp) (by simp)⟩
  · rename_i x i ho; exact fun e h v hv => ob1 hv fun a h1 h2 => ⟨_, kExt_ok ho h1 h2, z ho (by simp) (by simp) (by simp)⟩
  · rename_i t u x ho
    split
    · rename_i el hel
      split
      · rename_i h8
        split
        · rename_i hu; exact fun e h v hv => ob1 hv fun a h1 h2 => ⟨_, kB2S_ok ho hel h8 hu h1 h2, l2 ho h1⟩
        · exact purF_none
      · exact purF_none
    · rename_i k' ht
      split
      · rename_i k hk
        refine fun e h v hv => ob1 hv fun a h1 h2 => ⟨pb a, ?_, l2 ho h1⟩
        have := kCv_ok (h := h) ho hk (by rw [ht]; rfl) h1 h2
        intro σ E rh he hr
        obtain ⟨y, h3, h4⟩ := this σ E rh he hr
        exact ⟨y, h3, fun C L hP hn _ => h4 C L hP hn fun _ _ h0 => by cases h0⟩
      · exact purF_none
    · exact purF_none
  · rename_i t x lo hi mx ho
    split
    · rename_i hu
      split
      · exact fun e h v hv => ob1 hv fun a h1 h2 => ob1 h2 fun l h3 h4 => ob1 h4 fun l2 h5 h6 => ⟨_, kSlS_ok ho hu h1 h3 h5 h6, z ho (by simp) (by simp) (by simp)⟩
      · exact purF_none
    · rename_i ar har
      split
      · rename_i q hq; exact fun e h v hv => ob1 hv fun a h1 h2 => ob1 h2 fun l h3 h4 => ob1 h4 fun l2 h5 h6 => ob1 h6 fun l3 h7 h8 => ⟨_, kSlA_ok ho (.inl har) hq h1 h3 h5 h7 h8, z ho (by simp) (by simp) (by simp)⟩
      · exact purF_none
    · split
      · rename_i q hq; exact fun e h v hv => ob1 hv fun a h1 h2 => ob1 h2 fun l h3 h4 => ob1 h4 fun l2 h5 h6 => ob1 h6 fun l3 h7 h8 => ⟨_, kSlA_ok ho (.inr rfl) hq h1 h3 h5 h7 h8, z ho (by simp) (by simp) (by simp)⟩
      · exact purF_none
    · split
      · rename_i q hq; exact fun e h v hv => ob1 hv fun a h1 h2 => ob1 h2 fun l h3 h4 => ob1 h4 fun l2 h5 h6 => ob1 h6 fun l3 h7 h8 => ⟨_, kSlL_ok ho hq h1 h3 h5 h7 h8, z ho (by simp) (by simp) (by simp)⟩
      · exact purF_none
  · rename_i t x y ok ho
    split
    · rename_i kt et hu
      split
      · rename_i q hq
        split
        · rename_i zz hz; exact fun e h v hv => ob1 hv fun m h1 h2 => ob1 h2 fun key h3 h4 => ⟨_, kLk_ok ho hu hq (zV0_R hz) h1 h3 h4, l3 ho h1⟩
        · exact purF_none
      · exact purF_none
    · exact purF_none
  · rename_i t ps ho
    have ho' : o.op = .build t ps.toList.toArray := by simpa using ho
    split
    · rename_i q hq
      split
      · rename_i zs hz
        split
        · rename_i r hr; exact fun e h v hv => ob1 hv fun vs h1 h2 => ⟨_, kBldA_ok ho' hq hz hr h1 h2, z ho (by simp) (by simp) (by simp)⟩
        · split
          · rename_i pl hpl; exact fun e h v hv => ob1 hv fun vs h1 h2 => ⟨_, kBldS_ok ho' hq hz hpl h1 h2, z ho (by simp) (by simp) (by simp)⟩
          · exact purF_none
      · exact purF_none
    · exact purF_none
  · rename_i f fs cs ho
    have ho' : o.op = .makeFunc (.func f) fs.toList.toArray cs.toList.toArray := by simpa using ho
    exact fun e h v hv => ob1 hv fun a h1 h2 => ob1 h2 fun b h3 h4 => ob1 h4 fun qa h5 h6 => ob1 h6 fun qb h7 h8 => by
      cases h8
      exact ⟨_, Pur.mkf ho' (ptrs_caps _ h1 h5) (ptrs_caps _ h3 h7), z ho (by simp) (by simp) (by simp)⟩
  · rename_i u t x ho
    split
    · exact fun e h v hv => ob1 hv fun a h1 h2 => ⟨_, kNot_ok ho h1 h2, z ho (by simp) (by simp) (by simp)⟩
    · exact fun e h v hv => ob1 hv fun a h1 h2 => ⟨_, kNeg_ok ho h1 h2, z ho (by simp) (by simp) (by simp)⟩
    · exact fun e h v hv => ob1 hv fun a h1 h2 => ⟨_, kInv_ok ho h1 h2, z ho (by simp) (by simp) (by simp)⟩
    · exact purF_none
  · rename_i c ho
    split
    · rename_i x t
      split
      · rename_i q hq; exact fun e h v hv => by cases hv; exact ⟨_, Pur.lenA ho hq, z ho (by simp) (by simp) (by simp)⟩
      · split
        · rename_i hu; exact fun e h v hv => ob1 hv fun a h1 h2 => ⟨_, kLenS_ok ho hu h1 h2, z ho (by simp) (by simp) (by simp)⟩
        · split
          · rename_i q hq; exact fun e h v hv => ob1 hv fun a h1 h2 => ⟨_, kLenL_ok ho hq h1 h2, z ho (by simp) (by simp) (by simp)⟩
          · exact purF_none
    · exact fun e h v hv => ob1 hv fun a h1 h2 => ob1 h2 fun b h3 h4 => ⟨_, kMin_ok (mx := false) ho h1 h3 h4, z ho (by simp) (by simp) (by simp)⟩
    · exact fun e h v hv => ob1 hv fun a h1 h2 => ob1 h2 fun b h3 h4 => ⟨_, kMin_ok (mx := true) ho h1 h3 h4, z ho (by simp) (by simp) (by simp)⟩
    · exact purF_none
  · exact purF_none
end Go.Gx
