/- Part of an evaluator of the program's calls, proved sound: what it yields, the program does in every world. No condition beyond those that each theorem names. -/
import Derived.Test.YtoclidojcihnfaaGreatGxD
set_option linter.unusedVariables false
set_option linter.unusedSimpArgs false
namespace Go.Gx
open Go.RowKit Go.Gv

/-! ### Steps of the memory -/
/-- Was a block written? -/
noncomputable def wrt (h g : H) (k : Nat) : Bool := Nat.blt h.c (g.ver k)
structure Stp (σ τ : Sg) (h g : H) (rh sh : RH) : Prop where
  ext : σ.ext τ h.n
  n : h.n ≤ g.n
  c : h.c ≤ g.c
  ver : ∀ k, k < h.n → h.ver k ≤ g.ver k
  keep : ∀ k, k < h.n → g.ver k ≤ h.c → sh k = rh k ∧ g.get k = h.get k
  hr : HR τ g sh
theorem Sg.ext.refl (σ : Sg) (n : Nat) : σ.ext σ n := ⟨Sg.le.refl σ, fun _ _ => rfl, fun _ _ => rfl⟩
theorem Stp.refl {σ : Sg} {h : H} {rh : RH} (hr : HR σ h rh) : Stp σ σ h h rh rh := ⟨Sg.ext.refl _ _, Nat.le_refl _, Nat.le_refl _, fun _ _ => Nat.le_refl _, fun _ _ _ => ⟨rfl, rfl⟩, hr⟩
theorem Stp.trans {a b c : Sg} {h g f : H} {rh sh th : RH} (x : Stp a b h g rh sh) (y : Stp b c g f sh th) : Stp a c h f rh th :=
  ⟨⟨x.ext.le.trans y.ext.le, fun k hk => (y.ext.tail k (Nat.lt_of_lt_of_le hk x.n)).trans (x.ext.tail k hk), fun k hk => (y.ext.cap k (Nat.lt_of_lt_of_le hk x.n)).trans (x.ext.cap k hk)⟩,
    Nat.le_trans x.n y.n, Nat.le_trans x.c y.c, fun k hk => Nat.le_trans (x.ver k hk) (y.ver k (Nat.lt_of_lt_of_le hk x.n)), fun k hk hb => by
      have h1 := y.keep k (Nat.lt_of_lt_of_le hk x.n) (Nat.le_trans hb x.c)
      have h3 := x.keep k hk (Nat.le_trans (y.ver k (Nat.lt_of_lt_of_le hk x.n)) hb)
      exact ⟨h1.1.trans h3.1, h1.2.trans h3.2⟩, y.hr⟩
theorem Stp.new {σ : Sg} {h : H} {rh : RH} (hr : HR σ h rh) {b c : Nat} {tl : List Value} {v : VO} {o : Obj} (hv : v ≠ .x) (ho : OR (σ.new h.n b c tl) h.n v o) :
    Stp σ (σ.new h.n b c tl) h (h.new v) rh (fup rh h.n (some (.blk b o))) :=
  ⟨Sg.new_ext (hr.out h.n (Nat.le_refl _)), by rw [H.n_new]; omega, by rw [H.c_new]; exact Nat.le_refl _, fun k hk => by rw [H.ver_new, if_neg (by omega)]; exact Nat.le_refl _,
    fun k hk _ => ⟨by simp only [fup]; rw [if_neg (by omega)], by rw [H.get_new, if_neg (by omega)]⟩, hr.new hv ho⟩
theorem Stp.upd {σ : Sg} {h : H} {rh : RH} (hr : HR σ h rh) {k b : Nat} {v : VO} {o : Obj} (hk : k < h.n) (hb : σ.blk k = some b) (hv : v ≠ .x) (ho : OR σ k v o) :
    Stp σ σ h (h.upd k v) rh (fup rh k (some (.blk b o))) :=
  ⟨by exact Sg.ext.refl _ _, by rw [H.n_upd]; exact Nat.le_refl _, by rw [H.c_upd]; omega, fun j hj => by
    rw [H.ver_upd]; split
    · have := hr.vc j; omega
    · exact Nat.le_refl _, fun j hj hb' => by
    rw [H.ver_upd] at hb'
    by_cases he : k = j
    · rw [if_pos he] at hb'; omega
    · exact ⟨by simp only [fup]; rw [if_neg (Ne.symm he)], by rw [H.get_upd, if_neg he]⟩, hr.upd hk hb hv ho⟩
theorem Stp.kill {σ : Sg} {h : H} {rh : RH} (hr : HR σ h rh) {k : Nat} (hk : k < h.n) : Stp σ σ h (h.upd k .x) rh (fup rh k none) :=
  ⟨by exact Sg.ext.refl _ _, by rw [H.n_upd]; exact Nat.le_refl _, by rw [H.c_upd]; omega, fun j hj => by
    rw [H.ver_upd]; split
    · have := hr.vc j; omega
    · exact Nat.le_refl _, fun j hj hb' => by
    rw [H.ver_upd] at hb'
    by_cases he : k = j
    · rw [if_pos he] at hb'; omega
    · exact ⟨by simp only [fup]; rw [if_neg (Ne.symm he)], by rw [H.get_upd, if_neg he]⟩, hr.kill hk⟩

/-! ### What turns the memory -/
def Trn (P : Program) (n : Nat) (e : FE) (h : H) (o : Oper) (v : V) (g : H) : Prop :=
  ∀ (σ : Sg) (E : Env) (rh : RH), ER σ n e E → HR σ h rh → ∀ (C : Ctx), C.P = P → C.n = n → Turn C (Lof h.n rh) E o (fun x L' => ∃ τ sh, Stp σ τ h g rh sh ∧ VR τ v x ∧ L' = Lof g.n sh)
def Trn0 (P : Program) (n : Nat) (e : FE) (h : H) (o : Oper) (g : H) : Prop :=
  ∀ (σ : Sg) (E : Env) (rh : RH), ER σ n e E → HR σ h rh → ∀ (C : Ctx), C.P = P → C.n = n → Turn0 C (Lof h.n rh) E o (fun L' => ∃ τ sh, Stp σ τ h g rh sh ∧ L' = Lof g.n sh)
theorem Turn.conv {C : Ctx} {L L1 : List HP} {e : Env} {o : Oper} {R R' : Value → List HP → Prop} (h : Turn C L1 e o R) (hp : L.Perm L1) (k : ∀ v L', R v L' → ∃ L'', L'.Perm L'' ∧ R' v L'') : Turn C L e o R' := fun w hst => by
  obtain ⟨v, w', L', h1, h2, h3⟩ := h w (hst.perm hp)
  obtain ⟨L'', h4, h5⟩ := k v L' h2
  exact ⟨v, w', L'', h1, h5, h3.perm h4⟩
theorem Turn0.conv {C : Ctx} {L L1 : List HP} {e : Env} {o : Oper} {R R' : List HP → Prop} (h : Turn0 C L1 e o R) (hp : L.Perm L1) (k : ∀ L', R L' → ∃ L'', L'.Perm L'' ∧ R' L'') : Turn0 C L e o R' := fun w hst => by
  obtain ⟨w', L', h1, h2, h3⟩ := h w (hst.perm hp)
  obtain ⟨L'', h4, h5⟩ := k L' h2
  exact ⟨w', L'', h1, h5, h3.perm h4⟩
/-- Values that can stand in a cell: what the zeros of a type are. -/
noncomputable def zS (v : Value) : Option S := ob (cst v) fun x => V.rec (motive_1 := fun _ => Option S) (motive_2 := fun _ => Unit) (fun s => some s) (fun _ => none) (fun _ _ => none) (fun _ => none) () (fun _ _ _ _ => ()) x
noncomputable def zSs (l : List Value) : Option (List S) := List.rec (motive := fun _ => Option (List S)) (some []) (fun v _ ih => ob (zS v) fun s => ob ih fun r => some (s :: r)) l
theorem cst_VR {σ : Sg} {v : Value} {x : V} (h : cst v = some x) : VR σ x v := by
  have : ER σ 0 .lf ⟨fun _ => undef, []⟩ := ER.none
  exact this.opv (x := .const v) h
theorem zS_SR {σ : Sg} {v : Value} {s : S} (h : zS v = some s) : SR σ s v := by
  obtain ⟨x, h1, h2⟩ := ob_some h
  cases x with
  | o y => cases h2; exact cst_VR h1
  | a l => cases h2
  | t l => cases h2
  | x v => cases h2
theorem zSs_SR {σ : Sg} : ∀ {l : List Value} {r : List S}, zSs l = some r → All2 (SR σ) r l
  | [], r, h => by cases h; exact .nil
  | v :: l, r, h => by
    obtain ⟨s, h1, h2⟩ := ob_some h
    obtain ⟨r', h3, h4⟩ := ob_some h2
    cases h4
    exact .cons (zS_SR h1) (zSs_SR h3)
noncomputable def one (s : S) : Bool := S.rec (motive := fun _ => Bool) (fun _ _ => true) (fun _ => true) (fun _ => true) (fun _ _ => true) (fun _ _ _ _ => true) (fun _ _ _ => true) (fun _ => true) (fun _ => true) (fun _ _ _ => true) (fun v => v.oneCell') s
theorem one_of {σ : Sg} {s : S} {v : Value} (h : SR σ s v) (h1 : one s = true) : v.oneCell' = true := by
  cases s <;> simp only [SR, PR] at h
  case i => subst h; rfl
  case b => subst h; rfl
  case s => obtain ⟨_, rfl, _⟩ := h; rfl
  case p => obtain ⟨_, _, rfl⟩ := h; rfl
  case sl => obtain ⟨_, _, _, _, _, rfl⟩ := h; rfl
  case f => obtain ⟨_, _, rfl, _⟩ := h; rfl
  case y => obtain ⟨_, _, rfl⟩ := h; rfl
  case m => obtain ⟨_, _, rfl⟩ := h; rfl
  case q => obtain ⟨_, _, rfl⟩ := h; rfl
  case r => subst h; exact h1
theorem one_cells {v : Value} (h : v.oneCell' = true) : v.cells = #[v] := by cases v <;> first | rfl | cases h
theorem all_one {σ : Sg} {l : List S} {m : List Value} (h : All2 (SR σ) l m) (h1 : l.all one = true) : m.all (·.oneCell') = true := by
  induction h with
  | nil => rfl
  | cons h _ ih => simp only [List.all_cons, Bool.and_eq_true] at h1 ⊢; exact ⟨one_of h h1.1, ih h1.2⟩
section
variable {P : Program} {n : Nat} {e : FE} {h : H} {o : Oper}
theorem Trn.alloc {t sz by_ : Nat} {z : Value} {cs : List S} (ho : o.op = .alloc t) (ht : tyI P t = some (z, sz, by_)) (hz : zSs z.cells.toList = some cs) : Trn P n e h o (.o (.p h.n 0)) (h.new (.c t (B.ofL cs))) :=
  fun σ E rh he hr C hP hn => by
    refine Turn.conv (Gv.Turn.alloc (cs := z.cells.toList) ho (by rw [hP]; exact ht) (by simp)) (List.Perm.refl _) ?_
    rintro _ _ ⟨b, rfl, rfl⟩
    have hs := Stp.new (b := b) (c := 0) (tl := []) hr (v := .c t (B.ofL cs)) (o := .cells z.cells.toList.toArray t (0, 0)) (by simp) ⟨_, rfl, by rw [B.toL_ofL]; exact zSs_SR hz⟩
    exact ⟨_, by rw [H.n_new]; exact (Lof_new h.n rh _).symm, _, _, hs, ⟨b, by simp [Sg.new], rfl⟩, rfl⟩
theorem Trn.box {t : Nat} {x : Operand} {s : S} (ho : o.op = .box t x) (hx : opv n e x = some (.o s)) (h1 : one s = true) : Trn P n e h o (.o (.p h.n 0)) (h.new (.c t (B.ofL [s]))) :=
  fun σ E rh he hr C hP hn => by
    have hv : SR σ s (ev n E x) := he.opv hx
    have hc := one_cells (one_of hv h1)
    refine Turn.conv (Gv.Turn.box (cs := [ev n E x]) ho (by rw [hn]) (by simpa using hc)) (List.Perm.refl _) ?_
    rintro _ _ ⟨b, rfl, rfl⟩
    have hs := Stp.new (b := b) (c := 0) (tl := []) hr (v := .c t (B.ofL [s])) (o := .cells [ev n E x].toArray t (0, 0)) (by simp) ⟨_, rfl, by rw [B.toL_ofL]; exact .cons (SR.mono (Sg.new_le (hr.out h.n (Nat.le_refl _))) hv) .nil⟩
    exact ⟨_, by rw [H.n_new]; exact (Lof_new h.n rh _).symm, _, _, hs, ⟨b, by simp [Sg.new], rfl⟩, rfl⟩
theorem Trn.boxA {t : Nat} {x : Operand} {cs : List S} (ho : o.op = .box t x) (hx : opv n e x = some (.a cs)) : Trn P n e h o (.o (.p h.n 0)) (h.new (.c t (B.ofL cs))) :=
  fun σ E rh he hr C hP hn => by
    obtain ⟨vs, hv, hall⟩ : VR σ (.a cs) (ev n E x) := he.opv hx
    refine Turn.conv (Gv.Turn.box (v := .agg vs.toArray) (cs := vs) ho (by rw [hn]; exact hv) rfl) (List.Perm.refl _) ?_
    rintro _ _ ⟨b, rfl, rfl⟩
    have hs := Stp.new (b := b) (c := 0) (tl := []) hr (v := .c t (B.ofL cs)) (o := .cells vs.toArray t (0, 0)) (by simp) ⟨_, rfl, by rw [B.toL_ofL]; exact hall.mono fun _ _ => SR.mono (Sg.new_le (hr.out h.n (Nat.le_refl _)))⟩
    exact ⟨_, by rw [H.n_new]; exact (Lof_new h.n rh _).symm, _, _, hs, ⟨b, by simp [Sg.new], rfl⟩, rfl⟩
theorem Trn0.st {t k off by_ : Nat} {z : Value} {x y : Operand} {s : S} {cs : List S} {r : B} {v : VO} (ho : o.op = .store t x y) (ht : tyI P t = some (z, 1, by_)) (hx : opv n e x = some (.o (.p k off))) (hy : opv n e y = some (.o s)) (h1 : one s = true)
    (hg : (h.get k).cs = some cs) (hr' : r.toL = cs.set off s) (hw : (h.get k).wi r = some v) (hi : Nat.blt off cs.length = true) : Trn0 P n e h o (h.upd k v) :=
  fun σ E rh he hr C hP hn => by
    rw [Nat.blt_eq] at hi
    obtain ⟨b, hb, hxv⟩ : PR σ (k, off) (ev n E x) := he.opv hx
    have hyv : SR σ s (ev n E y) := he.opv hy
    have hk := hr.blk_lt hb
    obtain ⟨vs, tl, T, hp, hall, hne, hor⟩ := hr.wi hk hb hg hw (by rw [hr']; simp)
    obtain ⟨r', p1, p2, _⟩ := Lof_perm hk hp
    have hlen := hall.length
    have hset : (vs ++ tl).set off (ev n E y) = vs.set off (ev n E y) ++ tl := by rw [List.set_append_left _ _ (by omega)]
    refine Turn0.conv (Gv.Turn.st (sz := 0) (T := T) (cs := vs ++ tl) ho (by rw [hP]; exact ht) (by rw [hn]; exact hxv) (by rw [hn]) (one_of hyv h1) Rep.head (by simp only [Nat.blt_eq, List.length_append]; omega)) p1 ?_
    rintro _ rfl
    have hs := Stp.upd hr hk hb hne (hor (vs.set off (ev n E y)) (by rw [hr']; exact hall.set off hyv))
    refine ⟨_, ?_, _, _, hs, rfl⟩
    show (HP.blk b (.cells ((vs ++ tl).set off (ev n E y)).toArray T (0, 0)) :: r').Perm _
    rw [hset]
    rw [H.n_upd]; exact (p2 _).symm
theorem Trn0.stA {t k off sz by_ : Nat} {z : Value} {x y : Operand} {ss cs : List S} {r : B} {v : VO} (ho : o.op = .store t x y) (ht : tyI P t = some (z, sz, by_)) (hx : opv n e x = some (.o (.p k off))) (hy : opv n e y = some (.a ss)) (h1 : ss.all one = true) (hsz : Nat.beq ss.length sz = true)
    (hg : (h.get k).cs = some cs) (hr' : r.toL = lput off ss cs) (hw : (h.get k).wi r = some v) (hi : Nat.ble (off + sz) cs.length = true) : Trn0 P n e h o (h.upd k v) :=
  fun σ E rh he hr C hP hn => by
    have hi := Nat.le_of_ble_eq_true hi
    have hsz := Nat.eq_of_beq_eq_true hsz
    obtain ⟨b, hb, hxv⟩ : PR σ (k, off) (ev n E x) := he.opv hx
    obtain ⟨us, hyv, hyall⟩ : VR σ (.a ss) (ev n E y) := he.opv hy
    have hk := hr.blk_lt hb
    obtain ⟨vs, tl, T, hp, hall, hne, hor⟩ := hr.wi hk hb hg hw (by rw [hr']; exact lput_length (by omega))
    obtain ⟨r', p1, p2, _⟩ := Lof_perm hk hp
    have hlen := hall.length
    have hlen2 := hyall.length
    have hset : (vs ++ tl).take off ++ us ++ (vs ++ tl).drop (off + sz) = (vs.take off ++ us ++ vs.drop (off + sz)) ++ tl := by
      rw [List.take_append_of_le_length (by omega), List.drop_append_of_le_length (by omega), List.append_assoc]
      simp
    refine Turn0.conv (Gv.Turn.stA (T := T) (cs := vs ++ tl) (vs := us) ho (by rw [hP]; exact ht) (by rw [hn]; exact hxv) (by rw [hn]; exact hyv) (by omega) (all_one hyall h1) Rep.head (Nat.ble_eq_true_of_le (by simp only [List.length_append]; omega))) p1 ?_
    rintro _ rfl
    have hs := Stp.upd hr hk hb hne (hor (vs.take off ++ us ++ vs.drop (off + sz)) (by
      have := ((hall.take off).append hyall).append (hall.drop (off + ss.length))
      rw [hsz] at this; exact (by rw [hr']; unfold lput; rw [hsz]; exact this)))
    refine ⟨_, ?_, _, _, hs, rfl⟩
    show (HP.blk b (.cells ((vs ++ tl).take off ++ us ++ (vs ++ tl).drop (off + sz)).toArray T (0, 0)) :: r').Perm _
    rw [hset]
    rw [H.n_upd]; exact (p2 _).symm
end
end Go.Gx
