/- Part of an evaluator of the program's calls, proved sound: what it yields, the program does in every world. No condition beyond those that each theorem names. -/
import Derived.Test.YtoclidojcihnfaaGreatGxY
set_option linter.unusedVariables false
set_option linter.unusedSimpArgs false
namespace Go.Gx
open Go.RowKit Go.Gv

/-! ### Calls that only read one row: their value, found once and for all -/
structure Kr where
  f : Nat
  T : Nat
  row : List S
  off : Nat
  len : Nat
  cap : Nat
  rest : List V
  v : V
noncomputable def Kr.h0 (k : Kr) : H := H.none.new (.c k.T (B.ofL k.row))
noncomputable def Kr.args (k : Kr) : List V := .o (.sl 0 k.off k.len (.kn k.cap)) :: k.rest
def Kr.hp (k : Kr) (b : Nat) : HP := .blk b (.cells (k.row.map pv1).toArray k.T (0, 0))
structure KrOK (P : Program) (k : Kr) : Prop where
  fn : Callable P k.f
  row : k.row.all pk1 = true
  rest : k.rest.all pkn = true
  v : pkn k.v = true
  run : ∀ (b : Nat) (w : World), Sat [k.hp b] w → Tri P k.f (Value.slice (some ⟨b, k.off, none⟩) k.len k.cap :: k.rest.map pv).toArray w [k.hp b] (fun en L' => en = .returned (pv k.v) ∧ L' = [k.hp b])
theorem KrOK.of {P : Program} {cf : CF} (hcf : CallOK P cf) {k : Kr} {g : H} (h : cf k.f k.args k.h0 = some (k.v, g)) (hg : Nat.ble (g.ver 0) 0 = true) (hrow : k.row.all pk1 = true) (hrest : k.rest.all pkn = true) (hv : pkn k.v = true) (hc : Nat.ble k.len k.cap = true) : KrOK P k := by
  refine ⟨hcf.fn _ _ _ _ h, hrow, hrest, hv, fun b w hs => ?_⟩
  have hh : HR ⟨fun _ => none, fun _ => 0, fun _ => []⟩ H.none (fun _ => none) := ⟨fun _ => Nat.le_refl _, fun k hk _ => rfl, fun k hk => absurd hk (Nat.not_lt_zero _), fun _ _ => rfl⟩
  have h1 : HR (Sg.new ⟨fun _ => none, fun _ => 0, fun _ => []⟩ H.none.n b 0 []) k.h0 (fup (fun _ => none) H.none.n (some (k.hp b))) := HR.new hh (b := b) (c := 0) (tl := []) (v := .c k.T (B.ofL k.row)) (o := .cells (k.row.map pv1).toArray k.T (0, 0)) (by simp) ⟨_, rfl, by rw [B.toL_ofL]; exact pks_R hrow⟩
  have hL : Lof k.h0.n (fup (fun _ => none) H.none.n (some (k.hp b))) = [k.hp b] := by
    rw [Kr.h0, H.n_new]; rfl
  have ha : All2 (VR (Sg.new ⟨fun _ => none, fun _ => 0, fun _ => []⟩ H.none.n b 0 [])) k.args (Value.slice (some ⟨b, k.off, none⟩) k.len k.cap :: k.rest.map pv) :=
    .cons ⟨b, k.cap, by simp [Sg.new, H.none], rfl, Nat.le_of_ble_eq_true hc, rfl⟩ (pkns_R hrest)
  have ht := hcf.run k.f k.args k.h0 k.v g h _ _ _ w ha h1 (by rw [hL]; exact hs)
  rw [hL] at ht
  refine Calls.mono ht ?_
  rintro en w' ⟨L', hR, hst⟩
  cases en with
  | returned x =>
    obtain ⟨τ, sh, hs', h2, rfl⟩ := hR
    have hk := (hs'.keep 0 (by rw [Kr.h0, H.n_new]; omega) (Nat.le_trans (Nat.le_of_ble_eq_true hg) (Nat.zero_le _))).1
    have hk : sh 0 = some (k.hp b) := by rw [hk]; rfl
    have hn : 0 < g.n := Nat.lt_of_lt_of_le (by rw [Kr.h0, H.n_new]; omega) hs'.n
    obtain ⟨r, hp, _⟩ := Lof_perm hn hk
    exact ⟨[k.hp b], ⟨by rw [pkn_eq hv h2], rfl⟩, St.drop (A := r) (hst.perm (hp.trans (show (k.hp b :: r).Perm (r ++ [k.hp b]) from List.perm_append_comm (l₁ := [k.hp b]))))⟩
  | panicked ch => obtain ⟨pv, τ, sh, h3, _⟩ := hR; rw [h3] at hv; cases hv
  | outgrown => exact hR.elim
theorem pks_eq {σ : Sg} : ∀ {l : List S} {xs : List Value}, l.all pk1 = true → All2 (SR σ) l xs → xs = l.map pv1
  | [], _, _, .nil => rfl
  | s :: l, _, h, .cons hv hl => by
    simp only [List.all_cons, Bool.and_eq_true] at h
    rw [List.map_cons, pks_eq h.2 hl]
    exact congrArg (· :: _) (pkn_eq (σ := σ) (v := .o s) h.1 hv)
noncomputable def eqRow (l : List S) (b : B) : Bool := and (Nat.beq b.n l.length) (seqL (b.rng 0 b.n) l)
theorem eqRow_eq {l : List S} {b : B} (h : eqRow l b = true) : b.toL = l := by
  have h : (Nat.beq b.n l.length && seqL (b.rng 0 b.n) l) = true := h
  rw [Bool.and_eq_true] at h
  have := seqL_eq h.2
  rw [← this, B.rng_eq (by omega), List.drop_zero, List.take_of_length_le (by rw [B.len]; exact Nat.le_refl _)]
noncomputable def krM (k : Kr) (f : Nat) (args : List V) (h : H) : Bool := and (Nat.beq f k.f) (match args with
  | .o (.sl j off len (.kn cap)) :: rest => and (Nat.beq off k.off) (and (Nat.beq len k.len) (and (Nat.beq cap k.cap) (and (seqVs rest k.rest) (and (Nat.blt j h.n) (match h.get j with
    | .c T b => and (Nat.beq T k.T) (eqRow k.row b)
    | _ => false)))))
  | _ => false)
theorem krM_spec {k : Kr} {f : Nat} {args : List V} {h : H} (hm : krM k f args h = true) : f = k.f ∧ ∃ j b, args = .o (.sl j k.off k.len (.kn k.cap)) :: k.rest ∧ j < h.n ∧ h.get j = .c k.T b ∧ b.toL = k.row := by
  unfold krM at hm
  rw [Bool.and_eq_true] at hm
  obtain ⟨hf, hm⟩ := hm
  refine ⟨Nat.eq_of_beq_eq_true hf, ?_⟩
  split at hm
  · rename_i j off len cap rest
    simp only [Bool.and_eq_true] at hm
    obtain ⟨h1, h2, h3, h4, h5, h6⟩ := hm
    split at h6
    · rename_i T b hg
      rw [Bool.and_eq_true] at h6
      refine ⟨j, b, ?_, by simpa [Nat.blt_eq] using h5, ?_, eqRow_eq h6.2⟩
      · rw [Nat.eq_of_beq_eq_true h1, Nat.eq_of_beq_eq_true h2, Nat.eq_of_beq_eq_true h3, seqVs_eq h4]
      · rw [hg, Nat.eq_of_beq_eq_true h6.1]
    · cases h6
  · cases hm
theorem Tri.frame {P : Program} {f : FuncId} {args : Array Value} {w : World} {L0 r : List HP} {R : Ending → List HP → Prop} (h : Tri P f args w L0 R) (hs : Sat (L0 ++ r) w) : Tri P f args w (L0 ++ r) (fun en L' => ∃ L2, R en L2 ∧ L' = L2 ++ r) := by
  refine Calls.mono h fun en w' ⟨L2, hR, hst⟩ => ?_
  exact ⟨L2 ++ r, ⟨L2, hR, rfl⟩, St.step (w0 := w) (M := doms (L0 ++ r)) (A := L0) (B := L2) (L := r) (St.init _ w hs) hst⟩
/-- Calls, where some values of calls that only read a row are known. -/
noncomputable def ovk (l : List Kr) (cf : CF) : CF := List.rec (motive := fun _ => CF) cf (fun k _ ih f args h => cond (krM k f args h) (some (k.v, h)) (ih f args h)) l
theorem ovk_ok {P : Program} {cf : CF} (hcf : CallOK P cf) : ∀ {l : List Kr}, (∀ k ∈ l, KrOK P k) → CallOK P (ovk l cf)
  | [], _ => hcf
  | k :: l, hk => by
    have ih := ovk_ok (l := l) hcf fun k' h' => hk k' (List.mem_cons_of_mem _ h')
    have h0 := hk k (by simp)
    refine ⟨fun f args h r hr => ?_, fun f args h v g hr σ rh xs w ha hh hsat => ?_⟩
    · have hr : cond (krM k f args h) (some (k.v, h)) (ovk l cf f args h) = some r := hr
      cases hc : krM k f args h with
      | true => rw [(krM_spec hc).1]; exact h0.fn
      | false => rw [hc] at hr; exact ih.fn _ _ _ _ hr
    · have hr : cond (krM k f args h) (some (k.v, h)) (ovk l cf f args h) = some (v, g) := hr
      cases hc : krM k f args h with
      | true =>
        rw [hc] at hr
        have hr : some (k.v, h) = some (v, g) := hr
        cases hr
        obtain ⟨rfl, j, bb, rfl, hj, hgt, hb⟩ := krM_spec hc
        cases ha with
        | cons hx hrest =>
          obtain ⟨b, n, h1, h2, h3, rfl⟩ := hx
          have h2 : n = k.cap := h2
          subst h2
          obtain ⟨vs, h4, h5⟩ := hh.cells hj h1 hgt
          rw [hb] at h5
          have := pks_eq h0.row h5
          subst this
          have := pkns_eq h0.rest hrest
          subst this
          obtain ⟨r, hp, _⟩ := Lof_perm hj h4
          have hsat' : Sat ([k.hp b] ++ r) w := ((St.init _ w hsat).perm hp).sat
          have ht := Tri.frame (h0.run b w hsat'.app.1) hsat'
          refine Calls.mono (Tri.permL ht hp.symm) fun en w' hh' => ?_
          obtain ⟨L', ⟨L2, ⟨rfl, rfl⟩, rfl⟩, hst⟩ := hh'
          exact ⟨Lof h.n rh, ⟨σ, rh, Stp.refl hh, pkn_R h0.v, rfl⟩, hst.perm hp.symm⟩
      | false => rw [hc] at hr; exact ih.run _ _ _ _ _ hr σ rh xs w ha hh hsat
/-- The run of functions, where some values are known. -/
noncomputable def xfr (P : Program) (dt : DT) (hts : Nat → HT) (l : List Kn) (m : List Kr) (fuel : Nat) : CF := Nat.rec (motive := fun _ => CF) (fun _ _ _ => none) (fun _ ih => ovk m (ovr l (step1 P (drsOf P dt) hts ih))) fuel
theorem xfr_ok {P : Program} {dt : DT} {hts : Nat → HT} {l : List Kn} {m : List Kr} (hl : ∀ k ∈ l, KnOK P k) (hm : ∀ k ∈ m, KrOK P k) : ∀ fuel, CallOK P (xfr P dt hts l m fuel)
  | 0 => ⟨fun _ _ _ _ h => (by cases h), fun _ _ _ _ _ h => (by cases h)⟩
  | fuel + 1 => ovk_ok (ovr_ok (step1_ok drsOf_ok (xfr_ok hl hm fuel)) hl) hm
end Go.Gx
