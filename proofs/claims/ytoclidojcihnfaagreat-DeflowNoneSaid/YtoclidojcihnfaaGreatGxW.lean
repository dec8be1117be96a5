/- Part of an evaluator of the program's calls, proved sound: what it yields, the program does in every world. No condition beyond those that each theorem names. -/
import Derived.Test.YtoclidojcihnfaaGreatGxV
set_option linter.unusedVariables false
set_option linter.unusedSimpArgs false
namespace Go.Gx
open Go.RowKit Go.Gv

/-! ### Rows of items, and regions that draw -/
noncomputable def hds (P : Program) (n : Nat) (ops : Array Oper) (l : List Gv.Item) : Ik := List.rec (motive := fun _ => Ik) ⟨fun _ _ k s => k s⟩ (fun x _ ih => ⟨fun cf h0 k s => (ith P n ops x).run cf h0 (fun s => ih.run cf h0 k s) s⟩) l
section
variable {P : Program} {n : Nat} {ops : Array Oper}
theorem hds_ok : ∀ l : List Gv.Item, HdOK P n ops l (hds P n ops l)
  | [] => fun _ cf hcf h0 K s y hy => ⟨s, [], hy, .nil, fun _ h => h, fun _ h => h, fun C Q σ0 rh0 sF r τ E sh X B hP hn hh0 hfin hsub hgn hi k => k τ E sh X B hi rfl⟩
  | x :: l => fun _ cf hcf h0 K s y hy => by
    obtain ⟨s1, o1, hy, w1, m1, g1, k1⟩ := ith_ok (P := P) (n := n) (ops := ops) x _ cf hcf h0 (fun s => (hds P n ops l).run cf h0 K s) s y hy
    obtain ⟨s2, o2, hy, w2, m2, g2, k2⟩ := hds_ok l _ cf hcf h0 K s1 y hy
    refine ⟨s2, o1 ++ o2, hy, w1.append w2, fun k h => m2 k (m1 k h), fun g h => g2 g (g1 g h), fun C Q σ0 rh0 sF r τ E sh X B hP hn hh0 hfin hsub hgn hi k => ?_⟩
    rw [List.append_assoc]
    exact k1 C Q σ0 rh0 sF (o2 ++ r) τ E sh X B hP hn hh0 hfin (fun k h => hsub k (m2 k h)) (fun g h => hgn g (g2 g h)) hi fun τ' E' sh' X' B' hi' hd' =>
      k2 C Q σ0 rh0 sF r τ' E' sh' X' B' hP hn hh0 hfin hsub hgn hi' fun τ2 E2 sh2 X2 B2 hi2 hd2 => k τ2 E2 sh2 X2 B2 hi2 (hd2.trans hd')
end
/-- What goes in order behind the heads. -/
noncomputable def itt (P : Program) (n : Nat) (ops : Array Oper) (x : Gv.Item) : Ok := match ops[x.2]? with
  | none => bad
  | some o => match x.1 with
    | .b => ⟨fun cf kn kp e h => ob ((wan n ops o).run e) fun b => cond b ((cop0 P n o).run cf kn kp e h) (kn (dpt o.dst e uv) h)⟩
    | .p => ⟨fun cf kn kp e h => ob ((wan n ops o).run e) fun b => cond b (ob ((pur0 P n o).run e h) fun v => ob (rdo n e o.op) fun r => Nat.rec (motive := fun _ => Option _) (kn (dpt o.dst e v) h) (fun _ _ => none) r) (kn (dpt o.dst e uv) h)⟩
    | _ => bad
noncomputable def tls (P : Program) (n : Nat) (ops : Array Oper) (l : List Gv.Item) : Ok := List.rec (motive := fun _ => Ok) ⟨fun _ kn _ e h => kn e h⟩ (fun x _ ih => ⟨fun cf kn kp e h => (itt P n ops x).run cf (fun e h => ih.run cf kn kp e h) kp e h⟩) l
section
variable {P : Program} {n : Nat} {ops : Array Oper}
/-- What is asked of a row of items behind the heads. -/
def TlOK (P : Program) (n : Nat) (ops : Array Oper) (l : List Gv.Item) (k : Ok) : Prop := ∀ (β : Type) (cf : CF), CallOK P cf → ∀ (kn : FE → H → Option β) (kp : Value → FE → H → Option β) (e : FE) (h : H) (y : β), k.run cf kn kp e h = some y →
  ∃ ord', All2 Wk ord' l ∧ ((∃ e1 h1, kn e1 h1 = some y ∧ ∀ (C : Ctx) (Q : SPost) (L0 Lr : List HP) (τ : Sg) (E : Env) (sh : RH) (X B : List HP), C.P = P → C.n = n → ER τ n e E → HR τ h sh → (X ++ B).Perm (Lof h.n sh) →
      ∀ r, (∀ τ' E' sh' X' B', Stp τ τ' h h1 sh sh' → ER τ' n e1 E' → (X' ++ B').Perm (Lof h1.n sh') → E'.ds = E.ds → J C Q ops L0 Lr r E' X' B') → J C Q ops L0 Lr (ord' ++ r) E X B) ∨
    (∃ v e1 h1, kp v e1 h1 = some y ∧ ∀ (C : Ctx) (Q : SPost) (L0 Lr : List HP) (τ : Sg) (E : Env) (sh : RH) (X B : List HP), C.P = P → C.n = n → ER τ n e E → HR τ h sh → (X ++ B).Perm (Lof h.n sh) →
      (∀ τ' E' sh', Stp τ τ' h h1 sh sh' → E'.ds = E.ds → Q (.panic (one1 v)) E' (Lof h1.n sh')) → ∀ r, J C Q ops L0 Lr (ord' ++ r) E X B))
theorem itt_ok (x : Gv.Item) : TlOK P n ops [x] (itt P n ops x) := by
  intro β cf hcf kn kp e h y hy
  obtain ⟨kd, i⟩ := x
  unfold itt at hy
  split at hy
  · cases hy
  rename_i o ho
  have ho : ops[i]? = some o := ho
  have unw : ∀ (hkd : kd.tail = true), (wan n ops o).run e = some false → kn (dpt o.dst e uv) h = some y → _ := fun hkd hw hK =>
    (⟨[(.p, i)], .cons ⟨rfl, .inr (.inr ⟨hkd, rfl⟩)⟩ .nil, .inl ⟨_, _, hK, fun C Q L0 Lr τ E sh X B hP hn he hh hp r k => by
      subst hn
      exact ⟨o, ho, undef, .inr ⟨wan_ok hw he, rfl⟩, k τ _ sh X B (Stp.refl hh) (he.dpt (uv_R _)) hp (updo_ds' _ _ _)⟩⟩⟩ :
      ∃ ord', All2 Wk ord' [(kd, i)] ∧ ((∃ e1 h1, kn e1 h1 = some y ∧ ∀ (C : Ctx) (Q : SPost) (L0 Lr : List HP) (τ : Sg) (E : Env) (sh : RH) (X B : List HP), C.P = P → C.n = n → ER τ n e E → HR τ h sh → (X ++ B).Perm (Lof h.n sh) →
      ∀ r, (∀ τ' E' sh' X' B', Stp τ τ' h h1 sh sh' → ER τ' n e1 E' → (X' ++ B').Perm (Lof h1.n sh') → E'.ds = E.ds → J C Q ops L0 Lr r E' X' B') → J C Q ops L0 Lr (ord' ++ r) E X B) ∨
    (∃ v e1 h1, kp v e1 h1 = some y ∧ ∀ (C : Ctx) (Q : SPost) (L0 Lr : List HP) (τ : Sg) (E : Env) (sh : RH) (X B : List HP), C.P = P → C.n = n → ER τ n e E → HR τ h sh → (X ++ B).Perm (Lof h.n sh) →
      (∀ τ' E' sh', Stp τ τ' h h1 sh sh' → E'.ds = E.ds → Q (.panic (one1 v)) E' (Lof h1.n sh')) → ∀ r, J C Q ops L0 Lr (ord' ++ r) E X B)))
  cases kd with
  | b =>
    obtain ⟨b, hw, hy⟩ := ob_some hy
    cases b with
    | false => exact unw rfl hw hy
    | true =>
      rcases cop0_ok (P := P) (n := n) (o := o) _ cf hcf kn kp e h y hy with ⟨e1, h1, h2, h3⟩ | ⟨v, h1, h2, h3⟩
      · refine ⟨[(.b, i)], .cons ⟨rfl, .inl rfl⟩ .nil, .inl ⟨e1, h1, h2, fun C Q L0 Lr τ E sh X B hP hn he hh hp r k => ?_⟩⟩
        refine ⟨o, ho, by subst hn; exact wan_ok hw he, fun w hst => ?_⟩
        refine Big.mono2 (h3 C τ E sh hP hn he hh w (hst.perm hp)) (fun x w' hh' => ?_) (fun _ _ hh' => hh'.elim)
        obtain ⟨τ', sh', hs, he', hst'⟩ := hh'
        exact ⟨_, hst', k τ' _ sh' _ [] hs he' (by rw [List.append_nil]) (updo_ds' _ _ _)⟩
      · refine ⟨[(.b, i)], .cons ⟨rfl, .inl rfl⟩ .nil, .inr ⟨v, e, h1, h2, fun C Q L0 Lr τ E sh X B hP hn he hh hp k r => ?_⟩⟩
        refine ⟨o, ho, by subst hn; exact wan_ok hw he, fun w hst => ?_⟩
        refine Big.mono2 (h3 C τ E sh hP hn he hh w (hst.perm hp)) (fun _ _ hh' => hh'.elim) (fun ch w' hh' => ?_)
        obtain ⟨rfl, τ', sh', hs, hst'⟩ := hh'
        exact ⟨_, hst', fun e' hd => k τ' e' sh' hs hd⟩
  | p =>
    obtain ⟨b, hw, hy⟩ := ob_some hy
    cases b with
    | false => exact unw rfl hw hy
    | true =>
      obtain ⟨v, h1, hy⟩ := ob_some hy
      obtain ⟨r0, h2, hy⟩ := ob_some hy
      obtain ⟨rd, h3, h4⟩ := pur0_ok e h v h1
      have h4 := h4 r0 h2
      subst h4
      cases rd with
      | succ j => cases hy
      | zero =>
        refine ⟨[(.p, i)], .cons ⟨rfl, .inl rfl⟩ .nil, .inl ⟨_, _, hy, fun C Q L0 Lr τ E sh X B hP hn he hh hp r k => ?_⟩⟩
        subst hP hn
        obtain ⟨z, hv, hyl⟩ := h3 τ E sh he hh
        refine ⟨o, ho, z, .inl ⟨wan_ok hw he, fun w => ?_⟩, k τ _ sh X B (Stp.refl hh) (he.dpt hv) hp (updo_ds' _ _ _)⟩
        exact hyl { C with w0 := w, M := [] } [] rfl rfl (fun _ _ h0 => by cases h0) w (St.init [] w (Sat.nil w))
  | _ => cases hy
theorem tls_ok : ∀ l : List Gv.Item, TlOK P n ops l (tls P n ops l)
  | [] => fun _ cf hcf kn kp e h y hy => ⟨[], .nil, .inl ⟨e, h, hy, fun C Q L0 Lr τ E sh X B hP hn he hh hp r k => k τ E sh X B (Stp.refl hh) he hp rfl⟩⟩
  | x :: l => fun _ cf hcf kn kp e h y hy => by
    obtain ⟨o1, w1, h1⟩ := itt_ok (P := P) (n := n) (ops := ops) x _ cf hcf (fun e h => (tls P n ops l).run cf kn kp e h) kp e h y hy
    rcases h1 with ⟨e1, g1, hy, k1⟩ | ⟨v, e1, g1, hy, k1⟩
    · obtain ⟨o2, w2, h2⟩ := tls_ok l _ cf hcf kn kp e1 g1 y hy
      refine ⟨o1 ++ o2, w1.append w2, ?_⟩
      rcases h2 with ⟨e2, g2, hy, k2⟩ | ⟨v, e2, g2, hy, k2⟩
      · refine .inl ⟨e2, g2, hy, fun C Q L0 Lr τ E sh X B hP hn he hh hp r k => ?_⟩
        rw [List.append_assoc]
        exact k1 C Q L0 Lr τ E sh X B hP hn he hh hp (o2 ++ r) fun τ' E' sh' X' B' hs he' hp' hd => k2 C Q L0 Lr τ' E' sh' X' B' hP hn he' hs.hr hp' r fun τ2 E2 sh2 X2 B2 hs2 he2 hp2 hd2 => k τ2 E2 sh2 X2 B2 (hs.trans hs2) he2 hp2 (hd2.trans hd)
      · refine .inr ⟨v, e2, g2, hy, fun C Q L0 Lr τ E sh X B hP hn he hh hp k r => ?_⟩
        rw [List.append_assoc]
        exact k1 C Q L0 Lr τ E sh X B hP hn he hh hp (o2 ++ r) fun τ' E' sh' X' B' hs he' hp' hd => k2 C Q L0 Lr τ' E' sh' X' B' hP hn he' hs.hr hp' (fun τ2 E2 sh2 hs2 hd2 => k τ2 E2 sh2 (hs.trans hs2) (hd2.trans hd)) r
    · -- the rest is not reached, but it must stand in the row
      refine ⟨o1 ++ l, w1.append (All2.same fun _ => ⟨rfl, .inl rfl⟩), .inr ⟨v, e1, g1, hy, fun C Q L0 Lr τ E sh X B hP hn he hh hp k r => ?_⟩⟩
      rw [List.append_assoc]
      exact k1 C Q L0 Lr τ E sh X B hP hn he hh hp k (l ++ r)
end
/-! What is asked of an order stands where some items are not carried out. -/
theorem Wk.tail {a b : Gv.Item} (h : Wk a b) : a.1.tail = b.1.tail := by
  obtain ⟨_, h | ⟨h1, h2⟩ | ⟨h1, h2⟩⟩ := h
  · rw [h]
  · rw [h1, h2]; rfl
  · rw [h1, h2]; rfl
def kOk (x y : Kd) : Bool := match x, y with
      | .b, _ => false
      | .p, .b => true
      | .p, .p => true
      | .p, _ => false
      | _, .b => false
      | _, .p => true
      | .e, .n => false
      | .n, .e => false
      | .a, .e => false
      | .s, .e => false
      | x, y => !(x.nondet && y.callish)
theorem kOk_mono {x y x' y' : Kd} (hx : x' = x ∨ (x.tail = false ∧ x' = .d) ∨ (x.tail = true ∧ x' = .p)) (hy : y' = y ∨ (y.tail = false ∧ y' = .d) ∨ (y.tail = true ∧ y' = .p)) (h : kOk x y = true) : kOk x' y' = true := by
  cases x <;> cases y <;> rcases hx with hx | ⟨h1, hx⟩ | ⟨h1, hx⟩ <;> rcases hy with hy | ⟨h2, hy⟩ | ⟨h2, hy⟩ <;> subst hx hy <;> first | rfl | exact h | exact absurd h1 (by decide) | exact absurd h2 (by decide) | exact absurd h (by decide)
theorem pairOk_kOk (ops : Array Oper) (Bf : List Nat) (x y : Gv.Item) : pairOk ops Bf x y = (!later Bf y.2 x.2 && !Nat.beq x.2 y.2 && (later Bf x.2 y.2 || ((match ops[x.2]?, ops[y.2]? with | some a, some b => a.apart ops b | _, _ => false) && kOk x.1 y.1))) := rfl
theorem pairOk_mono {ops : Array Oper} {Bf : List Nat} {x y x' y' : Gv.Item} (hx : Wk x' x) (hy : Wk y' y) (h : pairOk ops Bf x y = true) : pairOk ops Bf x' y' = true := by
  rw [pairOk_kOk] at h ⊢
  rw [hx.1, hy.1]
  simp only [Bool.and_eq_true, Bool.or_eq_true] at h ⊢
  exact ⟨h.1, h.2.imp id fun ⟨h1, h2⟩ => ⟨h1, kOk_mono hx.2 hy.2 h2⟩⟩
theorem All2.flip_mem {α β : Type} {R : α → β → Prop} {l : List α} {m : List β} (h : All2 R l m) : ∀ a ∈ l, ∃ b ∈ m, R a b := by
  induction h with
  | nil => simp
  | cons h _ ih =>
    intro a ha
    rcases List.mem_cons.1 ha with rfl | ha
    · exact ⟨_, by simp, h⟩
    · obtain ⟨b, hb, hr⟩ := ih a ha; exact ⟨b, List.mem_cons_of_mem _ hb, hr⟩
theorem All2.mem_flip {α β : Type} {R : α → β → Prop} {l : List α} {m : List β} (h : All2 R l m) : ∀ b ∈ m, ∃ a ∈ l, R a b := by
  induction h with
  | nil => simp
  | cons h _ ih =>
    intro b hb
    rcases List.mem_cons.1 hb with rfl | hb
    · exact ⟨_, by simp, h⟩
    · obtain ⟨a, ha, hr⟩ := ih b hb; exact ⟨a, List.mem_cons_of_mem _ ha, hr⟩
theorem pairsOk_mono {ops : Array Oper} {Bf : List Nat} {l m : List Gv.Item} (h : All2 Wk l m) : pairsOk ops Bf m = true → pairsOk ops Bf l = true := by
  induction h with
  | nil => exact fun h => h
  | cons h hk ih =>
    rename_i a b l' m'
    simp only [pairsOk, Bool.and_eq_true, List.all_eq_true]
    rintro ⟨h1, h2⟩
    refine ⟨fun y hy => ?_, ih h2⟩
    obtain ⟨z, hz, hyz⟩ := hk.flip_mem y hy
    have := h1 z hz
    exact ⟨pairOk_mono h hyz this.1, by rw [h.tail, hyz.tail]; exact this.2⟩
theorem drawsOk_mono {ops : Array Oper} {l m : List Gv.Item} (h : All2 Wk l m) (hm : drawsOk ops m = true) : drawsOk ops l = true := by
  have hlen := h.length
  simp only [drawsOk, drawOk, Bool.and_eq_true] at hm ⊢
  obtain ⟨⟨⟨⟨⟨h1, h2⟩, h3⟩, h4⟩, h5⟩, h6⟩ := hm
  refine ⟨⟨⟨⟨⟨h1, by rw [hlen]; exact h2⟩, ?_⟩, pairsOk_mono h h4⟩, h5⟩, ?_⟩
  · rw [allIn, List.all_eq_true] at h3 ⊢
    intro i hi
    have := h3 i hi
    obtain ⟨z, hz, hb⟩ := List.any_eq_true.1 this
    obtain ⟨a, ha, haz⟩ := h.mem_flip z hz
    exact List.any_eq_true.2 ⟨a, ha, by rw [haz.1]; exact hb⟩
  · rw [List.all_eq_true] at h6 ⊢
    intro a ha
    obtain ⟨z, hz, haz⟩ := h.flip_mem a ha
    rw [haz.1]; exact h6 z hz
/-- A region that draws: its heads, and what goes in order behind them. -/
noncomputable def dreg (P : Program) (n : Nat) (ops : Array Oper) (hd tl : List Gv.Item) : Ok := match P.follows .mixedOrders, drawsOk ops (app hd tl) with
  | true, true => ⟨fun cf kn kp e h => (hds P n ops hd).run cf h (fun s => grd (finB h s) ((tls P n ops tl).run cf kn (fun v _ h => kp v .lf h) s.e s.h)) ⟨e, h, [], true, []⟩⟩
  | _, _ => bad
/-- Which regions draw, and how they are walked: by the function's and the region's numbers. -/
abbrev DT := Nat → Nat → Option (List Gv.Item × List Gv.Item)
noncomputable def drsOf (P : Program) (dt : DT) : DRS := fun f n id ops => match dt f id with
  | some q => dreg P n ops q.1 q.2
  | none => bad
theorem drsOf_ok {P : Program} {dt : DT} : DrsOK P (drsOf P dt) := by
  intro f n id ops β cf hcf kn kp e h y hy
  unfold drsOf at hy
  split at hy
  · rename_i q _
    obtain ⟨hd, tl⟩ := q
    unfold dreg at hy
    split at hy
    · rename_i hm hok
      obtain ⟨s', o1, hy, w1, m1, g1, k1⟩ := hds_ok (P := P) (n := n) (ops := ops) hd _ cf hcf h _ _ y hy
      obtain ⟨hfin, hy⟩ := grd_some hy
      have hfin := finB_ok hfin
      obtain ⟨o2, w2, h2⟩ := tls_ok (P := P) (n := n) (ops := ops) tl _ cf hcf _ _ _ _ y hy
      have hok' : drawsOk ops (o1 ++ o2) = true := drawsOk_mono (w1.append w2) (by rw [app_eq] at hok; exact hok)
      have key : ∀ (C : Ctx) (Q : SPost) (σ : Sg) (E : Env) (rh : RH), C.P = P → C.n = n → ER σ n e E → HR σ h rh →
          (∀ τ E' sh X B, InvD n σ h rh s'.rd s' τ E' sh X B → E'.ds = E.ds → J C Q ops (L0 s'.rd h rh) (LR s'.rd h rh) o2 E' X B) → WC C (.region id ops true) Q E (Lof h.n rh) := by
        intro C Q σ E rh hP hn he hr k
        have hperm : (Lof h.n rh).Perm (L0 s'.rd h rh ++ LR s'.rd h rh) := by
          have := Lof_split2 (fun k => !s'.rd.elem k) h.n rh
          simp only [Bool.not_not] at this
          exact this
        have := WC.draw (C := C) (Q := Q) (id := id) (l := ops.toList) (e := E) (o1 ++ o2) (L0 s'.rd h rh) (LR s'.rd h rh) (by rw [hP]; exact hm) (by simpa using hok') hperm
          (by
            rw [Array.toArray_toList]
            exact k1 C Q σ rh s' o2 σ E rh [] _ hP hn hr hfin (fun _ h => h) (fun _ h => h) ⟨he, Stp.refl hr, by rw [List.nil_append]; exact hperm.symm, ⟨_, rfl, .inl rfl⟩⟩ k)
        simpa using this
      rcases h2 with ⟨e1, h1, hy, k2⟩ | ⟨v, e1, h1, hy, k2⟩
      · refine .inl ⟨e1, h1, hy, fun C Q σ E rh hP hn he hr k => key C Q σ E rh hP hn he hr fun τ E' sh X B hi hd => ?_⟩
        have := k2 C Q (L0 s'.rd h rh) (LR s'.rd h rh) τ E' sh X B hP hn hi.er hi.st.hr hi.perm [] fun τ2 E2 sh2 X2 B2 hs2 he2 hp2 hd2 => ?_
        · rwa [List.append_nil] at this
        · exact ⟨_, hp2, k τ2 E2 sh2 (hi.st.trans hs2) he2 (hd2.trans hd)⟩
      · refine .inr ⟨v, .lf, h1, hy, fun C Q σ E rh hP hn he hr k => key C Q σ E rh hP hn he hr fun τ E' sh X B hi hd => ?_⟩
        have := k2 C Q (L0 s'.rd h rh) (LR s'.rd h rh) τ E' sh X B hP hn hi.er hi.st.hr hi.perm (fun τ2 E2 sh2 hs2 hd2 => k τ2 E2 sh2 (hi.st.trans hs2) ER.none (hd2.trans hd)) []
        rwa [List.append_nil] at this
    · cases hy
  · cases hy
end Go.Gx
