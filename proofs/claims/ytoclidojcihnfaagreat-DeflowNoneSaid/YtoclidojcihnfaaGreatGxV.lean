/- Part of an evaluator of the program's calls, proved sound: what it yields, the program does in every world. No condition beyond those that each theorem names. -/
import Derived.Test.YtoclidojcihnfaaGreatGxU
set_option linter.unusedVariables false
set_option linter.unusedSimpArgs false
namespace Go.Gx
open Go.RowKit Go.Gv

/-! ### Items of a region that draws -/
structure WF where
  run : FE → Option Bool
noncomputable def wan (n : Nat) (ops : Array Oper) (o : Oper) : WF := match o.guard with
  | none => ⟨fun _ => some true⟩
  | some (j, want) => match (ops[j]?).bind (·.dst) with
    | some t => ⟨fun e => ob (opv n e (.tmp t)) fun v => kWnt want v⟩
    | none => ⟨fun _ => none⟩
theorem wan_ok {n : Nat} {ops : Array Oper} {o : Oper} {e : FE} {b : Bool} (h : (wan n ops o).run e = some b) {σ : Sg} {E : Env} (he : ER σ n e E) : wantedS n ops E o = b := by
  unfold wan at h
  split at h
  · rename_i hg; cases h; unfold wantedS; rw [hg]
  · rename_i j want hg
    split at h
    · rename_i t hj
      obtain ⟨v, h1, h2⟩ := ob_some h
      exact kWnt_ok he hg hj h1 h2
    · cases h
noncomputable def uv : V := .o (.r undef)
theorem uv_R (σ : Sg) : VR σ uv undef := rfl
structure CalF where
  run : FE → Option (Nat × List V)
noncomputable def cal (n : Nat) (op : Op) : CalF := match op with
  | .call ⟨.value x, as, _⟩ => ⟨fun e => ob (opv n e x) fun f => ob (opvs n e as.toList) fun vs => kCal f vs⟩
  | _ => ⟨fun _ => none⟩
theorem cal_ok {n : Nat} {e : FE} {o : Oper} {f : Nat} {args : List V} (h : (cal n o.op).run e = some (f, args)) : ∀ {σ : Sg} {E : Env}, ER σ n e E → ∃ x as ts fl cl, o.op = .call { callee := .value x, args := List.toArray as, argTypes := ts } ∧
    ev n E x = .func (.func f) (List.toArray fl) (List.toArray cl) ∧ All2 (VR σ) args (fl ++ as.map (ev n E) ++ cl) := by
  intro σ E he
  generalize ho : o.op = op at h
  unfold cal at h
  split at h
  · rename_i x as ts
    obtain ⟨fv, h1, h6⟩ := ob_some h
    obtain ⟨vs, h2, h7⟩ := ob_some h6
    clear h h6
    unfold kCal at h7
    split at h7
    · rename_i ff fl cl
      have h' := Option.some.inj h7
      have e1 : ff = f := congrArg Prod.fst h'
      have e2 : app (prs fl) (app vs (prs cl)) = args := congrArg Prod.snd h'
      subst e1 e2
      obtain ⟨vf, vc, h3, h4, h5⟩ : SR σ (.f ff fl cl) (ev n E x) := he.opv h1
      refine ⟨x, as.toList, ts, vf, vc, by simp, h3, ?_⟩
      rw [app_eq, app_eq, ← List.append_assoc]
      exact ((prs_R h4).append (opvs_R he _ _ h2)).append (prs_R h5)
    · cases h7
  · cases h
noncomputable def ikb : Ik := ⟨fun _ _ _ _ => none⟩
/-- An item ahead of what goes in order: d, m, n, a, s. -/
noncomputable def ith (P : Program) (n : Nat) (ops : Array Oper) (x : Gv.Item) : Ik := match ops[x.2]? with
  | none => ikb
  | some o => match x.1 with
    | .d => ⟨fun _ h0 k s => ob ((wan n ops o).run s.e) fun b => cond b (ob ((pur0 P n o).run s.e s.h) fun v => ob (rdo n s.e o.op) fun r => Nat.rec (motive := fun _ => Option _) (k ⟨dpt o.dst s.e v, s.h, s.rd, s.cl, s.gn⟩) (fun j _ => grd (Nat.blt j h0.n) (grd (Nat.ble (s.h.ver j) h0.c) (k ⟨dpt o.dst s.e v, s.h, j :: s.rd, s.cl, s.gn⟩))) r)
        (k ⟨dpt o.dst s.e uv, s.h, s.rd, s.cl, s.gn⟩)⟩
    | .e => ⟨fun _ _ k s => ob ((wan n ops o).run s.e) fun b => cond b (ob ((pur0 P n o).run s.e s.h) fun v => ob (rdo n s.e o.op) fun _ => k ⟨dpt o.dst s.e v, s.h, s.rd, s.cl, s.gn⟩)
        (k ⟨dpt o.dst s.e uv, s.h, s.rd, s.cl, s.gn⟩)⟩
    | .m => ⟨fun cf _ k s => ob ((wan n ops o).run s.e) fun b => cond b (ob ((cal n o.op).run s.e) fun c => grd (c.2.all pkn) (ob (cf c.1 c.2 H.none) fun r => grd (pkn r.1) (k ⟨dpt o.dst s.e r.1, s.h, s.rd, s.cl, s.gn⟩)))
        (k ⟨dpt o.dst s.e uv, s.h, s.rd, s.cl, s.gn⟩)⟩
    | .n => ⟨fun cf _ k s => ob ((wan n ops o).run s.e) fun b => cond b ((cop0 P n o).run cf (fun e h => k ⟨e, h, s.rd, false, h :: s.gn⟩) (fun _ _ _ => none) s.e s.h)
        (k ⟨dpt o.dst s.e uv, s.h, s.rd, s.cl, s.gn⟩)⟩
    | .a => ⟨fun _ _ k s => ob ((wan n ops o).run s.e) fun b => cond b (ob ((alc P n false o.op).run s.e s.h) fun r => k ⟨dpt o.dst s.e r.1, r.2, s.rd, false, s.gn⟩)
        (k ⟨dpt o.dst s.e uv, s.h, s.rd, s.cl, s.gn⟩)⟩
    | .s => ⟨fun _ _ k s => ob ((wan n ops o).run s.e) fun b => cond b (ob ((alc P n true o.op).run s.e s.h) fun r => k ⟨dpt o.dst s.e r.1, r.2, s.rd, false, s.gn⟩)
        (k ⟨dpt o.dst s.e uv, s.h, s.rd, s.cl, s.gn⟩)⟩
    | _ => ikb
/-- One item for another one: where it is not carried out. -/
def Wk (a b : Gv.Item) : Prop := a.2 = b.2 ∧ (a.1 = b.1 ∨ (b.1.tail = false ∧ a.1 = .d) ∨ (b.1.tail = true ∧ a.1 = .p))
/-- What was read is as it was behind what turned the memory. -/
def finD (h0 : H) (s : DS) : Prop := ∀ k ∈ s.rd, k < h0.n ∧ ∀ g ∈ s.gn, g.ver k ≤ h0.c
noncomputable def finB (h0 : H) (s : DS) : Bool := s.rd.all fun k => and (Nat.blt k h0.n) (s.gn.all fun g => Nat.ble (g.ver k) h0.c)
theorem finB_ok {h0 : H} {s : DS} (h : finB h0 s = true) : finD h0 s := by
  intro k hk
  have := List.all_eq_true.1 h k hk
  have h3 : (Nat.blt k h0.n && s.gn.all fun g => Nat.ble (g.ver k) h0.c) = true := this
  simp only [Bool.and_eq_true] at h3
  exact ⟨by simpa [Nat.blt_eq] using h3.1, fun g hg => Nat.le_of_ble_eq_true (List.all_eq_true.1 h3.2 g hg)⟩
def LR (rd : List Nat) (h0 : H) (rh : RH) : List HP := Lsel (fun k => rd.elem k) h0.n rh
def L0 (rd : List Nat) (h0 : H) (rh : RH) : List HP := Lsel (fun k => !rd.elem k) h0.n rh
/-- Where a region stands, and where the real memory does. -/
structure InvD (n : Nat) (σ0 : Sg) (h0 : H) (rh0 : RH) (rd : List Nat) (s : DS) (τ : Sg) (E : Env) (sh : RH) (X B : List HP) : Prop where
  er : ER τ n s.e E
  st : Stp σ0 τ h0 s.h rh0 sh
  perm : (X ++ B).Perm (Lof s.h.n sh)
  bb : ∃ B0, B = B0 ++ LR rd h0 rh0 ∧ (B0 = L0 rd h0 rh0 ∨ B0 = [])
section
variable {P : Program} {n : Nat} {ops : Array Oper}
theorem LR_mem {rd : List Nat} {h0 : H} {rh : RH} {k : Nat} {p : HP} (hk : k < h0.n) (hr : k ∈ rd) (hp : rh k = some p) : In (LR rd h0 rh) p :=
  In.of_mem (Lsel_mem hk (by simpa using hr) hp)
/-- What is asked of a head item. -/
def HdOK (P : Program) (n : Nat) (ops : Array Oper) (l : List Gv.Item) (k : Ik) : Prop := ∀ (β : Type) (cf : CF), CallOK P cf → ∀ (h0 : H) (K : DS → Option β) (s : DS) (y : β), k.run cf h0 K s = some y →
  ∃ s' ord', K s' = some y ∧ All2 Wk ord' l ∧ (∀ k ∈ s.rd, k ∈ s'.rd) ∧ (∀ g ∈ s.gn, g ∈ s'.gn) ∧
    ∀ (C : Ctx) (Q : SPost) (σ0 : Sg) (rh0 : RH) (sF : DS) (r : List Gv.Item) (τ : Sg) (E : Env) (sh : RH) (X B : List HP), C.P = P → C.n = n → HR σ0 h0 rh0 → finD h0 sF → (∀ k ∈ s'.rd, k ∈ sF.rd) → (∀ g ∈ s'.gn, g ∈ sF.gn) →
      InvD n σ0 h0 rh0 sF.rd s τ E sh X B → (∀ τ' E' sh' X' B', InvD n σ0 h0 rh0 sF.rd s' τ' E' sh' X' B' → E'.ds = E.ds → J C Q ops (L0 sF.rd h0 rh0) (LR sF.rd h0 rh0) r E' X' B') →
      J C Q ops (L0 sF.rd h0 rh0) (LR sF.rd h0 rh0) (ord' ++ r) E X B
theorem InvD.same {σ0 : Sg} {h0 : H} {rh0 : RH} {rd : List Nat} {s s' : DS} {τ : Sg} {E E' : Env} {sh : RH} {X B : List HP} (h : InvD n σ0 h0 rh0 rd s τ E sh X B) (he : ER τ n s'.e E') (hh : s'.h = s.h) (_hc : s'.cl = s.cl) : InvD n σ0 h0 rh0 rd s' τ E' sh X B :=
  ⟨he, by rw [hh]; exact h.st, by rw [hh]; exact h.perm, h.bb⟩
theorem unw_ok {x : Gv.Item} {o : Oper} (hx : x.1.tail = false) (ho : ops[x.2]? = some o) {s : DS} (hw : (wan n ops o).run s.e = some false) {C : Ctx} {Q : SPost} {σ0 : Sg} {h0 : H} {rh0 : RH} {rd : List Nat} {r : List Gv.Item} {τ : Sg} {E : Env} {sh : RH} {X B L0 Lr : List HP} (hn : C.n = n)
    (hi : InvD n σ0 h0 rh0 rd s τ E sh X B) (k : ∀ τ' E' sh' X' B', InvD n σ0 h0 rh0 rd ⟨dpt o.dst s.e uv, s.h, s.rd, s.cl, s.gn⟩ τ' E' sh' X' B' → E'.ds = E.ds → J C Q ops L0 Lr r E' X' B') : J C Q ops L0 Lr ((.d, x.2) :: r) E X B := by
  subst hn
  exact ⟨o, ho, undef, .inr ⟨wan_ok hw hi.er, rfl⟩, k τ _ sh X B (hi.same (hi.er.dpt (uv_R _)) rfl rfl) (updo_ds' _ _ _)⟩
theorem slk_J {C : Ctx} {Q : SPost} {L0 Lr : List HP} {sl : Bool} {i : Nat} {o : Oper} {r : List Gv.Item} {E : Env} {X B : List HP} (ho : ops[i]? = some o) {cs : List Value} {T l c : Nat} (hw : wantedS C.n ops E o = true)
    (hrun : ∀ w, (execOp (ev C.n E) o).run C.P w = .ok (.value (mkp sl l c w.heap.size)) (w.alloc (.cells cs.toArray T))) (k : ∀ b, J C Q ops L0 Lr r (updo E o.dst (mkp sl l c b)) (.blk b (.cells cs.toArray T) :: X) B) : J C Q ops L0 Lr ((cond sl .s .a, i) :: r) E X B := by
  cases sl with
  | false => exact ⟨o, ho, mkp false l c, fun b => .blk b (.cells cs.toArray T), ⟨hw, cs, T, hrun, rfl, rfl⟩, fun b _ => k b⟩
  | true => exact ⟨o, ho, mkp true l c, fun b => .blk b (.cells cs.toArray T), ⟨hw, cs, T, hrun, l, c, rfl, rfl⟩, fun b _ => k b⟩
theorem alc_J {sl : Bool} {x : Gv.Item} (hk : x.1 = cond sl .s .a) {o : Oper} (ho : ops[x.2]? = some o) {s : DS} (hw : (wan n ops o).run s.e = some true) {v : V} {g : H} (ha : (alc P n sl o.op).run s.e s.h = some (v, g)) {C : Ctx} {Q : SPost} {σ0 : Sg} {h0 : H} {rh0 : RH} {rd : List Nat} {r : List Gv.Item} {τ : Sg} {E : Env} {sh : RH} {X B L0 Lr : List HP} (hP : C.P = P) (hn : C.n = n)
    (hi : InvD n σ0 h0 rh0 rd s τ E sh X B) (k : ∀ τ' E' sh' X' B', InvD n σ0 h0 rh0 rd ⟨dpt o.dst s.e v, g, s.rd, false, s.gn⟩ τ' E' sh' X' B' → E'.ds = E.ds → J C Q ops L0 Lr r E' X' B') : J C Q ops L0 Lr (x :: r) E X B := by
  obtain ⟨cs, T, l, c, cv, hrun, hg, hcv, hv⟩ := alc_ok ha τ E sh hi.er hi.st.hr
  subst hP hn
  obtain ⟨kd, i⟩ := x
  have hk : kd = cond sl .s .a := hk
  subst hk
  refine slk_J ho (wan_ok hw hi.er) hrun fun b => ?_
  have hh := hi.st.hr
  have hst := Stp.new (b := b) (c := 0) (tl := []) hh (v := .c T cv) (o := .cells cs.toArray T (0, 0)) (by simp) ⟨cs, rfl, hcv.mono fun _ _ => SR.mono (Sg.new_le (hh.out _ (Nat.le_refl _)))⟩
  subst hg
  refine k _ _ _ _ _ ⟨(hi.er.mono hst.ext.le).dpt (hv b), hi.st.trans hst, ?_, hi.bb⟩ (updo_ds' _ _ _)
  show (HP.blk b (.cells cs.toArray T) :: (X ++ B)).Perm (Lof (H.new s.h (.c T cv)).n _)
  rw [H.n_new]
  exact (hi.perm.cons _).trans (Lof_new s.h.n sh _).symm
theorem ith_ok (x : Gv.Item) : HdOK P n ops [x] (ith P n ops x) := by
  intro β cf hcf h0 K s y hy
  obtain ⟨kd, i⟩ := x
  unfold ith at hy
  split at hy
  · cases hy
  rename_i o ho
  have ho : ops[i]? = some o := ho
  have unw : ∀ (hkd : kd.tail = false), (wan n ops o).run s.e = some false → K ⟨dpt o.dst s.e uv, s.h, s.rd, s.cl, s.gn⟩ = some y → _ := fun hkd hw hK =>
    (⟨_, [(.d, i)], hK, .cons ⟨rfl, .inr (.inl ⟨hkd, rfl⟩)⟩ .nil, fun _ h => h, fun _ h => h, fun C Q σ0 rh0 sF r τ E sh X B hP hn hh0 hfin hsub hgn hi k => unw_ok (x := (kd, i)) hkd ho hw hn hi k⟩ :
      ∃ s' ord', K s' = some y ∧ All2 Wk ord' [(kd, i)] ∧ (∀ k ∈ s.rd, k ∈ s'.rd) ∧ (∀ g ∈ s.gn, g ∈ s'.gn) ∧
    ∀ (C : Ctx) (Q : SPost) (σ0 : Sg) (rh0 : RH) (sF : DS) (r : List Gv.Item) (τ : Sg) (E : Env) (sh : RH) (X B : List HP), C.P = P → C.n = n → HR σ0 h0 rh0 → finD h0 sF → (∀ k ∈ s'.rd, k ∈ sF.rd) → (∀ g ∈ s'.gn, g ∈ sF.gn) →
      InvD n σ0 h0 rh0 sF.rd s τ E sh X B → (∀ τ' E' sh' X' B', InvD n σ0 h0 rh0 sF.rd s' τ' E' sh' X' B' → E'.ds = E.ds → J C Q ops (L0 sF.rd h0 rh0) (LR sF.rd h0 rh0) r E' X' B') →
      J C Q ops (L0 sF.rd h0 rh0) (LR sF.rd h0 rh0) (ord' ++ r) E X B)
  cases kd with
  | d =>
    obtain ⟨b, hw, hy⟩ := ob_some hy
    cases b with
    | false => exact unw rfl hw hy
    | true =>
      obtain ⟨v, h1, hy⟩ := ob_some hy
      obtain ⟨r0, h2, hy⟩ := ob_some hy
      obtain ⟨rd, h3, h4⟩ := pur0_ok s.e s.h v h1
      have h4 := h4 r0 h2
      subst h4
      cases rd with
      | zero =>
        refine ⟨_, [(.d, i)], hy, .cons ⟨rfl, .inl rfl⟩ .nil, fun _ h => h, fun _ h => h, fun C Q σ0 rh0 sF r τ E sh X B hP hn hh0 hfin hsub hgn hi k => ?_⟩
        subst hP hn
        obtain ⟨z, hv, hyl⟩ := h3 τ E sh hi.er hi.st.hr
        exact ⟨o, ho, z, .inl ⟨wan_ok hw hi.er, hyl C _ rfl rfl fun j p h0' => by cases h0'⟩, k τ _ sh X B (hi.same (hi.er.dpt hv) rfl rfl) (updo_ds' _ _ _)⟩
      | succ j =>
        obtain ⟨q1, hy⟩ := grd_some hy
        obtain ⟨q2, hy⟩ := grd_some hy
        refine ⟨_, [(.d, i)], hy, .cons ⟨rfl, .inl rfl⟩ .nil, fun _ h => List.mem_cons_of_mem _ h, fun _ h => h, fun C Q σ0 rh0 sF r τ E sh X B hP hn hh0 hfin hsub hgn hi k => ?_⟩
        subst hP hn
        obtain ⟨z, hv, hyl⟩ := h3 τ E sh hi.er hi.st.hr
        have hj : j < h0.n := by simpa [Nat.blt_eq] using q1
        refine ⟨o, ho, z, .inl ⟨wan_ok hw hi.er, hyl C _ rfl rfl fun j' p hj' _ hp => ?_⟩, k τ _ sh X B (hi.same (hi.er.dpt hv) rfl rfl) (updo_ds' _ _ _)⟩
        cases hj'
        refine LR_mem hj (hsub j (by simp)) ?_
        rw [← (hi.st.keep j hj (Nat.le_of_ble_eq_true q2)).1]; exact hp
  | e =>
    obtain ⟨b, hw, hy⟩ := ob_some hy
    cases b with
    | false => exact unw rfl hw hy
    | true =>
      obtain ⟨v, h1, hy⟩ := ob_some hy
      obtain ⟨r0, h2, hy⟩ := ob_some hy
      obtain ⟨rd, h3, h4⟩ := pur0_ok s.e s.h v h1
      refine ⟨_, [(.e, i)], hy, .cons ⟨rfl, .inl rfl⟩ .nil, fun _ h => h, fun _ h => h, fun C Q σ0 rh0 sF r τ E sh X B hP hn hh0 hfin hsub hgn hi k => ?_⟩
      subst hP hn
      obtain ⟨z, hv, hyl⟩ := h3 τ E sh hi.er hi.st.hr
      exact ⟨o, ho, z, .inl ⟨wan_ok hw hi.er, hyl C _ rfl rfl fun j p h0' hj hp => In.of_mem (hi.perm.mem_iff.2 (HR.mem hj hp))⟩, k τ _ sh X B (hi.same (hi.er.dpt hv) rfl rfl) (updo_ds' _ _ _)⟩
  | m =>
    obtain ⟨b, hw, hy⟩ := ob_some hy
    cases b with
    | false => exact unw rfl hw hy
    | true =>
      obtain ⟨⟨f, args⟩, h1, hy⟩ := ob_some hy
      obtain ⟨h2, hy⟩ := grd_some hy
      obtain ⟨⟨v, g⟩, h3, hy⟩ := ob_some hy
      obtain ⟨h4, hy⟩ := grd_some hy
      refine ⟨_, [(.m, i)], hy, .cons ⟨rfl, .inl rfl⟩ .nil, fun _ h => h, fun _ h => h, fun C Q σ0 rh0 sF r τ E sh X B hP hn hh0 hfin hsub hgn hi k => ?_⟩
      subst hP hn
      obtain ⟨y', as, ts, fl, cl, hop, hyv, ha⟩ := cal_ok h1 hi.er
      have hargs := pkns_eq h2 ha
      exact ⟨o, ho, pv v, ⟨wan_ok hw hi.er, f, (args.map pv).toArray, fun w => by rw [run_call hop hyv (hcf.fn _ _ _ _ h3), hargs], fun w _ => hcf.det h3 h2 h4 w⟩, k τ _ sh X B (hi.same (hi.er.dpt (pkn_R h4)) rfl rfl) (updo_ds' _ _ _)⟩
  | n =>
    obtain ⟨b, hw, hy⟩ := ob_some hy
    cases b with
    | false => exact unw rfl hw hy
    | true =>
      rcases cop0_ok (P := P) (n := n) (o := o) _ cf hcf _ _ s.e s.h y hy with ⟨e1, g, hy, h3⟩ | ⟨v, g, hy, h3⟩
      · refine ⟨_, [(.n, i)], hy, .cons ⟨rfl, .inl rfl⟩ .nil, fun _ h => h, fun g' h => List.mem_cons_of_mem _ h, fun C Q σ0 rh0 sF r τ E sh X B hP hn hh0 hfin hsub hgn hi k => ?_⟩
        have hgF := hgn g (by simp)
        have hq : ∀ k, k < h0.n → (!sF.rd.elem k) = false → g.ver k ≤ h0.c := fun k hk hqk => (hfin k (by simpa using hqk)).2 g hgF
        obtain ⟨B0, hB, hB0⟩ := hi.bb
        have hperm : (Lof s.h.n sh).Perm ((B0 ++ X) ++ LR sF.rd h0 rh0) := by
          refine hi.perm.symm.trans ?_
          rw [hB, ← List.append_assoc]
          exact List.Perm.append_right _ List.perm_append_comm
        have hsplit : ∀ {τ' : Sg} {sh' : RH}, Stp τ τ' s.h g sh sh' → ∃ L2, (Lof g.n sh').Perm (L2 ++ LR sF.rd h0 rh0) := fun h5 => by
          have := (hi.st.trans h5).split (fun k => !sF.rd.elem k) hq
          simp only [Bool.not_not] at this
          exact ⟨_, this⟩
        subst hP hn
        refine ⟨o, ho, fun x L2 => ∃ τ' sh', Stp τ τ' s.h g sh sh' ∧ ER τ' C.n e1 (updo E o.dst x) ∧ (Lof g.n sh').Perm (L2 ++ LR sF.rd h0 rh0), B0, X, [], ⟨hB, hB0⟩, by rw [List.append_nil], ⟨wan_ok hw hi.er, fun w hst => ?_⟩, ?_⟩
        · have hsat := hst.sat
          have hst1 := St.init _ w ((hst.perm hperm.symm).sat)
          have := h3 { C with w0 := w, M := doms (Lof s.h.n sh) } τ E sh rfl rfl hi.er hi.st.hr w hst1
          refine Big.mono2 this (fun x w' hh => ?_) (fun _ _ hh => hh.elim)
          obtain ⟨τ', sh', h5, h6, h7⟩ := hh
          obtain ⟨L2, hL2⟩ := hsplit h5
          refine ⟨L2, ⟨τ', sh', h5, h6, hL2⟩, ?_⟩
          refine St.restrict (Lr := LR sF.rd h0 rh0) ⟨h7.sat, Fr.sub h7.fr (doms_perm hperm), fun b hb => (h7.own b hb).imp (doms_perm hperm b).1 id⟩ hsat (Lsel_blk hh0) hL2
        · rintro x L2 ⟨τ', sh', h5, h6, h7⟩ _
          refine k τ' _ sh' _ _ ⟨h6, hi.st.trans h5, ?_, ⟨[], rfl, .inr rfl⟩⟩ (updo_ds' _ _ _)
          rw [List.append_nil]; exact h7.symm
      · cases hy
  | a =>
    obtain ⟨b, hw, hy⟩ := ob_some hy
    cases b with
    | false => exact unw rfl hw hy
    | true =>
      obtain ⟨⟨v, g⟩, h1, hy⟩ := ob_some hy
      exact ⟨_, [(.a, i)], hy, .cons ⟨rfl, .inl rfl⟩ .nil, fun _ h => h, fun _ h => h, fun C Q σ0 rh0 sF r τ E sh X B hP hn hh0 hfin hsub hgn hi k => alc_J (sl := false) (x := (.a, i)) rfl ho hw h1 hP hn hi k⟩
  | s =>
    obtain ⟨b, hw, hy⟩ := ob_some hy
    cases b with
    | false => exact unw rfl hw hy
    | true =>
      obtain ⟨⟨v, g⟩, h1, hy⟩ := ob_some hy
      exact ⟨_, [(.s, i)], hy, .cons ⟨rfl, .inl rfl⟩ .nil, fun _ h => h, fun _ h => h, fun C Q σ0 rh0 sF r τ E sh X B hP hn hh0 hfin hsub hgn hi k => alc_J (sl := true) (x := (.s, i)) rfl ho hw h1 hP hn hi k⟩
  | b => cases hy
  | p => cases hy
end
end Go.Gx
