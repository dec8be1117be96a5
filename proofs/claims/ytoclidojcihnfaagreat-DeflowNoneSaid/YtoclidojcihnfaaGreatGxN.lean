/- Part of an evaluator of the program's calls, proved sound: what it yields, the program does in every world. No condition beyond those that each theorem names. -/
import Derived.Test.YtoclidojcihnfaaGreatGxMm
set_option linter.unusedVariables false
set_option linter.unusedSimpArgs false
namespace Go.Gx
open Go.RowKit Go.Gv

/-! ### Calls -/
abbrev CF := Nat → List V → H → Option (V × H)
def one1 (v : Value) : List PanicEntry := [{ v, recovered := false }]
/-- How a call ends. -/
def RE (σ : Sg) (h g : H) (rh : RH) (v : V) : Ending → List HP → Prop
  | .returned x, L' => ∃ τ sh, Stp σ τ h g rh sh ∧ VR τ v x ∧ L' = Lof g.n sh
  | .panicked ch, L' => ∃ pv τ sh, v = .x pv ∧ ch = one1 pv ∧ Stp σ τ h g rh sh ∧ L' = Lof g.n sh
  | .outgrown, _ => False
/-- What is asked of a way to run calls. -/
structure CallOK (P : Program) (cf : CF) : Prop where
  fn : ∀ f args h r, cf f args h = some r → Callable P f
  run : ∀ f args h v g, cf f args h = some (v, g) → ∀ (σ : Sg) (rh : RH) (xs : List Value) (w : World), All2 (VR σ) args xs → HR σ h rh → Sat (Lof h.n rh) w →
    Tri P f xs.toArray w (Lof h.n rh) (RE σ h g rh v)
noncomputable def prs (l : List (Nat × Nat)) : List V := l.map fun p => .o (.p p.1 p.2)
theorem prs_R {σ : Sg} {l : List (Nat × Nat)} {vs : List Value} (h : All2 (PR σ) l vs) : All2 (VR σ) (prs l) vs := by
  induction h with
  | nil => exact .nil
  | cons h _ ih => exact .cons h ih
noncomputable def app {α : Type} (a b : List α) : List α := List.rec (motive := fun _ => List α) b (fun x _ ih => x :: ih) a
theorem app_eq {α : Type} (a b : List α) : app a b = a ++ b := by
  induction a with
  | nil => rfl
  | cons x a ih => exact congrArg (x :: ·) ih
/-- A call's function and arguments. -/
noncomputable def kCal (f : V) (vs : List V) : Option (Nat × List V) := match f with
  | .o (.f f fl cl) => some (f, app (prs fl) (app vs (prs cl)))
  | _ => none
noncomputable def pnk {γ : Type} (v : V) (f : Value → γ) (k : γ) : γ := V.rec (motive_1 := fun _ => γ) (motive_2 := fun _ => Unit) (fun _ => k) (fun _ => k) (fun _ _ => k) (fun v => f v) () (fun _ _ _ _ => ()) v
theorem pnk_cases {γ : Type} (v : V) (f : Value → γ) (k : γ) : (∃ x, v = .x x ∧ pnk v f k = f x) ∨ ((∀ x, v ≠ .x x) ∧ pnk v f k = k) := by
  cases v with
  | x v => exact .inl ⟨v, rfl, rfl⟩
  | o _ => exact .inr ⟨by simp, rfl⟩
  | a _ => exact .inr ⟨by simp, rfl⟩
  | t _ => exact .inr ⟨by simp, rfl⟩

/-! ### One operation -/
noncomputable def dpt (d : Option Nat) (e : FE) (v : V) : FE := Option.rec (motive := fun _ => FE) e (fun d => e.set d v) d
theorem ER.dpt {σ : Sg} {n : Nat} {e : FE} {E : Env} {d : Option Nat} {v : V} {x : Value} (h : ER σ n e E) (hv : VR σ v x) : ER σ n (dpt d e v) (updo E d x) := by
  cases d with
  | none => exact h
  | some d => exact h.upd hv
theorem updo_ds' (e : Env) (d : Option Nat) (v : Value) : (updo e d v).ds = e.ds := by cases d <;> rfl
structure Ok : Type 1 where
  run : {β : Type} → CF → (FE → H → Option β) → (Value → FE → H → Option β) → FE → H → Option β
noncomputable def bad : Ok := ⟨fun _ _ _ _ _ => none⟩
noncomputable def okV (d : Option Nat) (f : FE → H → Option V) : Ok := ⟨fun _ kn _ e h => ob (f e h) fun v => kn (dpt d e v) h⟩
noncomputable def okT (d : Option Nat) (f : FE → H → Option (V × H)) : Ok := ⟨fun _ kn _ e h => ob (f e h) fun r => kn (dpt d e r.1) r.2⟩
noncomputable def okS (d : Option Nat) (f : FE → H → Option H) : Ok := match d with
  | none => ⟨fun _ kn _ e h => ob (f e h) fun g => kn e g⟩
  | some _ => bad
noncomputable def okC (d : Option Nat) (f : FE → Option (Nat × List V)) : Ok := ⟨fun cf kn kp e h => ob (f e) fun c => ob (cf c.1 c.2 h) fun r => pnk r.1 (fun v => kp v e r.2) (kn (dpt d e r.1) r.2)⟩
theorem Big.mono2 {P : Program} {K K' : Value → World → Prop} {N N' : List PanicEntry → World → Prop} {r : Result Next} (h : Big P K N r) (hk : ∀ v w, K v w → K' v w) (hn : ∀ c w, N c w → N' c w) : Big P K' N' r := by
  cases r with
  | ok x w =>
    cases x <;> simp only [Big] at h ⊢ <;> first | exact hk _ _ h | exact h.elim | skip
    refine Calls.mono h fun en w' hh => ?_
    cases en with
    | returned v => exact hk _ _ hh
    | panicked ch => exact hn _ _ hh
    | outgrown => exact hh.elim
  | halt x w => cases x <;> simp only [Big] at h ⊢ <;> first | exact hn _ _ h | exact h.elim
/-- A step of a row of operations, by what the operation comes to. -/
theorem WL.big {C : Ctx} {Q : SPost} {ops : Array Oper} {o : Oper} {l : List Oper} {e : Env} {L : List HP} (hw : wantedS C.n ops e o = true)
    (h : ∀ w, St C.w0 C.M L w → Big C.P (fun v w' => ∃ L', St C.w0 C.M L' w' ∧ WL C ops Q l (updo e o.dst v) L') (fun ch w' => ∃ L', St C.w0 C.M L' w' ∧ Q (.panic ch) e L') ((execOp (ev C.n e) o).run C.P w)) : WL C ops Q (o :: l) e L := by
  intro w hst
  refine wpListIn_step fun K hK => ?_
  rw [yielded_mk, hw]
  simp only [if_true]
  have hb := h w hst
  cases hr : (execOp (ev C.n e) o).run C.P w with
  | ok x w' =>
    rw [hr] at hb
    cases x <;> simp only [Big] at hb <;> first | exact hb.elim | skip
    case value v => obtain ⟨L', h1, h2⟩ := hb; exact opIn_value (by rw [mk_eval]; exact hr) (hK _ _ (by rw [mk_put]; exact h2 w' h1))
    case skip => obtain ⟨L', h1, h2⟩ := hb; exact opIn_skip (by rw [mk_eval]; exact hr) (hK _ _ (by rw [mk_put]; exact h2 w' h1))
    case enter f args =>
      refine opIn_enter (by rw [mk_eval]; exact hr) (Calls.mono hb fun en w2 hh => ?_)
      cases en with
      | returned v => obtain ⟨L', h1, h2⟩ := hh; exact hK _ _ (by rw [mk_put]; exact h2 w2 h1)
      | panicked ch => obtain ⟨L', h1, h2⟩ := hh; exact ⟨e, L', rfl, h1, h2⟩
      | outgrown => exact hh.elim
  | halt x w' =>
    rw [hr] at hb
    cases x <;> simp only [Big] at hb <;> first | exact hb.elim | skip
    case panic v => obtain ⟨L', h1, h2⟩ := hb; exact opIn_panic (by rw [mk_eval]; exact hr) ⟨e, L', rfl, h1, h2⟩
/-- The operation ends well. -/
def Op1 (P : Program) (n : Nat) (o : Oper) (e : FE) (h : H) (e1 : FE) (h1 : H) : Prop := ∀ (C : Ctx) (σ : Sg) (E : Env) (rh : RH), C.P = P → C.n = n → ER σ n e E → HR σ h rh → ∀ w, St C.w0 C.M (Lof h.n rh) w →
  Big C.P (fun x w' => ∃ τ sh, Stp σ τ h h1 rh sh ∧ ER τ n e1 (updo E o.dst x) ∧ St C.w0 C.M (Lof h1.n sh) w') (fun _ _ => False) ((execOp (ev C.n E) o).run C.P w)
/-- The operation panics. -/
def OpP (P : Program) (n : Nat) (o : Oper) (e : FE) (h : H) (v : Value) (h1 : H) : Prop := ∀ (C : Ctx) (σ : Sg) (E : Env) (rh : RH), C.P = P → C.n = n → ER σ n e E → HR σ h rh → ∀ w, St C.w0 C.M (Lof h.n rh) w →
  Big C.P (fun _ _ => False) (fun ch w' => ch = one1 v ∧ ∃ τ sh, Stp σ τ h h1 rh sh ∧ St C.w0 C.M (Lof h1.n sh) w') ((execOp (ev C.n E) o).run C.P w)
def OkOK (P : Program) (n : Nat) (o : Oper) (k : Ok) : Prop := ∀ (β : Type) (cf : CF), CallOK P cf → ∀ (kn : FE → H → Option β) (kp : Value → FE → H → Option β) (e : FE) (h : H) (y : β), k.run cf kn kp e h = some y →
  (∃ e1 h1, kn e1 h1 = some y ∧ Op1 P n o e h e1 h1) ∨ (∃ v h1, kp v e h1 = some y ∧ OpP P n o e h v h1)
theorem Outs.all (L : List HP) : Outs L L [] := by
  induction L with
  | nil => exact .nil
  | cons p L ih => exact .cons .head ih
section
variable {P : Program} {n : Nat} {ops : Array Oper} {o : Oper}
theorem bad_ok : OkOK P n o bad := fun _ cf _ kn kp e h y hy => by cases hy
theorem Op1.trn {e : FE} {h g : H} {v : V} (k : Trn P n e h o v g) : Op1 P n o e h (dpt o.dst e v) g := by
  intro C σ E rh hP hn he hr w hst
  subst hP hn
  obtain ⟨x, w', L', h1, ⟨τ, sh, hs, hv, rfl⟩, h3⟩ := k σ E rh he hr C rfl rfl w hst
  rw [h1]
  exact ⟨τ, sh, hs, (he.mono hs.ext.le).dpt hv, h3⟩
theorem okV_ok {f : FE → H → Option V} (hf : ∀ e h v, f e h = some v → ∃ rd, Pur P n e h o v rd) : OkOK P n o (okV o.dst f) := by
  intro β cf _ kn kp e h y hy
  obtain ⟨v, h1, h2⟩ := ob_some hy
  obtain ⟨rd, h3⟩ := hf e h v h1
  exact .inl ⟨_, _, h2, Op1.trn h3.trn⟩
theorem okT_ok {f : FE → H → Option (V × H)} (hf : ∀ e h v g, f e h = some (v, g) → Trn P n e h o v g) : OkOK P n o (okT o.dst f) := by
  intro β cf _ kn kp e h y hy
  obtain ⟨⟨v, g⟩, h1, h2⟩ := ob_some hy
  exact .inl ⟨_, _, h2, Op1.trn (hf e h v g h1)⟩
theorem okS_ok {f : FE → H → Option H} (hf : ∀ e h g, f e h = some g → Trn0 P n e h o g) : OkOK P n o (okS o.dst f) := by
  unfold okS
  split
  · rename_i hd
    intro β cf _ kn kp e h y hy
    obtain ⟨g, h1, h2⟩ := ob_some hy
    refine .inl ⟨_, _, h2, ?_⟩
    intro C σ E rh hP hn he hr w hst
    subst hP hn
    obtain ⟨w', L', h3, ⟨τ, sh, hs, rfl⟩, h5⟩ := hf e h g h1 σ E rh he hr C rfl rfl w hst
    rw [h3]
    refine ⟨τ, sh, hs, ?_, h5⟩
    rw [hd]; exact he.mono hs.ext.le
  · exact bad_ok
theorem okC_ok {x : Operand} {as : List Operand} {ts : Array TypeId} (ho : o.op = .call { callee := .value x, args := as.toArray, argTypes := ts }) {f : FE → Option (Nat × List V)}
    (hf : ∀ e c, f e = some c → ∃ fv vs, opv n e x = some fv ∧ opvs n e as = some vs ∧ kCal fv vs = some c) : OkOK P n o (okC o.dst f) := by
  intro β cf hcf kn kp e h y hy
  obtain ⟨⟨f', args⟩, h1, hy2⟩ := ob_some hy
  obtain ⟨⟨v, g⟩, h2, hy3⟩ := ob_some hy2
  clear hy hy2
  obtain ⟨fv, vs, h3, h4, h5⟩ := hf e _ h1
  unfold kCal at h5
  split at h5
  · rename_i ff fl cl
    have h5 := Option.some.inj h5
    have e1 : f' = ff := (congrArg Prod.fst h5).symm
    have e2 : args = app (prs fl) (app vs (prs cl)) := (congrArg Prod.snd h5).symm
    subst e1 e2
    have hy : pnk v (fun v => kp v e g) (kn (dpt o.dst e v) g) = some y := hy3
    clear hy3
    have key : ∀ (C : Ctx) (σ : Sg) (E : Env) (rh : RH) (K : Value → World → Prop) (N : List PanicEntry → World → Prop), C.P = P → C.n = n → ER σ n e E → HR σ h rh → ∀ w, St C.w0 C.M (Lof h.n rh) w →
        (∀ ch L' w', RE σ h g rh v (.panicked ch) L' → St C.w0 C.M L' w' → N ch w') → (∀ x L' w', RE σ h g rh v (.returned x) L' → St C.w0 C.M L' w' → K x w') → Big C.P K N ((execOp (ev C.n E) o).run C.P w) := by
      intro C σ E rh K N hP hn he hr w hst kp kk
      subst hP hn
      obtain ⟨vf, vc, hxv, ha, hb⟩ : SR σ (.f f' fl cl) (ev C.n E x) := he.opv h3
      rw [run_call ho hxv (hcf.fn _ _ _ _ h2)]
      have htri := hcf.run f' _ h v g h2 σ rh (vf ++ as.map (ev C.n E) ++ vc) w (by
        rw [app_eq, app_eq, ← List.append_assoc]
        exact ((prs_R ha).append (opvs_R he _ _ h4)).append (prs_R hb)) hr hst.sat
      refine Calls.mono htri fun en w' hh => ?_
      obtain ⟨L', hR, hst'⟩ := hh
      have hnew : St C.w0 C.M L' w' := by
        have := St.step (A := Lof h.n rh) (B := L') (L := []) (by rw [List.append_nil]; exact hst) hst'
        rwa [List.append_nil] at this
      cases en with
      | returned x => exact kk x L' w' hR hnew
      | panicked ch => exact kp ch L' w' hR hnew
      | outgrown => exact hR.elim
    rcases pnk_cases v (fun v => kp v e g) (kn (dpt o.dst e v) g) with ⟨pv, hv, hp⟩ | ⟨hne, hp⟩
    · rw [hp] at hy
      refine .inr ⟨pv, g, hy, ?_⟩
      intro C σ E rh hP hn he hr w hst
      refine key C σ E rh _ _ hP hn he hr w hst ?_ ?_
      · rintro ch L' w' ⟨pv', τ, sh, hv', rfl, hs, rfl⟩ hst'
        rw [hv] at hv'; cases hv'
        exact ⟨rfl, τ, sh, hs, hst'⟩
      · rintro x L' w' ⟨τ, sh, hs, hvr, rfl⟩ hst'
        rw [hv] at hvr; exact hvr.elim
    · rw [hp] at hy
      refine .inl ⟨_, _, hy, ?_⟩
      intro C σ E rh hP hn he hr w hst
      refine key C σ E rh _ _ hP hn he hr w hst ?_ ?_
      · rintro ch L' w' ⟨pv', τ, sh, hv', _⟩ hst'
        exact absurd hv' (hne pv')
      · rintro x L' w' ⟨τ, sh, hs, hvr, rfl⟩ hst'
        exact ⟨τ, sh, hs, (he.mono hs.ext.le).dpt hvr, hst'⟩
  · cases h5
end
/-- What a guard asks. -/
noncomputable def kWnt (want : Bool) (v : V) : Option Bool := match v with
  | .o (.b b) => some (bequ b want)
  | .o (.r (.tuple _)) => some false
  | _ => none
noncomputable def gua (n : Nat) (ops : Array Oper) (o : Oper) (k : Ok) : Ok := match o.guard with
  | none => k
  | some (j, want) => match (ops[j]?).bind (·.dst) with
    | some t => ⟨fun cf kn kp e h => ob (opv n e (.tmp t)) fun v => ob (kWnt want v) fun b => cond b (k.run cf kn kp e h) (kn (dpt o.dst e (.o (.r undef))) h)⟩
    | none => bad
/-- As 'OkOK', but whether the operation is carried out is found out. -/
def OkG (P : Program) (n : Nat) (ops : Array Oper) (o : Oper) (k : Ok) : Prop := ∀ (β : Type) (cf : CF), CallOK P cf → ∀ (kn : FE → H → Option β) (kp : Value → FE → H → Option β) (e : FE) (h : H) (y : β), k.run cf kn kp e h = some y →
  (∃ e1 h1, kn e1 h1 = some y ∧ ∀ (C : Ctx) (Q : SPost) (σ : Sg) (E : Env) (rh : RH) (l : List Oper), C.P = P → C.n = n → ER σ n e E → HR σ h rh →
    (∀ τ E' sh, Stp σ τ h h1 rh sh → ER τ n e1 E' → E'.ds = E.ds → WL C ops Q l E' (Lof h1.n sh)) → WL C ops Q (o :: l) E (Lof h.n rh)) ∨
  (∃ v h1, kp v e h1 = some y ∧ ∀ (C : Ctx) (Q : SPost) (σ : Sg) (E : Env) (rh : RH) (l : List Oper), C.P = P → C.n = n → ER σ n e E → HR σ h rh →
    (∀ τ sh, Stp σ τ h h1 rh sh → Q (.panic (one1 v)) E (Lof h1.n sh)) → WL C ops Q (o :: l) E (Lof h.n rh))
theorem WL.no0 {C : Ctx} {Q : SPost} {ops : Array Oper} {o : Oper} {l : List Oper} {e : Env} {L : List HP} (hw : wantedS C.n ops e o = false) (hd : o.dst = none) (k : WL C ops Q l e L) : WL C ops Q (o :: l) e L := by
  intro w hst
  refine wpListIn_step fun K hK => ?_
  rw [yielded_mk, hw]
  simp only [Bool.false_eq_true, if_false]
  exact ⟨fun _ _ => trivial, hK _ _ (by rw [mk_put, hd]; exact k w hst)⟩
theorem kWnt_ok {n : Nat} {ops : Array Oper} {e : FE} {o : Oper} {b want : Bool} {j t : Nat} {v : V} {σ : Sg} {E : Env} (he : ER σ n e E) (hg : o.guard = some (j, want)) (hj : (ops[j]?).bind (·.dst) = some t) (hv : opv n e (.tmp t) = some v) (h : kWnt want v = some b) : wantedS n ops E o = b := by
  unfold wantedS
  rw [hg]
  simp only [hj]
  unfold kWnt at h
  split at h
  · rename_i b'
    cases h
    have : ev n E (.tmp t) = .bool b' := he.opv hv
    simp only [this]; exact (bequ_eq _ _).symm
  · rename_i u
    cases h
    have : ev n E (.tmp t) = .tuple u := he.opv hv
    simp only [this]
  · cases h
theorem Op1.wl {P : Program} {n : Nat} {ops : Array Oper} {o : Oper} {e e1 : FE} {h h1 : H} (k : Op1 P n o e h e1 h1) {C : Ctx} {Q : SPost} {σ : Sg} {E : Env} {rh : RH} {l : List Oper} (hP : C.P = P) (hn : C.n = n) (he : ER σ n e E) (hr : HR σ h rh) (hw : wantedS C.n ops E o = true)
    (kk : ∀ τ E' sh, Stp σ τ h h1 rh sh → ER τ n e1 E' → E'.ds = E.ds → WL C ops Q l E' (Lof h1.n sh)) : WL C ops Q (o :: l) E (Lof h.n rh) :=
  WL.big hw fun w hst => Big.mono2 (k C σ E rh hP hn he hr w hst) (fun v w' ⟨τ, sh, hs, he', hst'⟩ => ⟨_, hst', kk τ _ sh hs he' (updo_ds' _ _ _)⟩) (fun _ _ hh => hh.elim)
theorem OpP.wl {P : Program} {n : Nat} {ops : Array Oper} {o : Oper} {e : FE} {h h1 : H} {v : Value} (k : OpP P n o e h v h1) {C : Ctx} {Q : SPost} {σ : Sg} {E : Env} {rh : RH} {l : List Oper} (hP : C.P = P) (hn : C.n = n) (he : ER σ n e E) (hr : HR σ h rh) (hw : wantedS C.n ops E o = true)
    (kk : ∀ τ sh, Stp σ τ h h1 rh sh → Q (.panic (one1 v)) E (Lof h1.n sh)) : WL C ops Q (o :: l) E (Lof h.n rh) :=
  WL.big hw fun w hst => Big.mono2 (k C σ E rh hP hn he hr w hst) (fun _ _ hh => hh.elim) (fun ch w' ⟨hc, τ, sh, hs, hst'⟩ => ⟨_, hst', by rw [hc]; exact kk τ sh hs⟩)
theorem gua_ok {P : Program} {n : Nat} {ops : Array Oper} {o : Oper} {k : Ok} (hk : OkOK P n o k) : OkG P n ops o (gua n ops o k) := by
  intro β cf hcf kn kp e h y hy
  unfold gua at hy
  split at hy
  · rename_i hg
    have hw : ∀ m E, wantedS m ops E o = true := fun m E => by unfold wantedS; rw [hg]
    rcases hk _ cf hcf kn kp e h y hy with ⟨e1, h1, h2, h3⟩ | ⟨v, h1, h2, h3⟩
    · exact .inl ⟨e1, h1, h2, fun C Q σ E rh l hP hn he hr kk => h3.wl hP hn he hr (hw _ _) kk⟩
    · exact .inr ⟨v, h1, h2, fun C Q σ E rh l hP hn he hr kk => h3.wl hP hn he hr (hw _ _) kk⟩
  · rename_i j want hg
    split at hy
    · rename_i t hj
      obtain ⟨v, h1, hy⟩ := ob_some hy
      obtain ⟨b, h2, hy⟩ := ob_some hy
      cases b with
      | true =>
        rcases hk _ cf hcf kn kp e h y hy with ⟨e1, g1, h3, h4⟩ | ⟨v', g1, h3, h4⟩
        · exact .inl ⟨e1, g1, h3, fun C Q σ E rh l hP hn he hr kk => h4.wl hP hn he hr (by subst hn; exact kWnt_ok he hg hj h1 h2) kk⟩
        · exact .inr ⟨v', g1, h3, fun C Q σ E rh l hP hn he hr kk => h4.wl hP hn he hr (by subst hn; exact kWnt_ok he hg hj h1 h2) kk⟩
      | false =>
        refine .inl ⟨_, _, hy, fun C Q σ E rh l hP hn he hr kk => ?_⟩
        have hw : wantedS C.n ops E o = false := by subst hn; exact kWnt_ok he hg hj h1 h2
        cases hd : o.dst with
        | none =>
          rw [hd] at kk
          exact WL.no0 hw hd (kk σ E rh (Stp.refl hr) he rfl)
        | some d =>
          rw [hd] at kk
          exact WL.no hw hd (kk σ _ rh (Stp.refl hr) (he.upd rfl) rfl)
    · cases hy
/-- Pointers that a function holds. -/
noncomputable def ptrs (l : List V) : Option (List (Nat × Nat)) := List.rec (motive := fun _ => Option (List (Nat × Nat))) (some []) (fun v _ ih => match v with | .o (.p k off) => ob ih fun r => some ((k, off) :: r) | _ => none) l
noncomputable def kMkf (f : Nat) (a b : List V) : Option V := ob (ptrs a) fun a => ob (ptrs b) fun b => some (.o (.f f a b))
theorem ptrs_caps {n : Nat} {e : FE} : ∀ (ps : List Operand) {vs : List V} {r : List (Nat × Nat)}, opvs n e ps = some vs → ptrs vs = some r → caps n e ps = some r
  | [], vs, r, h, k => by cases h; cases k; rfl
  | p :: ps, vs, r, h, k => by
    obtain ⟨v, h1, h⟩ := ob_some h
    obtain ⟨vs', h2, h⟩ := ob_some h
    cases h
    show ob (opv n e p) (fun v => match v with | .o (.p k off) => ob (caps n e ps) fun r => some ((k, off) :: r) | _ => none) = _
    rw [h1]
    cases v with
    | o s =>
      cases s with
      | p kk off =>
        obtain ⟨r', k1, k2⟩ := ob_some k
        cases k2
        show ob (caps n e ps) _ = _
        rw [ptrs_caps ps h2 k1]; rfl
      | _ => cases k
    | _ => cases k
/-- The zero of an element's type. -/
noncomputable def zV0 (v : Value) : Option V := match v with
  | .agg a => ob (zSs a.toList) fun l => some (.a l)
  | v => ob (zS v) fun s => some (.o s)
theorem zV0_R {v : Value} {z : V} (h : zV0 v = some z) (σ : Sg) : V0R σ z v := by
  unfold zV0 at h
  split at h
  · rename_i a
    obtain ⟨l, h1, h2⟩ := ob_some h
    cases h2
    exact ⟨a.toList, by simp, zSs_SR h1⟩
  · obtain ⟨s, h1, h2⟩ := ob_some h
    cases h2
    exact zS_SR h1
/-- How an operation is carried out: told by its kind and its types. -/
noncomputable def cop0 (P : Program) (n : Nat) (o : Oper) : Ok := match o.op with
  | .move x => okV o.dst fun e _ => opv n e x
  | .assign x => okV o.dst fun e _ => opv n e x
  | .load t x => match aggI P t with
    | some false => okV o.dst fun e h => ob (opv n e x) fun a => kLd h a
    | some true => match tyI P t with
      | some q => okV o.dst fun e h => ob (opv n e x) fun a => kLdA q.2.1 h a
      | none => bad
    | none => bad
  | .store t x y => match aggI P t with
    | some false => match tyI P t with
      | some q => match q.2.1 with
        | 1 => okS o.dst fun e h => ob (opv n e x) fun a => ob (opv n e y) fun b => kSt h a b
        | _ => bad
      | none => bad
    | some true => match tyI P t with
      | some q => okS o.dst fun e h => ob (opv n e x) fun a => ob (opv n e y) fun b => kStA q.2.1 h a b
      | none => bad
    | none => bad
  | .binOp op t x y _ => okV o.dst fun e _ => ob (opv n e x) fun a => ob (opv n e y) fun b => (bop P op t).f a b
  | .indexAddr t x y => match slI P t with
    | some q => okV o.dst fun e _ => ob (opv n e x) fun a => ob (opv n e y) fun b => kIdx q.2.1 a b
    | none => match arI P t with
      | some q => okV o.dst fun e _ => ob (opv n e x) fun a => ob (opv n e y) fun b => kIdxA q.1 q.2.2 a b
      | none => bad
  | .index t x y => match P.underlying t with
    | some .string => okV o.dst fun e _ => ob (opv n e x) fun a => ob (opv n e y) fun b => kChr a b
    | _ => match arI P t with
      | some q => okV o.dst fun e _ => ob (opv n e x) fun a => ob (opv n e y) fun b => kIxV P q.1 q.2.1 q.2.2 a b
      | none => bad
  | .pick c x y => okV o.dst fun e _ => ob (opv n e c) fun c => kPick c (opv n e x) (opv n e y)
  | .fieldAddr s x f => match fldI P s f with
    | some d => okV o.dst fun e _ => ob (opv n e x) fun a => kFld d a
    | none => bad
  | .nilCheck x => okV o.dst fun e _ => ob (opv n e x) fun a => kNilc a
  | .extract x i => okV o.dst fun e _ => ob (opv n e x) fun a => kExt i a
  | .convert t u x => match P.underlying t with
    | some (.slice el) => match P.underlying el with
      | some (.int .u8) => match P.underlying u with
        | some .string => okV o.dst fun e h => ob (opv n e x) fun a => kB2S h a
        | _ => bad
      | _ => bad
    | some .string => match P.underlying u with
      | some (.slice el) => match P.underlying el with
        | some (.int .u8) => okT o.dst fun e h => ob (opv n e x) fun a => kS2B el h a
        | _ => bad
      | _ => bad
    | some (.int _) => match P_int P u with
      | some k => okV o.dst fun e _ => ob (opv n e x) fun a => kCv k a
      | none => bad
    | _ => bad
  | .slice t x lo hi mx => match P.underlying t with
    | some .string => match mx with
      | none => okV o.dst fun e _ => ob (opv n e x) fun a => ob (opo n e lo) fun l => ob (opo n e hi) fun h => kSlS a l h
      | some _ => bad
    | some (.pointer ar) => match arI P ar with
      | some q => okV o.dst fun e _ => ob (opv n e x) fun a => ob (opo n e lo) fun l => ob (opo n e hi) fun h => ob (opo n e mx) fun m => kSlA q.1 q.2.2 a l h m
      | none => bad
    | some (.array _ _) => match arI P t with
      | some q => okV o.dst fun e _ => ob (opv n e x) fun a => ob (opo n e lo) fun l => ob (opo n e hi) fun h => ob (opo n e mx) fun m => kSlA q.1 q.2.2 a l h m
      | none => bad
    | _ => match slI P t with
      | some q => okV o.dst fun e _ => ob (opv n e x) fun a => ob (opo n e lo) fun l => ob (opo n e hi) fun h => ob (opo n e mx) fun m => kSlL q.2.1 a l h m
      | none => bad
  | .build t ps => match tyI P t with
    | some q => match zSs q.1.cells.toList with
      | some zs => match arI P t with
        | some r => okV o.dst fun e _ => ob (opvs n e (ps.toList.map (·.2))) fun vs => kBldA r.2.2 zs (ps.toList.map (·.1)) vs
        | none => match stI P t with
          | some pl => okV o.dst fun e _ => ob (opvs n e (ps.toList.map (·.2))) fun vs => kBldS pl zs (ps.toList.map (·.1)) vs
          | none => bad
      | none => bad
    | none => bad
  | .makeFunc (.func f) fs cs => okV o.dst fun e _ => ob (opvs n e fs.toList) fun a => ob (opvs n e cs.toList) fun b => kMkf f a b
  | .unOp u t x => match u with
    | .not => okV o.dst fun e _ => ob (opv n e x) fun a => kNot a
    | .neg => okV o.dst fun e _ => ob (opv n e x) fun a => kNeg a
    | .xor => okV o.dst fun e _ => ob (opv n e x) fun a => kInv a
    | _ => bad
  | .makeMap t none => okT o.dst fun _ h => kMkM h
  | .lookup t x y ok => match P.underlying t with
    | some (.map kt et) => match tyI P et with
      | some q => match zV0 q.1 with
        | some z => okV o.dst fun e h => ob (opv n e x) fun m => ob (opv n e y) fun key => kLk P kt z ok h m key
        | none => bad
      | none => bad
    | _ => bad
  | .mapUpdate t x y z => match P.underlying t, o.dst with
    | some (.map kt _), none => okS none fun e h => ob (opv n e x) fun m => ob (opv n e y) fun key => ob (opv n e z) fun val => kUp P kt h m key val
    | _, _ => bad
  | .alloc t => match tyI P t with
    | some q => match zSs q.1.cells.toList with
      | some cs => okT o.dst fun _ h => kNew t (B.ofL cs) h
      | none => bad
    | none => bad
  | .box t x => okT o.dst fun e h => ob (opv n e x) fun a => kBox t h a
  | .buildSlice t len ps => match slI P t with
    | some q => match zSs q.2.2.2.cells.toList with
      | some zs => match Nat.beq zs.length q.2.1, Nat.blt 0 q.2.1, Nat.blt 0 len, Nat.ble (len * q.2.1) 16777216 with
        | true, true, true, true => okT o.dst fun e h => ob (opvs n e (ps.toList.map (·.2))) fun vs => kBsl q.1 q.2.1 len zs (ps.toList.map (·.1)) vs h
        | _, _, _, _ => bad
      | none => bad
    | none => bad
  | .makeSlice t x y => match slI P t with
    | some q => match zSs q.2.2.2.cells.toList with
      | some zs => match Nat.beq zs.length q.2.1, Nat.blt 0 q.2.1 with
        | true, true => okT o.dst fun e h => ob (opv n e x) fun a => ob (opv n e y) fun b => kMk q.1 q.2.2.1 zs h a b
        | _, _ => bad
      | none => bad
    | none => bad
  | .call c => match c with
    | ⟨.value x, as, _⟩ => okC o.dst fun e => ob (opv n e x) fun f => ob (opvs n e as.toList) fun vs => kCal f vs
    | ⟨.builtin .len, ⟨[x]⟩, ⟨[t]⟩⟩ => match arI P t with
      | some q => okV o.dst fun _ _ => some (.o (.i .i64 (.ofNat q.1)))
      | none => match P.underlying t with
        | some .string => okV o.dst fun e _ => ob (opv n e x) fun a => kLenS a
        | _ => match slI P t with
          | some _ => okV o.dst fun e _ => ob (opv n e x) fun a => kLenL a
          | none => bad
    | ⟨.builtin .min, ⟨[x, y]⟩, _⟩ => okV o.dst fun e _ => ob (opv n e x) fun a => ob (opv n e y) fun b => kMin false a b
    | ⟨.builtin .max, ⟨[x, y]⟩, _⟩ => okV o.dst fun e _ => ob (opv n e x) fun a => ob (opv n e y) fun b => kMin true a b
    | ⟨.builtin .append, ⟨[x, y]⟩, ⟨[t, u]⟩⟩ => match Nat.beq t u, slI P t with
      | true, some q => match Nat.beq q.2.2.2.cells.size q.2.1, Nat.blt 0 q.2.1 with
        | true, true => okT o.dst fun e h => ob (opv n e x) fun a => ob (opv n e y) fun b => kApp q.1 q.2.1 q.2.2.1 h a b
        | _, _ => bad
      | _, _ => bad
    | ⟨.builtin .copy, ⟨[x, y]⟩, ⟨[t, _]⟩⟩ => match slI P t with
      | some q => okT o.dst fun e h => ob (opv n e x) fun a => ob (opv n e y) fun b => kCpy q.2.1 h a b
      | none => bad
    | _ => bad
  | _ => bad
theorem ob1 {α β : Type} {a : Option α} {f : α → Option β} {y : β} (h : ob a f = some y) {p : Prop} (k : ∀ x, a = some x → f x = some y → p) : p := by
  obtain ⟨x, h1, h2⟩ := ob_some h; exact k x h1 h2
theorem cop0_ok {P : Program} {n : Nat} {o : Oper} : OkOK P n o (cop0 P n o) := by
  unfold cop0
  split
  · rename_i x ho; exact okV_ok fun e h v hv => ⟨_, Pur.move ho hv⟩
  · rename_i x ho; exact okV_ok fun e h v hv => ⟨_, Pur.assign ho hv⟩
  · rename_i t x ho
    split
    · rename_i hag; exact okV_ok fun e h v hv => ob1 hv fun a h1 h2 => ⟨_, kLd_ok ho hag h1 h2⟩
    · rename_i hag
      split
      · rename_i q hq; exact okV_ok fun e h v hv => ob1 hv fun a h1 h2 => ⟨_, kLdA_ok ho hag hq h1 h2⟩
      · exact bad_ok
    · exact bad_ok
  · rename_i t x y ho
    split
    · split
      · rename_i q hq
        split
        · rename_i h1'
          obtain ⟨z, sz, by_⟩ := q
          have h1' : sz = 1 := h1'
          subst h1'
          exact okS_ok fun e h g hv => ob1 hv fun a h1 h2 => ob1 h2 fun b h3 h4 => kSt_ok ho hq h1 h3 h4
        · exact bad_ok
      · exact bad_ok
    · split
      · rename_i q hq; exact okS_ok fun e h g hv => ob1 hv fun a h1 h2 => ob1 h2 fun b h3 h4 => kStA_ok ho hq h1 h3 h4
      · exact bad_ok
    · exact bad_ok
  · rename_i op t x y u ho; exact okV_ok fun e h v hv => ob1 hv fun a h1 h2 => ob1 h2 fun b h3 h4 => ⟨_, bop_ok ho h1 h3 h4⟩
  · rename_i t x y ho
    split
    · rename_i q hq; exact okV_ok fun e h v hv => ob1 hv fun a h1 h2 => ob1 h2 fun b h3 h4 => ⟨_, kIdx_ok ho hq h1 h3 h4⟩
    · split
      · rename_i q hq; exact okV_ok fun e h v hv => ob1 hv fun a h1 h2 => ob1 h2 fun b h3 h4 => ⟨_, kIdxA_ok ho hq h1 h3 h4⟩
      · exact bad_ok
  · rename_i t x y ho
    split
    · rename_i hu; exact okV_ok fun e h v hv => ob1 hv fun a h1 h2 => ob1 h2 fun b h3 h4 => ⟨_, kChr_ok ho hu h1 h3 h4⟩
    · split
      · rename_i q hq; exact okV_ok fun e h v hv => ob1 hv fun a h1 h2 => ob1 h2 fun b h3 h4 => ⟨_, kIxV_ok ho hq h1 h3 h4⟩
      · exact bad_ok
  · rename_i c x y ho; exact okV_ok fun e h v hv => ob1 hv fun a h1 h2 => ⟨_, kPick_ok ho h1 h2⟩
  · rename_i s x f ho
    split
    · rename_i d hd; exact okV_ok fun e h v hv => ob1 hv fun a h1 h2 => ⟨_, kFld_ok ho hd h1 h2⟩
    · exact bad_ok
  · rename_i x ho; exact okV_ok fun e h v hv => ob1 hv fun a h1 h2 => ⟨_, kNilc_ok ho h1 h2⟩
  · rename_i x i ho; exact okV_ok fun e h v hv => ob1 hv fun a h1 h2 => ⟨_, kExt_ok ho h1 h2⟩
  · rename_i t u x ho
    split
    · rename_i el hel
      split
      · rename_i h8
        split
        · rename_i hu; exact okV_ok fun e h v hv => ob1 hv fun a h1 h2 => ⟨_, kB2S_ok ho hel h8 hu h1 h2⟩
        · exact bad_ok
      · exact bad_ok
    · rename_i ht
      split
      · rename_i el hu
        split
        · rename_i h8; exact okT_ok fun e h v g hv => ob1 hv fun a h1 h2 => kS2B_ok ho ht hu h8 h1 h2
        · exact bad_ok
      · exact bad_ok
    · rename_i k' ht
      split
      · rename_i k hk; exact okV_ok fun e h v hv => ob1 hv fun a h1 h2 => ⟨_, kCv_ok ho hk (by rw [ht]; rfl) h1 h2⟩
      · exact bad_ok
    · exact bad_ok
  · rename_i t x lo hi mx ho
    split
    · rename_i hu
      split
      · exact okV_ok fun e h v hv => ob1 hv fun a h1 h2 => ob1 h2 fun l h3 h4 => ob1 h4 fun l2 h5 h6 => ⟨_, kSlS_ok ho hu h1 h3 h5 h6⟩
      · exact bad_ok
    · rename_i ar har
      split
      · rename_i q hq; exact okV_ok fun e h v hv => ob1 hv fun a h1 h2 => ob1 h2 fun l h3 h4 => ob1 h4 fun l2 h5 h6 => ob1 h6 fun l3 h7 h8 => ⟨_, kSlA_ok ho (.inl har) hq h1 h3 h5 h7 h8⟩
      · exact bad_ok
    · split
      · rename_i q hq; exact okV_ok fun e h v hv => ob1 hv fun a h1 h2 => ob1 h2 fun l h3 h4 => ob1 h4 fun l2 h5 h6 => ob1 h6 fun l3 h7 h8 => ⟨_, kSlA_ok ho (.inr rfl) hq h1 h3 h5 h7 h8⟩
      · exact bad_ok
    · split
      · rename_i q hq; exact okV_ok fun e h v hv => ob1 hv fun a h1 h2 => ob1 h2 fun l h3 h4 => ob1 h4 fun l2 h5 h6 => ob1 h6 fun l3 h7 h8 => ⟨_, kSlL_ok ho hq h1 h3 h5 h7 h8⟩
      · exact bad_ok
  · rename_i t ps ho
    have ho : o.op = .build t ps.toList.toArray := by simpa using ho
    split
    · rename_i q hq
      split
      · rename_i zs hz
        split
        · rename_i r hr; exact okV_ok fun e h v hv => ob1 hv fun vs h1 h2 => ⟨_, kBldA_ok ho hq hz hr h1 h2⟩
        · split
          · rename_i pl hpl; exact okV_ok fun e h v hv => ob1 hv fun vs h1 h2 => ⟨_, kBldS_ok ho hq hz hpl h1 h2⟩
          · exact bad_ok
      · exact bad_ok
    · exact bad_ok
  · rename_i f fs cs ho
    have ho : o.op = .makeFunc (.func f) fs.toList.toArray cs.toList.toArray := by simpa using ho
    exact okV_ok fun e h v hv => ob1 hv fun a h1 h2 => ob1 h2 fun b h3 h4 => ob1 h4 fun qa h5 h6 => ob1 h6 fun qb h7 h8 => by
      cases h8
      exact ⟨_, Pur.mkf ho (ptrs_caps _ h1 h5) (ptrs_caps _ h3 h7)⟩
  · rename_i u t x ho
    split
    · exact okV_ok fun e h v hv => ob1 hv fun a h1 h2 => ⟨_, kNot_ok ho h1 h2⟩
    · exact okV_ok fun e h v hv => ob1 hv fun a h1 h2 => ⟨_, kNeg_ok ho h1 h2⟩
    · exact okV_ok fun e h v hv => ob1 hv fun a h1 h2 => ⟨_, kInv_ok ho h1 h2⟩
    · exact bad_ok
  · rename_i t ho; exact okT_ok fun e h v g hv => kMkM_ok ho hv
  · rename_i t x y ok ho
    split
    · rename_i kt et hu
      split
      · rename_i q hq
        split
        · rename_i z hz; exact okV_ok fun e h v hv => ob1 hv fun m h1 h2 => ob1 h2 fun key h3 h4 => ⟨_, kLk_ok ho hu hq (zV0_R hz) h1 h3 h4⟩
        · exact bad_ok
      · exact bad_ok
    · exact bad_ok
  · rename_i t x y z ho
    split
    · rename_i kt et hu hd
      have := okS_ok (P := P) (n := n) (o := o) (f := fun e h => ob (opv n e x) fun m => ob (opv n e y) fun key => ob (opv n e z) fun val => kUp P kt h m key val) fun e h g hv => ob1 hv fun m h1 h2 => ob1 h2 fun key h3 h4 => ob1 h4 fun val h5 h6 => kUp_ok ho hd hu h1 h3 h5 h6
      rw [hd] at this
      exact this
    · exact bad_ok
  · rename_i t ho
    split
    · rename_i q hq
      split
      · rename_i cs hz; exact okT_ok fun e h v g hv => kAlloc_ok ho hq hz hv
      · exact bad_ok
    · exact bad_ok
  · rename_i t x ho; exact okT_ok fun e h v g hv => ob1 hv fun a h1 h2 => kBox_ok ho h1 h2
  · rename_i t len ps ho
    have ho : o.op = .buildSlice t len ps.toList.toArray := by simpa using ho
    split
    · rename_i q hq
      split
      · rename_i zs hz
        split
        · rename_i b1 b2 b3 b4; exact okT_ok fun e h v g hv => ob1 hv fun vs h1 h2 => kBsl_ok ho hq hz b1 b2 b3 b4 h1 h2
        · exact bad_ok
      · exact bad_ok
    · exact bad_ok
  · rename_i t x y ho
    split
    · rename_i q hq
      split
      · rename_i zs hz
        split
        · rename_i b1 b2; exact okT_ok fun e h v g hv => ob1 hv fun a h1 h2 => ob1 h2 fun b h3 h4 => kMk_ok ho hq hz b1 b2 h1 h3 h4
        · exact bad_ok
      · exact bad_ok
    · exact bad_ok
  · rename_i c ho
    split
    · rename_i x as ts
      have ho : o.op = .call { callee := .value x, args := as.toList.toArray, argTypes := ts } := by simpa using ho
      exact okC_ok ho fun e c hv => ob1 hv fun a h1 h2 => ob1 h2 fun vs h3 h4 => ⟨a, vs, h1, h3, h4⟩
    · rename_i x t
      split
      · rename_i q hq; exact okV_ok fun e h v hv => by cases hv; exact ⟨_, Pur.lenA ho hq⟩
      · split
        · rename_i hu; exact okV_ok fun e h v hv => ob1 hv fun a h1 h2 => ⟨_, kLenS_ok ho hu h1 h2⟩
        · split
          · rename_i q hq; exact okV_ok fun e h v hv => ob1 hv fun a h1 h2 => ⟨_, kLenL_ok ho hq h1 h2⟩
          · exact bad_ok
    · exact okV_ok fun e h v hv => ob1 hv fun a h1 h2 => ob1 h2 fun b h3 h4 => ⟨_, kMin_ok (mx := false) ho h1 h3 h4⟩
    · exact okV_ok fun e h v hv => ob1 hv fun a h1 h2 => ob1 h2 fun b h3 h4 => ⟨_, kMin_ok (mx := true) ho h1 h3 h4⟩
    · rename_i x y t u
      split
      · rename_i q hb hq
        have := Nat.eq_of_beq_eq_true hb
        subst this
        split
        · rename_i b1 b2; exact okT_ok fun e h v g hv => ob1 hv fun a h1 h2 => ob1 h2 fun b h3 h4 => kApp_ok ho hq b1 b2 h1 h3 h4
        · exact bad_ok
      · exact bad_ok
    · rename_i x y t u
      split
      · rename_i q hq; exact okT_ok fun e h v g hv => ob1 hv fun a h1 h2 => ob1 h2 fun b h3 h4 => kCpy_ok ho hq h1 h3 h4
      · exact bad_ok
    · exact bad_ok
  · exact bad_ok
noncomputable def cop (P : Program) (n : Nat) (ops : Array Oper) (o : Oper) : Ok := gua n ops o (cop0 P n o)
theorem cop_ok {P : Program} {n : Nat} {ops : Array Oper} {o : Oper} : OkG P n ops o (cop P n ops o) := gua_ok cop0_ok
noncomputable def cops (P : Program) (n : Nat) (ops : Array Oper) (l : List Oper) : Ok := List.rec (motive := fun _ => Ok) ⟨fun _ kn _ e h => kn e h⟩ (fun o _ ih => ⟨fun cf kn kp e h => (cop P n ops o).run cf (fun e h => ih.run cf kn kp e h) kp e h⟩) l
def OsOK (P : Program) (n : Nat) (ops : Array Oper) (l : List Oper) (k : Ok) : Prop := ∀ (β : Type) (cf : CF), CallOK P cf → ∀ (kn : FE → H → Option β) (kp : Value → FE → H → Option β) (e : FE) (h : H) (y : β), k.run cf kn kp e h = some y →
  (∃ e1 h1, kn e1 h1 = some y ∧ ∀ (C : Ctx) (Q : SPost) (σ : Sg) (E : Env) (rh : RH), C.P = P → C.n = n → ER σ n e E → HR σ h rh →
    (∀ τ E' sh, Stp σ τ h h1 rh sh → ER τ n e1 E' → E'.ds = E.ds → Q .normal E' (Lof h1.n sh)) → WL C ops Q l E (Lof h.n rh)) ∨
  (∃ v e1 h1, kp v e1 h1 = some y ∧ ∀ (C : Ctx) (Q : SPost) (σ : Sg) (E : Env) (rh : RH), C.P = P → C.n = n → ER σ n e E → HR σ h rh →
    (∀ τ E' sh, Stp σ τ h h1 rh sh → ER τ n e1 E' → E'.ds = E.ds → Q (.panic (one1 v)) E' (Lof h1.n sh)) → WL C ops Q l E (Lof h.n rh))
theorem cops_ok {P : Program} {n : Nat} {ops : Array Oper} : ∀ (l : List Oper), OsOK P n ops l (cops P n ops l)
  | [] => fun _ cf hcf kn kp e h y hy => .inl ⟨e, h, hy, fun C Q σ E rh hP hn he hr k => WL.nil (k σ E rh (Stp.refl hr) he rfl)⟩
  | o :: l => fun _ cf hcf kn kp e h y hy => by
    rcases cop_ok (P := P) (n := n) (ops := ops) (o := o) _ cf hcf (fun e h => (cops P n ops l).run cf kn kp e h) kp e h y hy with ⟨e1, h1, h2, h3⟩ | ⟨v, h1, h2, h3⟩
    · rcases cops_ok l _ cf hcf kn kp e1 h1 y h2 with ⟨e2, g2, h4, h5⟩ | ⟨v, e2, g2, h4, h5⟩
      · exact .inl ⟨e2, g2, h4, fun C Q σ E rh hP hn he hr k => h3 C Q σ E rh l hP hn he hr fun τ E' sh hs he' hd =>
          h5 C Q τ E' sh hP hn he' hs.hr fun τ2 E2 sh2 hs2 he2 hd2 => k τ2 E2 sh2 (hs.trans hs2) he2 (hd2.trans hd)⟩
      · exact .inr ⟨v, e2, g2, h4, fun C Q σ E rh hP hn he hr k => h3 C Q σ E rh l hP hn he hr fun τ E' sh hs he' hd =>
          h5 C Q τ E' sh hP hn he' hs.hr fun τ2 E2 sh2 hs2 he2 hd2 => k τ2 E2 sh2 (hs.trans hs2) he2 (hd2.trans hd)⟩
    · exact .inr ⟨v, e, h1, h2, fun C Q σ E rh hP hn he hr k => h3 C Q σ E rh l hP hn he hr fun τ sh hs => k τ E sh hs (he.mono hs.ext.le) rfl⟩
end Go.Gx
