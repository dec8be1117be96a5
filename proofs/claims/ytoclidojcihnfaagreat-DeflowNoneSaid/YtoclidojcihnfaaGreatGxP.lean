/- Part of an evaluator of the program's calls, proved sound: what it yields, the program does in every world. No condition beyond those that each theorem names. -/
import Derived.Test.YtoclidojcihnfaaGreatGxN
set_option linter.unusedVariables false
set_option linter.unusedSimpArgs false
namespace Go.Gx
open Go.RowKit Go.Gv
/-! ### A scope that nothing jumps in -/
theorem stepR_scope {P : Program} {b : Frame} {a : Act} {k : List Item} {cs : List Frame} {w : World} {c : Code} : step P (lone (b.atR a (.code (.scope c) :: k)) cs w) = .next (lone (b.atR a (.code c :: .inScope c :: k)) cs w) :=
  step_lone_go (by simp [stepG, stepG.exec, Frame.atR])
theorem stepR_inScope {P : Program} {b : Frame} {a : Act} {k : List Item} {cs : List Frame} {w : World} {c : Code} : step P (lone (b.atR a (.inScope c :: k)) cs w) = .next (lone (b.atR a k) cs w) :=
  step_lone_go (by simp [stepG, stepG.exec, Frame.atR])
theorem wpIn_scope {F : Fence} {n : Nat} {P : Program} {Q : Exit → Act → World → Prop} {a : Act} {w : World} {c : Code} (h : c.wpIn F n P (Exit.noGoto Q) a w) : (Code.scope c).wpIn F n P Q a w := by
  intro b k cs hro hb hr
  have h0 : (lone (b.atR a (.code (.scope c) :: k)) cs w).fenced P F := fenced_calm hb hr rfl
  obtain ⟨e, a₁, w₁, hq, harr⟩ := h b (.inScope c :: k) cs hro hb hr
  cases e with
  | normal => exact ⟨.normal, a₁, w₁, hq, .head h0 stepR_scope (StepsIn.trans harr (.one (fenced_calm hb hr rfl) stepR_inScope))⟩
  | exit id' =>
    have hx : exitTo id' (.inScope c :: k) = exitTo id' k := by simp [exitTo]
    exact ⟨.exit id', a₁, w₁, hq, fun k' hk => .head h0 stepR_scope (harr.1 k' (by rw [hx]; exact hk)),
        fun hr' hk => let ⟨k₁, h1, h2⟩ := harr.2 hr' (by rw [hx]; exact hk); ⟨k₁, h1, .head h0 stepR_scope h2⟩⟩
  | goto l => exact hq.elim
  | ret => exact ⟨_, a₁, w₁, hq, .of_steps (.one h0 stepR_scope) harr⟩
  | panic ch => exact ⟨_, a₁, w₁, hq, .of_steps (.one h0 stepR_scope) harr⟩
  | outgrown => exact ⟨_, a₁, w₁, hq, .of_steps (.one h0 stepR_scope) harr⟩
def scopeS (Q : SPost) : SPost := fun x e L => match x with
  | .goto _ => False
  | x => Q x e L
theorem WC.scope {C : Ctx} {Q : SPost} {e : Gv.Env} {L : List HP} {c : Code} (h : WC C c (scopeS Q) e L) : WC C (.scope c) Q e L := by
  intro w hw
  refine wpIn_scope (Code.wpIn_mono ?_ (h w hw))
  intro x a w h'
  obtain ⟨e, L, rfl, hs, hq⟩ := h'
  cases x <;> first | exact ⟨e, L, rfl, hs, hq⟩ | exact hq.elim
theorem WC.label {C : Ctx} {Q : SPost} {e : Gv.Env} {L : List HP} {l : Nat} (h : Q .normal e L) : WC C (.label l) Q e L := fun w hw => wpIn_label ⟨e, L, rfl, hw, h⟩

/-! ### Code -/
inductive Ex where
  | n
  | r
  | x (id : Nat)
  | p (v : Value)
def exs : Ex → Exit
  | .n => .normal
  | .r => .ret
  | .x id => .exit id
  | .p v => .panic (one1 v)
/-- Hints: which slots live on in a loop, behind it, and at a return. -/
inductive HT where
  | z
  | s (a b : HT)
  | l (lh lx lr : List Nat) (a : HT)
noncomputable def HT.h1 (t : HT) : HT := HT.rec (motive := fun _ => HT) .z (fun a _ _ _ => a) (fun _ _ _ a _ => a) t
noncomputable def HT.h2 (t : HT) : HT := HT.rec (motive := fun _ => HT) .z (fun _ b _ _ => b) (fun _ _ _ _ _ => .z) t
noncomputable def HT.lh (t : HT) : Option (List Nat) := HT.rec (motive := fun _ => Option (List Nat)) none (fun _ _ _ _ => none) (fun l _ _ _ _ => some l) t
noncomputable def HT.lx (t : HT) : Option (List Nat) := HT.rec (motive := fun _ => Option (List Nat)) none (fun _ _ _ _ => none) (fun _ l _ _ _ => some l) t
noncomputable def HT.lr (t : HT) : Option (List Nat) := HT.rec (motive := fun _ => Option (List Nat)) none (fun _ _ _ _ => none) (fun _ _ l _ _ => some l) t
/-- A frame that holds some slots alone. -/
noncomputable def rsl {β : Type} (e : FE) (l : List Nat) (k : FE → Option β) : FE → Option β := List.rec (motive := fun _ => FE → Option β) k (fun t _ ih a => ob (e.get t) fun v => ih (a.set t v)) l
noncomputable def rs {β : Type} (l : Option (List Nat)) (e : FE) (k : FE → Option β) : Option β := Option.rec (motive := fun _ => Option β) (k e) (fun l => rsl e l k .lf) l
theorem rsl_ok {β : Type} {σ : Sg} {n : Nat} {e : FE} {E : Env} {k : FE → Option β} {y : β} (he : ∀ t v, e.get t = some v → t < n → VR σ v (E.f t)) : ∀ (l : List Nat) (a : FE), rsl e l k a = some y → ER σ n a E → ∃ e', k e' = some y ∧ ER σ n e' E
  | [], a, h, ha => ⟨a, h, ha⟩
  | t :: l, a, h, ha => by
    obtain ⟨v, h1, h2⟩ := ob_some h
    refine rsl_ok he l _ h2 ⟨fun u w hu hw => ?_⟩
    rw [Tr.get_set] at hw
    by_cases htu : t = u
    · subst htu; rw [if_pos rfl] at hw; cases hw; exact he _ _ h1 hu
    · rw [if_neg htu] at hw; exact ha.get u w hu hw
theorem rsl_any {β : Type} {e : FE} {k : FE → Option β} {y : β} : ∀ (l : List Nat) (a : FE), rsl e l k a = some y → ∃ e', k e' = some y ∧ ∀ (σ : Sg) (n : Nat) (E : Env), ER σ n e E → ER σ n a E → ER σ n e' E
  | [], a, h => ⟨a, h, fun _ _ _ _ ha => ha⟩
  | t :: l, a, h => by
    obtain ⟨v, h1, h2⟩ := ob_some h
    obtain ⟨e', h3, h4⟩ := rsl_any l _ h2
    refine ⟨e', h3, fun σ n E he ha => h4 σ n E he ⟨fun u w hu hw => ?_⟩⟩
    rw [Tr.get_set] at hw
    by_cases htu : t = u
    · subst htu; rw [if_pos rfl] at hw; cases hw; exact he.get _ _ hu h1
    · rw [if_neg htu] at hw; exact ha.get u w hu hw
theorem rs_any {β : Type} {l : Option (List Nat)} {e : FE} {k : FE → Option β} {y : β} (h : rs l e k = some y) : ∃ e', k e' = some y ∧ ∀ (σ : Sg) (n : Nat) (E : Env), ER σ n e E → ER σ n e' E := by
  cases l with
  | none => exact ⟨e, h, fun _ _ _ he => he⟩
  | some l =>
    obtain ⟨e', h1, h2⟩ := rsl_any l _ h
    exact ⟨e', h1, fun σ n E he => h2 σ n E he ER.none⟩
structure Ck : Type 1 where
  run : {β : Type} → CF → (Ex → FE → H → Option β) → FE → H → Option β
noncomputable def ckb : Ck := ⟨fun _ _ _ _ => none⟩
abbrev XR := Option (Ex × FE × H)
/-- A round again and again, 2^k times at most, till it is left. -/
noncomputable def it (f : FE → H → XR) (k : Nat) : FE → H → XR := Nat.rec (motive := fun _ => FE → H → XR) f (fun _ ih e h => ob (ih e h) fun r => Ex.rec (motive := fun _ => XR) (ih r.2.1 r.2.2) (some r) (fun _ => some r) (fun _ => some r) r.1) k
inductive Iter (f : FE → H → XR) : Nat → FE → H → Ex → FE → H → Prop where
  | last {e h x e1 h1} (hx : f e h = some (x, e1, h1)) (hn : x ≠ .n) : Iter f 0 e h x e1 h1
  | step {j e h e2 h2 x e1 h1} (hx : f e h = some (.n, e2, h2)) (k : Iter f j e2 h2 x e1 h1) : Iter f (j + 1) e h x e1 h1
inductive Runs (f : FE → H → XR) : Nat → FE → H → FE → H → Prop where
  | nil {e h} : Runs f 0 e h e h
  | step {j e h e2 h2 e1 h1} (hx : f e h = some (.n, e2, h2)) (k : Runs f j e2 h2 e1 h1) : Runs f (j + 1) e h e1 h1
theorem Runs.trans {f : FE → H → XR} {j k : Nat} {e h e2 h2 e1 h1} (a : Runs f j e h e2 h2) (b : Runs f k e2 h2 e1 h1) : Runs f (k + j) e h e1 h1 := by
  induction a with
  | nil => exact b
  | step hx _ ih => exact .step hx (ih b)
theorem Runs.iter {f : FE → H → XR} {j k : Nat} {e h e2 h2 x e1 h1} (a : Runs f j e h e2 h2) (b : Iter f k e2 h2 x e1 h1) : Iter f (k + j) e h x e1 h1 := by
  induction a with
  | nil => exact b
  | step hx _ ih => exact .step hx (ih b)
theorem it_spec {f : FE → H → XR} : ∀ (k : Nat) {e h x e1 h1}, it f k e h = some (x, e1, h1) → (x = .n ∧ ∃ j, Runs f j e h e1 h1) ∨ (x ≠ .n ∧ ∃ j, Iter f j e h x e1 h1)
  | 0, e, h, x, e1, h1, hx => by
    have hx : f e h = some (x, e1, h1) := hx
    cases x with
    | n => exact .inl ⟨rfl, _, .step hx .nil⟩
    | r => exact .inr ⟨by simp, _, .last hx (by simp)⟩
    | x id => exact .inr ⟨by simp, _, .last hx (by simp)⟩
    | p v => exact .inr ⟨by simp, _, .last hx (by simp)⟩
  | k + 1, e, h, x, e1, h1, hx => by
    obtain ⟨⟨y, e2, h2⟩, h3, h4⟩ := ob_some hx
    rcases it_spec k h3 with ⟨rfl, j, hj⟩ | ⟨hy, j, hj⟩
    · have h4 : it f k e2 h2 = some (x, e1, h1) := h4
      rcases it_spec k h4 with ⟨rfl, i, hi⟩ | ⟨hx, i, hi⟩
      · exact .inl ⟨rfl, _, hj.trans hi⟩
      · exact .inr ⟨hx, _, hj.iter hi⟩
    · cases y with
      | n => exact absurd rfl hy
      | r => cases h4; exact .inr ⟨hy, _, hj⟩
      | x id => cases h4; exact .inr ⟨hy, _, hj⟩
      | p v => cases h4; exact .inr ⟨hy, _, hj⟩
/-- How a round ends: with the slots that live on. -/
noncomputable def rnd (t : HT) (x : Ex) (e : FE) (h : H) : XR := Ex.rec (motive := fun _ => XR) (rs t.lh e fun e => some (.n, e, h)) (rs t.lr e fun e => some (.r, e, h)) (fun id => rs t.lx e fun e => some (.x id, e, h)) (fun v => some (.p v, e, h)) x
theorem rnd_ok {t : HT} {x x' : Ex} {e e' : FE} {h h' : H} (k : rnd t x e h = some (x', e', h')) : x' = x ∧ h' = h ∧ ∀ (σ : Sg) (n : Nat) (E : Env), ER σ n e E → ER σ n e' E := by
  cases x with
  | n => obtain ⟨e2, h1, h2⟩ := rs_any (l := t.lh) (e := e) (k := fun e => (some (Ex.n, e, h) : XR)) k; cases h1; exact ⟨rfl, rfl, h2⟩
  | r => obtain ⟨e2, h1, h2⟩ := rs_any (l := t.lr) (e := e) (k := fun e => (some (Ex.r, e, h) : XR)) k; cases h1; exact ⟨rfl, rfl, h2⟩
  | x id => obtain ⟨e2, h1, h2⟩ := rs_any (l := t.lx) (e := e) (k := fun e => (some (Ex.x id, e, h) : XR)) k; cases h1; exact ⟨rfl, rfl, h2⟩
  | p v => cases k; exact ⟨rfl, rfl, fun _ _ _ h => h⟩
noncomputable def asB (v : V) : Option Bool := match v with
  | .o (.b b) => some b
  | _ => none
abbrev DR := Nat → Array Oper → Ok
noncomputable def seqk (a b : Ck) : Ck := ⟨fun cf K e h => a.run cf (fun x e h => Ex.rec (motive := fun _ => Option _) (b.run cf K e h) (K .r e h) (fun id => K (.x id) e h) (fun v => K (.p v) e h) x) e h⟩
noncomputable def regk (k : Ok) : Ck := ⟨fun cf K e h => k.run cf (fun e h => K .n e h) (fun v e h => K (.p v) e h) e h⟩
noncomputable def cndk (n : Nat) (c : Operand) (a b : Ck) : Ck := ⟨fun cf K e h => ob (opv n e c) fun v => ob (asB v) fun t => Bool.rec (motive := fun _ => Option _) (b.run cf K e h) (a.run cf K e h) t⟩
noncomputable def blkk (id : Nat) (a : Ck) : Ck := ⟨fun cf K e h => a.run cf (fun x e h => Ex.rec (motive := fun _ => Option _) (K .n e h) (K .r e h) (fun j => cond (Nat.beq j id) (K .n e h) (K (.x j) e h)) (fun v => K (.p v) e h) x) e h⟩
noncomputable def lopk (t : HT) (a : Ck) : Ck := ⟨fun cf K e h => rs t.lh e fun e => ob (it (fun e h => rs t.lh e fun e => a.run cf (rnd t) e h) 40 e h) fun r => Ex.rec (motive := fun _ => Option _) none (K .r r.2.1 r.2.2) (fun id => K (.x id) r.2.1 r.2.2) (fun v => K (.p v) r.2.1 r.2.2) r.1⟩
noncomputable def cc (P : Program) (n : Nat) (dr : DR) (c : Code) : HT → Ck := Code.rec (motive := fun _ => HT → Ck)
  (fun _ => ⟨fun _ K e h => K .n e h⟩)
  (fun id ops draw _ => regk (Bool.rec (motive := fun _ => Ok) (cops P n ops ops.toList) (dr id ops) draw))
  (fun _ _ ia ib t => seqk (ia t.h1) (ib t.h2))
  (fun c _ _ ia ib t => cndk n c (ia t.h1) (ib t.h2))
  (fun id _ ib t => blkk id (ib t))
  (fun _ ib t => lopk t (ib t.h1))
  (fun _ _ _ _ _ _ _ => ckb)
  (fun id _ => ⟨fun _ K e h => K (.x id) e h⟩)
  (fun _ ib t => ⟨fun cf K e h => (ib t).run cf K e h⟩)
  (fun _ _ => ⟨fun _ K e h => K .n e h⟩)
  (fun _ _ => ckb)
  (fun _ => ⟨fun _ K e h => K .r e h⟩)
  (fun _ _ => ckb) c
/-- What is asked of a way to run code. -/
def CkOK (P : Program) (n : Nat) (c : Code) (k : Ck) : Prop := ∀ (β : Type) (cf : CF), CallOK P cf → ∀ (K : Ex → FE → H → Option β) (e : FE) (h : H) (y : β), k.run cf K e h = some y →
  ∃ x e1 h1, K x e1 h1 = some y ∧ ∀ (C : Ctx) (Q : SPost) (σ : Sg) (E : Env) (rh : RH), C.P = P → C.n = n → ER σ n e E → HR σ h rh →
    (∀ τ E' sh, Stp σ τ h h1 rh sh → ER τ n e1 E' → E'.ds = E.ds → Q (exs x) E' (Lof h1.n sh)) → WC C c Q E (Lof h.n rh)
/-- What is asked of a way to run regions that draw their order. -/
def DrawOK (P : Program) (n : Nat) (dr : DR) : Prop := ∀ id ops (β : Type) (cf : CF), CallOK P cf → ∀ (kn : FE → H → Option β) (kp : Value → FE → H → Option β) (e : FE) (h : H) (y : β), (dr id ops).run cf kn kp e h = some y →
  (∃ e1 h1, kn e1 h1 = some y ∧ ∀ (C : Ctx) (Q : SPost) (σ : Sg) (E : Env) (rh : RH), C.P = P → C.n = n → ER σ n e E → HR σ h rh →
    (∀ τ E' sh, Stp σ τ h h1 rh sh → ER τ n e1 E' → E'.ds = E.ds → Q .normal E' (Lof h1.n sh)) → WC C (.region id ops true) Q E (Lof h.n rh)) ∨
  (∃ v e1 h1, kp v e1 h1 = some y ∧ ∀ (C : Ctx) (Q : SPost) (σ : Sg) (E : Env) (rh : RH), C.P = P → C.n = n → ER σ n e E → HR σ h rh →
    (∀ τ E' sh, Stp σ τ h h1 rh sh → ER τ n e1 E' → E'.ds = E.ds → Q (.panic (one1 v)) E' (Lof h1.n sh)) → WC C (.region id ops true) Q E (Lof h.n rh))
section
variable {P : Program} {n : Nat}
theorem ckb_ok {c : Code} : CkOK P n c ckb := fun _ cf _ K e h y hy => by cases hy
theorem seqk_ok {a b : Code} {ka kb : Ck} (ha : CkOK P n a ka) (hb : CkOK P n b kb) : CkOK P n (.seq a b) (seqk ka kb) := by
  intro β cf hcf K e h y hy
  obtain ⟨x, e1, h1, hx, hA⟩ := ha _ cf hcf _ e h y hy
  cases x with
  | n =>
    obtain ⟨x2, e2, h2, hx2, hB⟩ := hb _ cf hcf K e1 h1 y hx
    exact ⟨x2, e2, h2, hx2, fun C Q σ E rh hP hn he hr k => WC.seq fun K' hK => hA C _ σ E rh hP hn he hr fun τ E' sh hs he' hd => hK _ _ (hB C Q τ E' sh hP hn he' hs.hr fun τ2 E2 sh2 hs2 he2 hd2 => k τ2 E2 sh2 (hs.trans hs2) he2 (hd2.trans hd))⟩
  | r => exact ⟨.r, e1, h1, hx, fun C Q σ E rh hP hn he hr k => WC.seq fun K' hK => hA C _ σ E rh hP hn he hr fun τ E' sh hs he' hd => k τ E' sh hs he' hd⟩
  | x id => exact ⟨.x id, e1, h1, hx, fun C Q σ E rh hP hn he hr k => WC.seq fun K' hK => hA C _ σ E rh hP hn he hr fun τ E' sh hs he' hd => k τ E' sh hs he' hd⟩
  | p v => exact ⟨.p v, e1, h1, hx, fun C Q σ E rh hP hn he hr k => WC.seq fun K' hK => hA C _ σ E rh hP hn he hr fun τ E' sh hs he' hd => k τ E' sh hs he' hd⟩
theorem cndk_ok {c : Operand} {a b : Code} {ka kb : Ck} (ha : CkOK P n a ka) (hb : CkOK P n b kb) : CkOK P n (.cond c a b) (cndk n c ka kb) := by
  intro β cf hcf K e h y hy
  obtain ⟨v, h1, hy⟩ := ob_some hy
  obtain ⟨t, h2, hy⟩ := ob_some hy
  have hv : v = .o (.b t) := by
    unfold asB at h2
    split at h2
    · cases h2; rfl
    · cases h2
  subst hv
  cases t with
  | true =>
    obtain ⟨x, e1, g1, hx, hA⟩ := ha _ cf hcf K e h y hy
    exact ⟨x, e1, g1, hx, fun C Q σ E rh hP hn he hr k => by subst hn; exact WC.cond_true (he.opv h1) (hA C Q σ E rh hP rfl he hr k)⟩
  | false =>
    obtain ⟨x, e1, g1, hx, hA⟩ := hb _ cf hcf K e h y hy
    exact ⟨x, e1, g1, hx, fun C Q σ E rh hP hn he hr k => by subst hn; exact WC.cond_false (he.opv h1) (hA C Q σ E rh hP rfl he hr k)⟩
theorem scpk_ok {a : Code} {ka : Ck} (ha : CkOK P n a ka) : CkOK P n (.scope a) ⟨fun cf K e h => ka.run cf K e h⟩ := by
  intro β cf hcf K e h y hy
  obtain ⟨x, e1, h1, hx, hA⟩ := ha _ cf hcf _ e h y hy
  refine ⟨x, e1, h1, hx, fun C Q σ E rh hP hn he hr k => WC.scope (hA C _ σ E rh hP hn he hr fun τ E' sh hs he' hd => ?_)⟩
  have := k τ E' sh hs he' hd
  cases x <;> exact this
theorem labk_ok {l : Nat} : CkOK P n (.label l) ⟨fun _ K e h => K .n e h⟩ := by
  intro β cf hcf K e h y hy
  exact ⟨.n, e, h, hy, fun C Q σ E rh hP hn he hr k => WC.label (k σ E rh (Stp.refl hr) he rfl)⟩
theorem blkk_ok {id : Nat} {a : Code} {ka : Ck} (ha : CkOK P n a ka) : CkOK P n (.block id a) (blkk id ka) := by
  intro β cf hcf K e h y hy
  obtain ⟨x, e1, h1, hx, hA⟩ := ha _ cf hcf _ e h y hy
  cases x with
  | n => exact ⟨.n, e1, h1, hx, fun C Q σ E rh hP hn he hr k => WC.block (hA C _ σ E rh hP hn he hr fun τ E' sh hs he' hd => k τ E' sh hs he' hd)⟩
  | r => exact ⟨.r, e1, h1, hx, fun C Q σ E rh hP hn he hr k => WC.block (hA C _ σ E rh hP hn he hr fun τ E' sh hs he' hd => k τ E' sh hs he' hd)⟩
  | p v => exact ⟨.p v, e1, h1, hx, fun C Q σ E rh hP hn he hr k => WC.block (hA C _ σ E rh hP hn he hr fun τ E' sh hs he' hd => k τ E' sh hs he' hd)⟩
  | x j =>
    have hx : cond (Nat.beq j id) (K .n e1 h1) (K (.x j) e1 h1) = some y := hx
    cases hj : Nat.beq j id with
    | true =>
      rw [hj] at hx
      refine ⟨.n, e1, h1, hx, fun C Q σ E rh hP hn he hr k => WC.block (hA C _ σ E rh hP hn he hr fun τ E' sh hs he' hd => ?_)⟩
      show cond (Nat.beq j id) (Q .normal E' _) (Q (.exit j) E' _)
      rw [hj]; exact k τ E' sh hs he' hd
    | false =>
      rw [hj] at hx
      refine ⟨.x j, e1, h1, hx, fun C Q σ E rh hP hn he hr k => WC.block (hA C _ σ E rh hP hn he hr fun τ E' sh hs he' hd => ?_)⟩
      show cond (Nat.beq j id) (Q .normal E' _) (Q (.exit j) E' _)
      rw [hj]; exact k τ E' sh hs he' hd
theorem lopk_ok {a : Code} {ka : Ck} {t : HT} (ha : CkOK P n a ka) : CkOK P n (.loop a) (lopk t ka) := by
  intro β cf hcf K e h y hy
  obtain ⟨e0, hy', he0⟩ := rs_any (l := t.lh) (e := e) (k := fun e => ob (it (fun e h => rs t.lh e fun e => ka.run cf (rnd t) e h) 40 e h) fun r => Ex.rec (motive := fun _ => Option β) none (K .r r.2.1 r.2.2) (fun id => K (.x id) r.2.1 r.2.2) (fun v => K (.p v) r.2.1 r.2.2) r.1) hy
  obtain ⟨⟨x, e1, h1⟩, h3, h4⟩ := ob_some hy'
  have hne : x ≠ .n ∧ K x e1 h1 = some y := by
    cases x with
    | n => cases h4
    | r => exact ⟨by simp, h4⟩
    | x id => exact ⟨by simp, h4⟩
    | p v => exact ⟨by simp, h4⟩
  obtain ⟨hne, h4⟩ := hne
  -- a round
  have hround : ∀ e' h' x' e2 h2, (rs t.lh e' fun e => ka.run cf (rnd t) e h') = some (x', e2, h2) → ∃ x0 e3, x' = x0 ∧ (∀ (σ : Sg) (E : Env), ER σ n e3 E → ER σ n e2 E) ∧ ∀ (C : Ctx) (Q : SPost) (σ : Sg) (E : Env) (rh : RH), C.P = P → C.n = n → ER σ n e' E → HR σ h' rh →
      (∀ τ E' sh, Stp σ τ h' h2 rh sh → ER τ n e3 E' → E'.ds = E.ds → Q (exs x0) E' (Lof h2.n sh)) → WC C a Q E (Lof h'.n rh) := by
    intro e' h' x' e2 h2 hx
    obtain ⟨e4, hx, he4⟩ := rs_any hx
    obtain ⟨x0, e3, h3, hx, hA⟩ := ha _ cf hcf _ e4 h' _ hx
    obtain ⟨rfl, rfl, hk⟩ := rnd_ok hx
    exact ⟨_, e3, rfl, fun σ E => hk σ n E, fun C Q σ E rh hP hn he hr k => hA C Q σ E rh hP hn (he4 σ n E he) hr k⟩
  refine ⟨x, e1, h1, h4, fun C Q σ E rh hP hn he hr k => ?_⟩
  rcases it_spec 40 h3 with ⟨hc, _⟩ | ⟨_, j, hj⟩
  · exact absurd hc hne
  · intro w hw
    refine wpIn_loop_ghost (fun i a' w => ∃ e' h' τ E' sh, Iter (fun e h => rs t.lh e fun e => ka.run cf (rnd t) e h) i e' h' x e1 h1 ∧ Stp σ τ h h' rh sh ∧ ER τ n e' E' ∧ E'.ds = E.ds ∧ a' = mk C.n E' ∧ St C.w0 C.M (Lof h'.n sh) w) j
      ⟨e0, h, σ, E, rh, hj, Stp.refl hr, he0 σ n E he, rfl, rfl, hw⟩ ?_
    rintro i a' w' ⟨e', h', τ, E', sh, hit, hs, he', hd, rfl, hst⟩
    cases hit with
    | last hx hn' =>
      obtain ⟨x0, e3, rfl, hk, hA⟩ := hround _ _ _ _ _ hx
      refine Code.wpIn_mono ?_ (hA C (fun x' E2 L2 => x' = exs x ∧ Q x' E2 L2) τ E' sh hP hn he' hs.hr (fun τ2 E2 sh2 hs2 he2 hd2 => ⟨rfl, k τ2 E2 sh2 (hs.trans hs2) (hk _ _ he2) (hd2.trans hd)⟩) w' hst)
      rintro x' a' w2 ⟨E2, L2, rfl, hst2, rfl, hq⟩
      have hq' : lift C Q (exs x) (mk C.n E2) w2 := ⟨E2, L2, rfl, hst2, hq⟩
      cases x with
      | n => exact absurd rfl hne
      | r => exact hq'
      | x id => exact hq'
      | p v => exact hq'
    | step hx hk' =>
      obtain ⟨x0, e3, rfl, hk, hA⟩ := hround _ _ _ _ _ hx
      refine Code.wpIn_mono ?_ (hA C (fun x' E2 L2 => x' = .normal ∧ ∃ τ2 sh2, Stp σ τ2 h _ rh sh2 ∧ ER τ2 n _ E2 ∧ E2.ds = E.ds ∧ L2 = Lof _ sh2) τ E' sh hP hn he' hs.hr (fun τ2 E2 sh2 hs2 he2 hd2 => ⟨rfl, τ2, sh2, hs.trans hs2, hk _ _ he2, hd2.trans hd, rfl⟩) w' hst)
      rintro x' a' w2 ⟨E2, L2, rfl, hst2, rfl, τ2, sh2, hs2, he2, hd2, rfl⟩
      exact ⟨_, Nat.lt_succ_self _, _, _, τ2, E2, sh2, hk', hs2, he2, hd2, rfl, hst2⟩
theorem cc_ok {dr : DR} (hdr : DrawOK P n dr) : ∀ (c : Code) (t : HT), CkOK P n c (cc P n dr c t) := by
  intro c
  induction c with
  | skip => exact fun t _ cf _ K e h y hy => ⟨.n, e, h, hy, fun C Q σ E rh hP hn he hr k => WC.skip (k σ E rh (Stp.refl hr) he rfl)⟩
  | ret => exact fun t _ cf _ K e h y hy => ⟨.r, e, h, hy, fun C Q σ E rh hP hn he hr k => WC.ret (k σ E rh (Stp.refl hr) he rfl)⟩
  | exit id => exact fun t _ cf _ K e h y hy => ⟨.x id, e, h, hy, fun C Q σ E rh hP hn he hr k => WC.exit (k σ E rh (Stp.refl hr) he rfl)⟩
  | region id ops draw =>
    intro t β cf hcf K e h y hy
    cases draw with
    | true =>
      rcases hdr id ops _ cf hcf _ _ e h y hy with ⟨e1, h1, h2, h3⟩ | ⟨v, e1, h1, h2, h3⟩
      · exact ⟨.n, e1, h1, h2, h3⟩
      · exact ⟨.p v, e1, h1, h2, h3⟩
    | false =>
      have hreg : ∀ {C : Ctx} {Q : SPost} {E : Env} {L : List HP}, WL C ops Q ops.toList E L → WC C (.region id ops false) Q E L := fun hw => by
        have := WC.region (id := id) (l := ops.toList) (by simpa using hw)
        simpa using this
      rcases cops_ok (P := P) (n := n) (ops := ops) ops.toList _ cf hcf _ _ e h y hy with ⟨e1, h1, h2, h3⟩ | ⟨v, e1, h1, h2, h3⟩
      · exact ⟨.n, e1, h1, h2, fun C Q σ E rh hP hn he hr k => hreg (h3 C Q σ E rh hP hn he hr k)⟩
      · exact ⟨.p v, e1, h1, h2, fun C Q σ E rh hP hn he hr k => hreg (h3 C Q σ E rh hP hn he hr k)⟩
  | seq a b iha ihb => exact fun t => seqk_ok (iha _) (ihb _)
  | cond c a b iha ihb => exact fun t => cndk_ok (iha _) (ihb _)
  | block id b ih => exact fun t => blkk_ok (ih _)
  | loop b ih => exact fun t => lopk_ok (ih _)
  | scope b ih => exact fun t => scpk_ok (ih _)
  | label l => exact fun t => labk_ok
  | _ => exact fun t => ckb_ok
end
end Go.Gx
