/- Part of an evaluator of the program's calls, proved sound: what it yields, the program does in every world. No condition beyond those that each theorem names. -/
import Derived.Test.YtoclidojcihnfaaGreatGvF
set_option linter.unusedVariables false
set_option linter.unusedSimpArgs false
namespace Go.Gv
open Go.RowKit

/-! ### A region that draws its order -/
inductive Kd where
  | d | m | n | a | s | b | p | e
  deriving DecidableEq
abbrev Item := Kd × Nat
def waits (ops : Array Oper) (j i : Nat) : Bool := Region.waitsFor .any ops j i
inductive Bef (ops : Array Oper) : Nat → Nat → Prop where
  | one {i j : Nat} (h : waits ops j i = true) : Bef ops i j
  | step {i j k : Nat} (h : waits ops j k = true) (g : Bef ops i k) : Bef ops i j
def Cl (ops : Array Oper) (listed : Array Bool) : Prop := ∀ j i, listed.getD j false = true → waits ops j i = true → listed.getD i false = true
theorem Bef.listed {ops : Array Oper} {listed : Array Bool} {i j : Nat} (h : Bef ops i j) (hc : Cl ops listed) (hj : ∀ k, waits ops j k = true → listed.getD k false = true) : listed.getD i false = true := by
  induction h with
  | one h => exact hj _ h
  | step h g ih => exact ih fun k hk => hc _ _ (hj _ h) hk
theorem waits_iff {ops : Array Oper} {j i : Nat} {o : Oper} (ho : ops[j]? = some o) : waits ops j i = true ↔ ∃ e ∈ o.after, Region.binds .any e = true ∧ e.on = i := by
  unfold waits Region.waitsFor
  simp only [ho]
  rw [Array.any_eq_true']
  simp only [Bool.and_eq_true, beq_iff_eq]
/-- Each one's forerunners, as bits. -/
def befs (ops : Array Oper) : Nat → List Nat
  | 0 => []
  | k + 1 => let r := befs ops k
    r ++ [match ops[k]? with
      | none => 0
      | some o => o.after.toList.foldl (fun s e => bif Region.binds .any e then Nat.lor (Nat.lor s (2 ^ e.on)) (r.getD e.on 0) else s) 0]
theorem befs_length (ops : Array Oper) : ∀ k, (befs ops k).length = k
  | 0 => rfl
  | k + 1 => by simp [befs, befs_length ops k]
theorem befs_spec (ops : Array Oper) : ∀ k j i, ((befs ops k).getD j 0).testBit i = true → Bef ops i j
  | 0, j, i, h => by simp [befs] at h
  | k + 1, j, i, h => by
    simp only [befs] at h
    rw [List.getD_eq_getElem?_getD, List.getElem?_append] at h
    split at h
    · exact befs_spec ops k j i (by rw [List.getD_eq_getElem?_getD]; exact h)
    · rename_i hj
      rw [befs_length] at hj h
      cases hk : j - k with
      | succ m => rw [hk] at h; simp at h
      | zero =>
        have hjk : j = k := by omega
        subst hjk
        rw [hk] at h
        simp only [List.getElem?_cons_zero, Option.getD_some] at h
        cases ho : ops[j]? with
        | none => rw [ho] at h; simp at h
        | some o =>
          rw [ho] at h
          simp only at h
          have key : ∀ (l : List Edge) (s : Nat), (∀ e ∈ l, e ∈ o.after.toList) → (s.testBit i = true → Bef ops i j) →
              ((l.foldl (fun s e => bif Region.binds .any e then Nat.lor (Nat.lor s (2 ^ e.on)) ((befs ops j).getD e.on 0) else s) s).testBit i = true → Bef ops i j) := by
            intro l
            induction l with
            | nil => intro s _ hs h; exact hs h
            | cons e l ih =>
              intro s hl hs
              simp only [List.foldl_cons]
              refine ih _ (fun x hx => hl x (List.mem_cons_of_mem _ hx)) ?_
              cases hb : Region.binds .any e with
              | false => simpa using hs
              | true =>
                intro hbit
                have hw : waits ops j e.on = true := (waits_iff ho).2 ⟨e, by simpa using hl e (by simp), hb, rfl⟩
                simp only [cond_true] at hbit
                have : (s ||| 2 ^ e.on ||| (befs ops j).getD e.on 0).testBit i = true := hbit
                rw [Nat.testBit_or, Nat.testBit_or] at this
                simp only [Bool.or_eq_true] at this
                rcases this with (h1 | h1) | h1
                · exact hs h1
                · rw [Nat.testBit_two_pow] at h1
                  have : e.on = i := by simpa using h1
                  subst this; exact .one hw
                · exact .step hw (befs_spec ops j e.on i h1)
          exact key o.after.toList 0 (fun _ h => h) (by simp) h
def later (B : List Nat) (i j : Nat) : Bool := (B.getD j 0).testBit i
def Kd.tail : Kd → Bool
  | .b | .p => true
  | _ => false
def Kd.nondet : Kd → Bool
  | .n | .a | .s => true
  | _ => false
def Kd.callish : Kd → Bool
  | .n | .m => true
  | _ => false
/-- x stands ahead of y in the order of the proof: may the two be? -/
def pairOk (ops : Array Oper) (B : List Nat) (x y : Item) : Bool :=
  !later B y.2 x.2 && !Nat.beq x.2 y.2 &&
  (later B x.2 y.2 ||
    ((match ops[x.2]?, ops[y.2]? with | some a, some b => a.apart ops b | _, _ => false) &&
     (match x.1, y.1 with
      | .b, _ => false
      | .p, .b => true
      | .p, .p => true
      | .p, _ => false
      | _, .b => false
      | _, .p => true
      | .e, .n => false
      | .n, .e => false
      | .a, .e => false
      | .s, .e => false
      | x, y => !(x.nondet && y.callish))))
def pairsOk (ops : Array Oper) (B : List Nat) : List Item → Bool
  | [] => true
  | x :: r => r.all (fun y => pairOk ops B x y && (!x.1.tail || y.1.tail)) && pairsOk ops B r
def allIn (n : Nat) (l : List Item) : Bool := (List.range n).all fun i => l.any fun x => Nat.beq x.2 i
def drawOk (ops : Array Oper) (l : List Item) : Bool :=
  Region.noSelect ops && Nat.beq l.length ops.size && allIn ops.size l && pairsOk ops (befs ops ops.size) l

def Conc (ops : Array Oper) (x y : Item) : Prop := ∃ a b, ops[x.2]? = some a ∧ ops[y.2]? = some b ∧ a.apart ops b = true ∧
  (match x.1, y.1 with
      | .b, _ => False
      | .p, .b => True
      | .p, .p => True
      | .p, _ => False
      | _, .b => False
      | _, .p => True
      | .e, .n => False
      | .n, .e => False
      | .a, .e => False
      | .s, .e => False
      | x, y => (x.nondet && y.callish) = false)
def cc (x y : Kd) : Prop := match x, y with
      | .b, _ => False
      | .p, .b => True
      | .p, .p => True
      | .p, _ => False
      | _, .b => False
      | _, .p => True
      | .e, .n => False
      | .n, .e => False
      | .a, .e => False
      | .s, .e => False
      | x, y => (x.nondet && y.callish) = false
theorem Conc.kinds {ops : Array Oper} {x y : Item} (h : Conc ops x y) : cc x.1 y.1 := by
  obtain ⟨_, _, _, _, _, hc⟩ := h
  exact hc
theorem cc_noB {k y : Kd} (h : cc k y) (hy : y = .d ∨ y = .a ∨ y = .s) : k ≠ .b ∧ k ≠ .p := by
  rcases hy with rfl | rfl | rfl <;> cases k <;> simp_all [cc]
theorem cc_noN {k : Kd} (h : cc k .n) : k = .d ∨ k = .m := by
  cases k <;> simp_all [cc, Kd.nondet, Kd.callish]
theorem cc_noNe {k y : Kd} (h : cc k y) (hy : y = .m ∨ y = .e) : k = .d ∨ k = .m ∨ k = .e := by
  rcases hy with rfl | rfl <;> cases k <;> simp_all [cc, Kd.nondet, Kd.callish]
theorem cc_onlyP {k y : Kd} (h : cc k y) (hy : y = .b ∨ (y = .p ∧ Kd.tail k = true)) : k = .p := by
  rcases hy with rfl | ⟨rfl, hy⟩ <;> cases k <;> simp_all [cc, Kd.tail]
theorem cc_noBp {k : Kd} (h : cc k .p) : k ≠ .b := by cases k <;> simp_all [cc]
theorem pairOk_spec {ops : Array Oper} {x y : Item} (h : pairOk ops (befs ops ops.size) x y = true) : x.2 ≠ y.2 ∧ (Bef ops x.2 y.2 ∨ Conc ops x y) := by
  unfold pairOk at h
  simp only [Bool.and_eq_true, Bool.or_eq_true, Bool.not_eq_true'] at h
  obtain ⟨⟨h1, h2⟩, h3⟩ := h
  refine ⟨fun he => by rw [he] at h2; simp at h2, ?_⟩
  rcases h3 with h3 | ⟨h3, h4⟩
  · exact .inl (befs_spec ops _ _ _ h3)
  · right
    cases ha : ops[x.2]? with
    | none => simp [ha] at h3
    | some a =>
      cases hb : ops[y.2]? with
      | none => simp [ha, hb] at h3
      | some b =>
        rw [ha, hb] at h3
        refine ⟨a, b, by first | rfl | assumption, by first | rfl | assumption, h3, ?_⟩
        obtain ⟨x1, x2⟩ := x
        obtain ⟨y1, y2⟩ := y
        cases x1 <;> cases y1 <;> simp_all [Kd.nondet, Kd.callish]

/-- What is at hand of a world in the head of a region. -/
structure Hd (C : Ctx) (Lr X B : List HP) (w : World) : Prop where
  st : St C.w0 C.M (X ++ B) w
  lr : St C.w0 C.M Lr w
section
variable (C : Ctx) (Q : SPost) (ops : Array Oper) (L0 Lr : List HP)
def Det (e : Env) (o : Oper) (v : Value) : Prop := (wantedS C.n ops e o = true ∧ Yld C Lr e o v) ∨ (wantedS C.n ops e o = false ∧ v = undef)
def PDet (e : Env) (o : Oper) (v : Value) : Prop := (wantedS C.n ops e o = true ∧ ∀ w, (execOp (ev C.n e) o).run C.P w = .ok (.value v) w) ∨ (wantedS C.n ops e o = false ∧ v = undef)
def MDet (e : Env) (o : Oper) (v : Value) : Prop := wantedS C.n ops e o = true ∧ ∃ f args, (∀ w, (execOp (ev C.n e) o).run C.P w = .ok (.enter f args) w) ∧ ∀ w, St C.w0 C.M Lr w → Tri C.P f args w [] (Ret fun v' _ => v' = v)
def ADet (sl : Bool) (e : Env) (o : Oper) (mkp : Nat → Value) (hp : Nat → HP) : Prop := wantedS C.n ops e o = true ∧ ∃ (cs : List Value) (T : Nat), (∀ w, (execOp (ev C.n e) o).run C.P w = .ok (.value (mkp w.heap.size)) (w.alloc (.cells cs.toArray T))) ∧
  match sl with
  | false => mkp = (fun b => .pointer (some ⟨b, 0, none⟩)) ∧ hp = (fun b => .blk b (.cells cs.toArray T))
  | true => ∃ n c, mkp = (fun b => .slice (some ⟨b, 0, none⟩) n c) ∧ hp = (fun b => .blk b (.cells cs.toArray T))
def Big (P : Program) (K : Value → World → Prop) (Pan : List PanicEntry → World → Prop) : Result Next → Prop
  | .ok (.value v) w' => K v w'
  | .ok .skip w' => K undef w'
  | .ok (.enter f args) w' => Calls P f args w' fun
    | .returned v, w'' => K v w''
    | .panicked ch, w'' => Pan ch w''
    | .outgrown, _ => False
  | .halt (.panic v) w' => Pan [{ v, recovered := false }] w'
  | _ => False
def NDet (e : Env) (o : Oper) (R : Value → List HP → Prop) : Prop := wantedS C.n ops e o = true ∧ ∀ w, St C.w0 C.M (L0 ++ Lr) w → Big C.P (fun v w' => ∃ L', R v L' ∧ St w (doms L0) L' w') (fun _ _ => False) ((execOp (ev C.n e) o).run C.P w)
theorem updo_ds (e : Env) (d : Option Nat) (v : Value) : (updo e d v).ds = e.ds := by cases d <;> rfl
def PanS (ds : List Deferred) (w : List PanicEntry) (w' : World) : Prop := ∃ Y', St C.w0 C.M Y' w' ∧ ∀ e', e'.ds = ds → Q (.panic w) e' Y'
def J : List Item → Env → List HP → List HP → Prop
  | [], e, X, B => ∃ Y', (X ++ B).Perm Y' ∧ Q .normal e Y'
  | (k, i) :: r, e, X, B => ∃ o, ops[i]? = some o ∧ match k with
    | .d => ∃ v, Det C ops Lr e o v ∧ J r (updo e o.dst v) X B
    | .p => ∃ v, PDet C ops e o v ∧ J r (updo e o.dst v) X B
    | .m => ∃ v, MDet C ops Lr e o v ∧ J r (updo e o.dst v) X B
    | .e => ∃ v, Det C ops (X ++ B) e o v ∧ J r (updo e o.dst v) X B
    | .n => ∃ R B0 X0 X1, (B = B0 ++ Lr ∧ (B0 = L0 ∨ B0 = [])) ∧ X.Perm (X0 ++ X1) ∧ NDet C ops (B0 ++ X0) Lr e o R ∧ ∀ v L', R v L' → (∃ w, Hd C Lr (L' ++ X1) Lr w) → J r (updo e o.dst v) (L' ++ X1) Lr
    | .a => ∃ mkp hp, ADet C ops false e o mkp hp ∧ ∀ b, (∃ w, Hd C Lr (hp b :: X) B w) → J r (updo e o.dst (mkp b)) (hp b :: X) B
    | .s => ∃ mkp hp, ADet C ops true e o mkp hp ∧ ∀ b, (∃ w, Hd C Lr (hp b :: X) B w) → J r (updo e o.dst (mkp b)) (hp b :: X) B
    | .b => wantedS C.n ops e o = true ∧ ∀ w, St C.w0 C.M (X ++ B) w → Big C.P (fun v w' => ∃ Y', St C.w0 C.M Y' w' ∧ J r (updo e o.dst v) Y' []) (PanS C Q e.ds) ((execOp (ev C.n e) o).run C.P w)
end
section
variable {C : Ctx} {Q : SPost} {ops : Array Oper} {L0 Lr : List HP}
theorem Det.mono {L L' : List HP} {e : Env} {o : Oper} {v : Value} (h : Det C ops L e o v) (hl : ∀ w, St C.w0 C.M L' w → St C.w0 C.M L w) : Det C ops L' e o v :=
  h.imp (fun h => ⟨h.1, fun w hw => h.2 w (hl w hw)⟩) id
theorem Hd.perm {X X' B : List HP} {w : World} (h : Hd C Lr X B w) (hp : X.Perm X') : Hd C Lr X' B w := ⟨h.st.perm (hp.append_right B), h.lr⟩
theorem J.perm : ∀ {l : List Item} {e : Env} {X X' B : List HP}, X.Perm X' → J C Q ops L0 Lr l e X B → J C Q ops L0 Lr l e X' B
  | [], e, X, X', B, hp, ⟨Y', h1, h2⟩ => ⟨Y', ((hp.symm.append_right B)).trans h1, h2⟩
  | (k, i) :: r, e, X, X', B, hp, ⟨o, ho, h⟩ => by
    refine ⟨o, ho, ?_⟩
    cases k with
    | d => obtain ⟨v, h1, h2⟩ := h; exact ⟨v, h1, J.perm hp h2⟩
    | p => obtain ⟨v, h1, h2⟩ := h; exact ⟨v, h1, J.perm hp h2⟩
    | m => obtain ⟨v, h1, h2⟩ := h; exact ⟨v, h1, J.perm hp h2⟩
    | e => obtain ⟨v, h1, h2⟩ := h; exact ⟨v, h1.mono fun w hw => hw.perm (hp.symm.append_right B), J.perm hp h2⟩
    | n => obtain ⟨R, B0, X0, X1, h0, hx, h1, h2⟩ := h; exact ⟨R, B0, X0, X1, h0, hp.symm.trans hx, h1, h2⟩
    | s => obtain ⟨mkp, hp', h1, h2⟩ := h; exact ⟨mkp, hp', h1, fun b hw => J.perm (hp.cons _) (h2 b (hw.imp fun w hw => hw.perm (hp.symm.cons _)))⟩
    | a => obtain ⟨mkp, hp', h1, h2⟩ := h; exact ⟨mkp, hp', h1, fun b hw => J.perm (hp.cons _) (h2 b (hw.imp fun w hw => hw.perm (hp.symm.cons _)))⟩
    | b => exact ⟨h.1, fun w hw => h.2 w (hw.perm (hp.symm.append_right B))⟩
theorem exec_apart {n : Nat} {e : Env} {o : Oper} {dst : Option Nat} {x : Value} (hs : ∀ cs b, o.op ≠ .select cs b) (h : ∀ d, dst = some d → d ∉ o.looksAt ops) : execOp (ev n (updo e dst x)) o = execOp (ev n e) o := by
  rw [← mk_eval, ← mk_eval, ← mk_put]
  exact execOp_put o hs (mk n e) dst x h
theorem wanted_apart {n : Nat} {e : Env} {o : Oper} {dst : Option Nat} {x : Value} (h : ∀ d, dst = some d → d ∉ o.looksAt ops) : wantedS n ops (updo e dst x) o = wantedS n ops e o := by
  rw [← yielded_mk, ← yielded_mk, ← mk_put]
  exact wanted_put o (mk n e) dst x h
theorem updo_comm {e : Env} {d1 d2 : Option Nat} {v u : Value} (h : ∀ d, d1 = some d → d2 ≠ some d) : updo (updo e d1 v) d2 u = updo (updo e d2 u) d1 v := by
  cases d1 with
  | none => rfl
  | some a =>
    cases d2 with
    | none => rfl
    | some b =>
      have hne : a ≠ b := fun he => h a rfl (by rw [he])
      refine Env.ext (funext fun t => ?_) rfl
      simp only [updo, upd]
      by_cases h1 : t = a
      · subst h1
        have : Nat.beq t b = false := by rw [Bool.eq_false_iff]; simp; exact hne
        simp [this]
      · have : Nat.beq t a = false := by rw [Bool.eq_false_iff]; simp; exact h1
        simp [this]
theorem Det.same {e : Env} {o : Oper} {dst : Option Nat} {x v : Value} (hs : ∀ cs b, o.op ≠ .select cs b) (h : ∀ d, dst = some d → d ∉ o.looksAt ops) : Det C ops Lr (updo e dst x) o v ↔ Det C ops Lr e o v := by
  unfold Det Yld; rw [exec_apart hs h, wanted_apart h]
theorem PDet.same {e : Env} {o : Oper} {dst : Option Nat} {x v : Value} (hs : ∀ cs b, o.op ≠ .select cs b) (h : ∀ d, dst = some d → d ∉ o.looksAt ops) : PDet C ops (updo e dst x) o v ↔ PDet C ops e o v := by
  unfold PDet; rw [exec_apart hs h, wanted_apart h]
theorem MDet.same {e : Env} {o : Oper} {dst : Option Nat} {x v : Value} (hs : ∀ cs b, o.op ≠ .select cs b) (h : ∀ d, dst = some d → d ∉ o.looksAt ops) : MDet C ops Lr (updo e dst x) o v ↔ MDet C ops Lr e o v := by
  unfold MDet; rw [exec_apart hs h, wanted_apart h]
theorem NDet.same {e : Env} {o : Oper} {dst : Option Nat} {x : Value} {R : Value → List HP → Prop} (hs : ∀ cs b, o.op ≠ .select cs b) (h : ∀ d, dst = some d → d ∉ o.looksAt ops) : NDet C ops L0 Lr (updo e dst x) o R ↔ NDet C ops L0 Lr e o R := by
  unfold NDet; rw [exec_apart hs h, wanted_apart h]
theorem ADet.same {sl : Bool} {e : Env} {o : Oper} {dst : Option Nat} {x : Value} {mkp : Nat → Value} {hp : Nat → HP} (hs : ∀ cs b, o.op ≠ .select cs b) (h : ∀ d, dst = some d → d ∉ o.looksAt ops) : ADet C ops sl (updo e dst x) o mkp hp ↔ ADet C ops sl e o mkp hp := by
  unfold ADet; rw [exec_apart hs h, wanted_apart h]
theorem Det.uniq {e : Env} {o : Oper} {v u : Value} {w : World} (hw : St C.w0 C.M Lr w) (h : Det C ops Lr e o v) (k : Det C ops Lr e o u) : v = u := by
  rcases h with ⟨h1, h2⟩ | ⟨h1, h2⟩ <;> rcases k with ⟨k1, k2⟩ | ⟨k1, k2⟩
  · have := h2 w hw; rw [k2 w hw] at this; simpa using this.symm
  · rw [h1] at k1; cases k1
  · rw [h1] at k1; cases k1
  · rw [h2, k2]
theorem ADet.go {sl : Bool} {e : Env} {o : Oper} {mkp : Nat → Value} {hp : Nat → HP} {X B : List HP} {w : World} (h : ADet C ops sl e o mkp hp) (hw : Hd C Lr X B w) :
    ∃ w', (execOp (ev C.n e) o).run C.P w = .ok (.value (mkp w.heap.size)) w' ∧ Hd C Lr (hp w.heap.size :: X) B w' := by
  obtain ⟨_, cs, T, hr, h2⟩ := h
  have hk : (hp w.heap.size).sat (w.alloc (.cells cs.toArray T)) ∧ (hp w.heap.size).dom = [w.heap.size] := by
    cases sl with
    | false => obtain ⟨_, rfl⟩ := h2; exact ⟨heap_alloc_new w _, rfl⟩
    | true => obtain ⟨_, _, _, rfl⟩ := h2; exact ⟨heap_alloc_new w _, rfl⟩
  refine ⟨_, hr w, ?_, ?_⟩
  · exact hw.st.new (q := hp w.heap.size) hk.1 (Fr.alloc w _) (by rw [hk.2]; simp)
  · have := hw.lr.new (q := hp w.heap.size) hk.1 (Fr.alloc w _) (by rw [hk.2]; simp)
    exact St.drop (A := [hp w.heap.size]) this
theorem alloc_inj {w : World} {o o' : Obj} (h : w.alloc o = w.alloc o') : o = o' := by
  have := congrArg (fun w' : World => w'.heap[w.heap.size]?) h
  simp only [heap_alloc_new] at this
  exact Option.some.inj this
theorem ADet.uniq {sl : Bool} {e : Env} {o : Oper} {mkp mkp' : Nat → Value} {hp hp' : Nat → HP} (w : World) (h : ADet C ops sl e o mkp hp) (k : ADet C ops sl e o mkp' hp') : mkp = mkp' ∧ hp = hp' := by
  obtain ⟨_, cs, T, h1, h2⟩ := h
  obtain ⟨_, cs', T', k1, k2⟩ := k
  have he := h1 w
  rw [k1 w] at he
  injection he with he1 he2
  have hob := alloc_inj he2
  injection hob with ho1 ho2
  have ho1 : cs' = cs := by simpa using ho1
  subst ho1 ho2
  cases sl with
  | false => obtain ⟨rfl, rfl⟩ := h2; obtain ⟨rfl, rfl⟩ := k2; exact ⟨rfl, rfl⟩
  | true =>
    obtain ⟨n, c, rfl, rfl⟩ := h2
    obtain ⟨n', c', rfl, rfl⟩ := k2
    injection he1 with he1
    injection he1 with _ he1 he2
    subst he1 he2
    exact ⟨rfl, rfl⟩
theorem Big.some {P : Program} {K : Value → World → Prop} {r : Result Next} (h : Big P K (fun _ _ => False) r) : ∃ v w', K v w' := by
  cases r with
  | ok n w =>
    cases n <;> simp only [Big] at h
    case value v => exact ⟨v, w, h⟩
    case skip => exact ⟨undef, w, h⟩
    case enter f args =>
      obtain ⟨e, w', fr, hK, _⟩ := h []
      cases e with
      | returned v => exact ⟨v, w', hK⟩
      | panicked ch => exact hK.elim
      | outgrown => exact hK.elim
  | halt x w => cases x <;> simp only [Big] at h
theorem Tri.some {P : Program} {f : FuncId} {args : Array Value} {w : World} {L0 : List HP} {R : Value → List HP → Prop} (h : Tri P f args w L0 (Ret R)) : ∃ v L' w', R v L' ∧ St w (doms L0) L' w' := by
  obtain ⟨e, w', fr, ⟨L', hR, hst⟩, _⟩ := h []
  cases e with
  | returned v => exact ⟨v, L', w', hR, hst⟩
  | panicked ch => exact hR.elim
  | outgrown => exact hR.elim
theorem Hd.call {X : List HP} {w w' : World} {L' : List HP} (hw : Hd C Lr X (L0 ++ Lr) w) (hst : St w (doms L0) L' w') : Hd C Lr (L' ++ X) Lr w' := by
  have h1 : St C.w0 C.M (L0 ++ (X ++ Lr)) w := hw.st.perm (by
    rw [← List.append_assoc, ← List.append_assoc]; exact List.Perm.append_right Lr List.perm_append_comm)
  have h2 := St.step h1 hst
  refine ⟨by rw [List.append_assoc]; exact h2, ?_⟩
  exact St.drop (A := L' ++ X) (by rw [List.append_assoc]; exact h2)
theorem Hd.callX {X B B0 X0 X1 : List HP} {w w' : World} {L' : List HP} (hw : Hd C Lr X B w) (hB : B = B0 ++ Lr) (hX : X.Perm (X0 ++ X1)) (hst : St w (doms (B0 ++ X0)) L' w') : Hd C Lr (L' ++ X1) Lr w' := by
  subst hB
  have hp : (X ++ (B0 ++ Lr)).Perm ((B0 ++ X0) ++ (X1 ++ Lr)) := by
    refine (hX.append_right _).trans ?_
    rw [← List.append_assoc, List.append_assoc B0, ← List.append_assoc X0, ← List.append_assoc B0]
    exact List.Perm.append_right Lr List.perm_append_comm
  have h1 : St C.w0 C.M ((B0 ++ X0) ++ (X1 ++ Lr)) w := hw.st.perm hp
  have h2 := St.step h1 hst
  refine ⟨by rw [List.append_assoc]; exact h2, ?_⟩
  exact St.drop (A := L' ++ X1) (by rw [List.append_assoc]; exact h2)
theorem Hd.readX {X B B0 X0 X1 : List HP} {w : World} (hw : Hd C Lr X B w) (hB : B = B0 ++ Lr) (hX : X.Perm (X0 ++ X1)) : St C.w0 C.M ((B0 ++ X0) ++ Lr) w := by
  subst hB
  refine St.drop (A := X1) (hw.st.perm ?_)
  refine (hX.append_right _).trans ?_
  rw [← List.append_assoc, ← List.append_assoc X1]
  refine List.Perm.append_right Lr ?_
  refine (List.perm_append_comm).trans ?_
  rw [← List.append_assoc]
  exact List.perm_append_comm
theorem Hd.callM {X B : List HP} {w w' : World} {L' : List HP} (hw : Hd C Lr X B w) (hst : St w (doms []) L' w') : Hd C Lr X B w' :=
  ⟨St.drop (A := L') (St.step (A := []) hw.st hst), St.drop (A := L') (St.step (A := []) hw.lr hst)⟩
/-- Which items may stand ahead. -/
def noB (l : List Item) : Prop := ∀ x ∈ l, x.1 ≠ .b ∧ x.1 ≠ .p
def apartFrom (ops : Array Oper) (pre : List Item) (j : Nat) : Prop := ∀ x ∈ pre, ∃ a b, ops[x.2]? = some a ∧ ops[j]? = some b ∧ a.apart ops b = true
theorem pullD (hsel : Region.noSelect ops = true) {j : Nat} {post : List Item} : ∀ (pre : List Item) (e : Env) (X B : List HP) (w : World), noB pre → apartFrom ops pre j → Hd C Lr X B w →
    J C Q ops L0 Lr (pre ++ (.d, j) :: post) e X B → ∃ o v, ops[j]? = some o ∧ Det C ops Lr e o v ∧ J C Q ops L0 Lr (pre ++ post) (updo e o.dst v) X B
  | [], e, X, B, w, _, _, _, h => by
    obtain ⟨o, ho, v, h1, h2⟩ := h
    exact ⟨o, v, ho, h1, h2⟩
  | (k, i) :: pre, e, X, B, w, hn, ha, hw, h => by
    have hn' : noB pre := fun x hx => hn x (List.mem_cons_of_mem _ hx)
    have ha' : apartFrom ops pre j := fun x hx => ha x (List.mem_cons_of_mem _ hx)
    obtain ⟨oi, oj, hoi, hoj, hap⟩ := ha (k, i) (by simp)
    obtain ⟨a1, a2, a3⟩ := Oper.apart_spec hap
    have hsj : ∀ cs b, oj.op ≠ .select cs b := fun cs b => Region.noSelect_spec hsel j oj cs b hoj
    have hsi : ∀ cs b, oi.op ≠ .select cs b := fun cs b => Region.noSelect_spec hsel i oi cs b hoi
    obtain ⟨o, ho, h⟩ := h
    have : o = oi := Option.some.inj (ho.symm.trans hoi)
    subst this
    refine ⟨oj, ?_⟩
    cases k with
    | d =>
      obtain ⟨v, h1, h2⟩ := h
      obtain ⟨o', u, ho', hd, hj⟩ := pullD hsel pre _ X B w hn' ha' hw h2
      have : o' = oj := Option.some.inj (ho'.symm.trans hoj)
      subst this
      refine ⟨u, hoj, (Det.same hsj a1).1 hd, o, ho, v, (Det.same hsi a3).2 h1, ?_⟩
      rw [← updo_comm a2]; exact hj
    | m =>
      obtain ⟨v, h1, h2⟩ := h
      obtain ⟨o', u, ho', hd, hj⟩ := pullD hsel pre _ X B w hn' ha' hw h2
      have : o' = oj := Option.some.inj (ho'.symm.trans hoj)
      subst this
      refine ⟨u, hoj, (Det.same hsj a1).1 hd, o, ho, v, (MDet.same hsi a3).2 h1, ?_⟩
      rw [← updo_comm a2]; exact hj
    | e =>
      obtain ⟨v, h1, h2⟩ := h
      obtain ⟨o', u, ho', hd, hj⟩ := pullD hsel pre _ X B w hn' ha' hw h2
      have : o' = oj := Option.some.inj (ho'.symm.trans hoj)
      subst this
      refine ⟨u, hoj, (Det.same hsj a1).1 hd, o, ho, v, (Det.same hsi a3).2 h1, ?_⟩
      rw [← updo_comm a2]; exact hj
    | n =>
      obtain ⟨R, B0, X0, X1, hB, hX, h1, h2⟩ := h
      obtain ⟨v0, w0', L0', hR0, hst0⟩ := Big.some (h1.2 w (hw.readX hB.1 hX))
      obtain ⟨o', u, ho', hd, _⟩ := pullD hsel pre _ _ _ _ hn' ha' (hw.callX hB.1 hX hst0) (h2 v0 L0' hR0 ⟨_, hw.callX hB.1 hX hst0⟩)
      have : o' = oj := Option.some.inj (ho'.symm.trans hoj)
      subst this
      have hd := (Det.same hsj a1).1 hd
      refine ⟨u, hoj, hd, o, ho, R, B0, X0, X1, hB, hX, (NDet.same hsi a3).2 h1, fun v L' hR hex => ?_⟩
      obtain ⟨w1, hw1⟩ := hex
      obtain ⟨o2, u2, ho2, hd2, hj2⟩ := pullD hsel pre _ _ _ _ hn' ha' hw1 (h2 v L' hR ⟨w1, hw1⟩)
      have : o2 = o' := Option.some.inj (ho2.symm.trans hoj)
      subst this
      have := Det.uniq hw.lr ((Det.same hsj a1).1 hd2) hd
      subst this
      rw [← updo_comm a2]; exact hj2
    | a =>
      obtain ⟨mkp, hp, h1, h2⟩ := h
      obtain ⟨w1, hr1, hw1⟩ := h1.go hw
      obtain ⟨o', u, ho', hd, _⟩ := pullD hsel pre _ _ _ _ hn' ha' hw1 (h2 w.heap.size ⟨w1, hw1⟩)
      have : o' = oj := Option.some.inj (ho'.symm.trans hoj)
      subst this
      have hd := (Det.same hsj a1).1 hd
      refine ⟨u, hoj, hd, o, ho, mkp, hp, (ADet.same hsi a3).2 h1, fun b hex => ?_⟩
      obtain ⟨w2, hw2⟩ := hex
      obtain ⟨o2, u2, ho2, hd2, hj2⟩ := pullD hsel pre _ _ _ _ hn' ha' hw2 (h2 b ⟨w2, hw2⟩)
      have : o2 = o' := Option.some.inj (ho2.symm.trans hoj)
      subst this
      have := Det.uniq hw.lr ((Det.same hsj a1).1 hd2) hd
      subst this
      rw [← updo_comm a2]; exact hj2
    | s =>
      obtain ⟨mkp, hp, h1, h2⟩ := h
      obtain ⟨w1, hr1, hw1⟩ := h1.go hw
      obtain ⟨o', u, ho', hd, _⟩ := pullD hsel pre _ _ _ _ hn' ha' hw1 (h2 w.heap.size ⟨w1, hw1⟩)
      have : o' = oj := Option.some.inj (ho'.symm.trans hoj)
      subst this
      have hd := (Det.same hsj a1).1 hd
      refine ⟨u, hoj, hd, o, ho, mkp, hp, (ADet.same hsi a3).2 h1, fun b hex => ?_⟩
      obtain ⟨w2, hw2⟩ := hex
      obtain ⟨o2, u2, ho2, hd2, hj2⟩ := pullD hsel pre _ _ _ _ hn' ha' hw2 (h2 b ⟨w2, hw2⟩)
      have : o2 = o' := Option.some.inj (ho2.symm.trans hoj)
      subst this
      have := Det.uniq hw.lr ((Det.same hsj a1).1 hd2) hd
      subst this
      rw [← updo_comm a2]; exact hj2
    | b => exact absurd rfl (hn (.b, i) (by simp)).1
    | p => exact absurd rfl (hn (.p, i) (by simp)).2
/-- Nothing ahead that leaves open what it gives. -/
def noN (l : List Item) : Prop := ∀ x ∈ l, x.1 = .d ∨ x.1 = .m
def noNe (l : List Item) : Prop := ∀ x ∈ l, x.1 = .d ∨ x.1 = .m ∨ x.1 = .e
theorem pullM (hsel : Region.noSelect ops = true) {j : Nat} {post : List Item} : ∀ (pre : List Item) (e : Env) (X B : List HP), noNe pre → apartFrom ops pre j →
    J C Q ops L0 Lr (pre ++ (.m, j) :: post) e X B → ∃ o v, ops[j]? = some o ∧ MDet C ops Lr e o v ∧ J C Q ops L0 Lr (pre ++ post) (updo e o.dst v) X B
  | [], e, X, B, _, _, h => by
    obtain ⟨o, ho, v, h1, h2⟩ := h
    exact ⟨o, v, ho, h1, h2⟩
  | (k, i) :: pre, e, X, B, hn, ha, h => by
    have hn' : noNe pre := fun x hx => hn x (List.mem_cons_of_mem _ hx)
    have ha' : apartFrom ops pre j := fun x hx => ha x (List.mem_cons_of_mem _ hx)
    obtain ⟨oi, oj, hoi, hoj, hap⟩ := ha (k, i) (by simp)
    obtain ⟨a1, a2, a3⟩ := Oper.apart_spec hap
    have hsj : ∀ cs b, oj.op ≠ .select cs b := fun cs b => Region.noSelect_spec hsel j oj cs b hoj
    have hsi : ∀ cs b, oi.op ≠ .select cs b := fun cs b => Region.noSelect_spec hsel i oi cs b hoi
    obtain ⟨o, ho, h⟩ := h
    have : o = oi := Option.some.inj (ho.symm.trans hoi)
    subst this
    refine ⟨oj, ?_⟩
    cases k with
    | d =>
      obtain ⟨v, h1, h2⟩ := h
      obtain ⟨o', u, ho', hd, hj⟩ := pullM hsel pre _ X B hn' ha' h2
      have : o' = oj := Option.some.inj (ho'.symm.trans hoj)
      subst this
      refine ⟨u, hoj, (MDet.same hsj a1).1 hd, o, ho, v, (Det.same hsi a3).2 h1, ?_⟩
      rw [← updo_comm a2]; exact hj
    | m =>
      obtain ⟨v, h1, h2⟩ := h
      obtain ⟨o', u, ho', hd, hj⟩ := pullM hsel pre _ X B hn' ha' h2
      have : o' = oj := Option.some.inj (ho'.symm.trans hoj)
      subst this
      refine ⟨u, hoj, (MDet.same hsj a1).1 hd, o, ho, v, (MDet.same hsi a3).2 h1, ?_⟩
      rw [← updo_comm a2]; exact hj
    | e =>
      obtain ⟨v, h1, h2⟩ := h
      obtain ⟨o', u, ho', hd, hj⟩ := pullM hsel pre _ X B hn' ha' h2
      have : o' = oj := Option.some.inj (ho'.symm.trans hoj)
      subst this
      refine ⟨u, hoj, (MDet.same hsj a1).1 hd, o, ho, v, (Det.same hsi a3).2 h1, ?_⟩
      rw [← updo_comm a2]; exact hj
    | n => rcases hn (.n, i) (by simp) with h' | h' | h' <;> cases h'
    | a => rcases hn (.a, i) (by simp) with h' | h' | h' <;> cases h'
    | s => rcases hn (.s, i) (by simp) with h' | h' | h' <;> cases h'
    | b => rcases hn (.b, i) (by simp) with h' | h' | h' <;> cases h'
    | p => rcases hn (.p, i) (by simp) with h' | h' | h' <;> cases h'
theorem pullE (hsel : Region.noSelect ops = true) {j : Nat} {post : List Item} : ∀ (pre : List Item) (e : Env) (X B : List HP), noNe pre → apartFrom ops pre j →
    J C Q ops L0 Lr (pre ++ (.e, j) :: post) e X B → ∃ o v, ops[j]? = some o ∧ Det C ops (X ++ B) e o v ∧ J C Q ops L0 Lr (pre ++ post) (updo e o.dst v) X B
  | [], e, X, B, _, _, h => by
    obtain ⟨o, ho, v, h1, h2⟩ := h
    exact ⟨o, v, ho, h1, h2⟩
  | (k, i) :: pre, e, X, B, hn, ha, h => by
    have hn' : noNe pre := fun x hx => hn x (List.mem_cons_of_mem _ hx)
    have ha' : apartFrom ops pre j := fun x hx => ha x (List.mem_cons_of_mem _ hx)
    obtain ⟨oi, oj, hoi, hoj, hap⟩ := ha (k, i) (by simp)
    obtain ⟨a1, a2, a3⟩ := Oper.apart_spec hap
    have hsj : ∀ cs b, oj.op ≠ .select cs b := fun cs b => Region.noSelect_spec hsel j oj cs b hoj
    have hsi : ∀ cs b, oi.op ≠ .select cs b := fun cs b => Region.noSelect_spec hsel i oi cs b hoi
    obtain ⟨o, ho, h⟩ := h
    have : o = oi := Option.some.inj (ho.symm.trans hoi)
    subst this
    refine ⟨oj, ?_⟩
    cases k with
    | d =>
      obtain ⟨v, h1, h2⟩ := h
      obtain ⟨o', u, ho', hd, hj⟩ := pullE hsel pre _ X B hn' ha' h2
      have : o' = oj := Option.some.inj (ho'.symm.trans hoj)
      subst this
      refine ⟨u, hoj, (Det.same hsj a1).1 hd, o, ho, v, (Det.same hsi a3).2 h1, ?_⟩
      rw [← updo_comm a2]; exact hj
    | m =>
      obtain ⟨v, h1, h2⟩ := h
      obtain ⟨o', u, ho', hd, hj⟩ := pullE hsel pre _ X B hn' ha' h2
      have : o' = oj := Option.some.inj (ho'.symm.trans hoj)
      subst this
      refine ⟨u, hoj, (Det.same hsj a1).1 hd, o, ho, v, (MDet.same hsi a3).2 h1, ?_⟩
      rw [← updo_comm a2]; exact hj
    | e =>
      obtain ⟨v, h1, h2⟩ := h
      obtain ⟨o', u, ho', hd, hj⟩ := pullE hsel pre _ X B hn' ha' h2
      have : o' = oj := Option.some.inj (ho'.symm.trans hoj)
      subst this
      refine ⟨u, hoj, (Det.same hsj a1).1 hd, o, ho, v, (Det.same hsi a3).2 h1, ?_⟩
      rw [← updo_comm a2]; exact hj
    | n => rcases hn (.n, i) (by simp) with h' | h' | h' <;> cases h'
    | a => rcases hn (.a, i) (by simp) with h' | h' | h' <;> cases h'
    | s => rcases hn (.s, i) (by simp) with h' | h' | h' <;> cases h'
    | b => rcases hn (.b, i) (by simp) with h' | h' | h' <;> cases h'
    | p => rcases hn (.p, i) (by simp) with h' | h' | h' <;> cases h'
theorem pullN (hsel : Region.noSelect ops = true) {j : Nat} {post : List Item} : ∀ (pre : List Item) (e : Env) (X B : List HP), noN pre → apartFrom ops pre j →
    J C Q ops L0 Lr (pre ++ (.n, j) :: post) e X B → ∃ o R B0 X0 X1, ops[j]? = some o ∧ (B = B0 ++ Lr ∧ (B0 = L0 ∨ B0 = [])) ∧ X.Perm (X0 ++ X1) ∧ NDet C ops (B0 ++ X0) Lr e o R ∧ ∀ v L', R v L' → (∃ w, Hd C Lr (L' ++ X1) Lr w) → J C Q ops L0 Lr (pre ++ post) (updo e o.dst v) (L' ++ X1) Lr
  | [], e, X, B, _, _, h => by
    obtain ⟨o, ho, R, B0, X0, X1, h1, h2, h3, h4⟩ := h
    exact ⟨o, R, B0, X0, X1, ho, h1, h2, h3, h4⟩
  | (k, i) :: pre, e, X, B, hn, ha, h => by
    have hn' : noN pre := fun x hx => hn x (List.mem_cons_of_mem _ hx)
    have ha' : apartFrom ops pre j := fun x hx => ha x (List.mem_cons_of_mem _ hx)
    obtain ⟨oi, oj, hoi, hoj, hap⟩ := ha (k, i) (by simp)
    obtain ⟨a1, a2, a3⟩ := Oper.apart_spec hap
    have hsj : ∀ cs b, oj.op ≠ .select cs b := fun cs b => Region.noSelect_spec hsel j oj cs b hoj
    have hsi : ∀ cs b, oi.op ≠ .select cs b := fun cs b => Region.noSelect_spec hsel i oi cs b hoi
    obtain ⟨o, ho, h⟩ := h
    have : o = oi := Option.some.inj (ho.symm.trans hoi)
    subst this
    refine ⟨oj, ?_⟩
    cases k with
    | d =>
      obtain ⟨v, h1, h2⟩ := h
      obtain ⟨o', R, B0, X0, X1, ho', hB, hX, hd, hj⟩ := pullN hsel pre _ X B hn' ha' h2
      have : o' = oj := Option.some.inj (ho'.symm.trans hoj)
      subst this
      refine ⟨R, B0, X0, X1, hoj, hB, hX, (NDet.same hsj a1).1 hd, fun u L' hR hex => ⟨o, ho, v, (Det.same hsi a3).2 h1, ?_⟩⟩
      rw [← updo_comm a2]; exact hj u L' hR hex
    | m =>
      obtain ⟨v, h1, h2⟩ := h
      obtain ⟨o', R, B0, X0, X1, ho', hB, hX, hd, hj⟩ := pullN hsel pre _ X B hn' ha' h2
      have : o' = oj := Option.some.inj (ho'.symm.trans hoj)
      subst this
      refine ⟨R, B0, X0, X1, hoj, hB, hX, (NDet.same hsj a1).1 hd, fun u L' hR hex => ⟨o, ho, v, (MDet.same hsi a3).2 h1, ?_⟩⟩
      rw [← updo_comm a2]; exact hj u L' hR hex
    | n => rcases hn (.n, i) (by simp) with h' | h' <;> cases h'
    | a => rcases hn (.a, i) (by simp) with h' | h' <;> cases h'
    | s => rcases hn (.s, i) (by simp) with h' | h' <;> cases h'
    | b => rcases hn (.b, i) (by simp) with h' | h' <;> cases h'
    | p => rcases hn (.p, i) (by simp) with h' | h' <;> cases h'
    | e => rcases hn (.e, i) (by simp) with h' | h' <;> cases h'
def slk (sl : Bool) : Kd := match sl with | false => .a | true => .s
theorem J.slk {sl : Bool} {j : Nat} {r : List Item} {e : Env} {X B : List HP} : J C Q ops L0 Lr ((slk sl, j) :: r) e X B ↔
    ∃ o, ops[j]? = some o ∧ ∃ mkp hp, ADet C ops sl e o mkp hp ∧ ∀ b, (∃ w, Hd C Lr (hp b :: X) B w) → J C Q ops L0 Lr r (updo e o.dst (mkp b)) (hp b :: X) B := by
  cases sl <;> exact Iff.rfl
theorem pullA (hsel : Region.noSelect ops = true) {sl : Bool} {j : Nat} {post : List Item} : ∀ (pre : List Item) (e : Env) (X B : List HP) (w : World), noB pre → apartFrom ops pre j → Hd C Lr X B w →
    J C Q ops L0 Lr (pre ++ (slk sl, j) :: post) e X B → ∃ o mkp hp, ops[j]? = some o ∧ ADet C ops sl e o mkp hp ∧ ∀ b, (∃ w, Hd C Lr (hp b :: X) B w) → J C Q ops L0 Lr (pre ++ post) (updo e o.dst (mkp b)) (hp b :: X) B
  | [], e, X, B, w, _, _, _, h => by
    obtain ⟨o, ho, mkp, hp, h1, h2⟩ := J.slk.1 h
    exact ⟨o, mkp, hp, ho, h1, h2⟩
  | (k, i) :: pre, e, X, B, w, hn, ha, hw, h => by
    have hn' : noB pre := fun x hx => hn x (List.mem_cons_of_mem _ hx)
    have ha' : apartFrom ops pre j := fun x hx => ha x (List.mem_cons_of_mem _ hx)
    obtain ⟨oi, oj, hoi, hoj, hap⟩ := ha (k, i) (by simp)
    obtain ⟨a1, a2, a3⟩ := Oper.apart_spec hap
    have hsj : ∀ cs b, oj.op ≠ .select cs b := fun cs b => Region.noSelect_spec hsel j oj cs b hoj
    have hsi : ∀ cs b, oi.op ≠ .select cs b := fun cs b => Region.noSelect_spec hsel i oi cs b hoi
    obtain ⟨o, ho, h⟩ := h
    have : o = oi := Option.some.inj (ho.symm.trans hoi)
    subst this
    refine ⟨oj, ?_⟩
    cases k with
    | d =>
      obtain ⟨v, h1, h2⟩ := h
      obtain ⟨o', mkp, hp, ho', hd, hj⟩ := pullA hsel pre _ X B w hn' ha' hw h2
      have : o' = oj := Option.some.inj (ho'.symm.trans hoj)
      subst this
      refine ⟨mkp, hp, hoj, (ADet.same hsj a1).1 hd, fun b hex => ⟨o, ho, v, (Det.same hsi a3).2 h1, ?_⟩⟩
      rw [← updo_comm a2]; exact hj b hex
    | m =>
      obtain ⟨v, h1, h2⟩ := h
      obtain ⟨o', mkp, hp, ho', hd, hj⟩ := pullA hsel pre _ X B w hn' ha' hw h2
      have : o' = oj := Option.some.inj (ho'.symm.trans hoj)
      subst this
      refine ⟨mkp, hp, hoj, (ADet.same hsj a1).1 hd, fun b hex => ⟨o, ho, v, (MDet.same hsi a3).2 h1, ?_⟩⟩
      rw [← updo_comm a2]; exact hj b hex
    | e =>
      obtain ⟨v, h1, h2⟩ := h
      obtain ⟨o', mkp, hp, ho', hd, hj⟩ := pullA hsel pre _ X B w hn' ha' hw h2
      have : o' = oj := Option.some.inj (ho'.symm.trans hoj)
      subst this
      refine ⟨mkp, hp, hoj, (ADet.same hsj a1).1 hd, fun b hex => ⟨o, ho, v, ((Det.same hsi a3).2 h1).mono fun w hw => St.drop (A := [hp b]) hw, ?_⟩⟩
      rw [← updo_comm a2]; exact hj b hex
    | n =>
      obtain ⟨R, B0, X0, X1, hB, hX, h1, h2⟩ := h
      obtain ⟨v0, w0', L0', hR0, hst0⟩ := Big.some (h1.2 w (hw.readX hB.1 hX))
      obtain ⟨o', mkp, hp, ho', hd, _⟩ := pullA hsel pre _ _ _ _ hn' ha' (hw.callX hB.1 hX hst0) (h2 v0 L0' hR0 ⟨_, hw.callX hB.1 hX hst0⟩)
      have : o' = oj := Option.some.inj (ho'.symm.trans hoj)
      subst this
      have hd := (ADet.same hsj a1).1 hd
      refine ⟨mkp, hp, hoj, hd, fun b hex => ⟨o, ho, R, B0, X0, hp b :: X1, hB, (hX.cons _).trans List.perm_middle.symm, (NDet.same hsi a3).2 h1, fun v L' hR hex2 => ?_⟩⟩
      obtain ⟨w1, hw1⟩ := hex2
      have hpm : (L' ++ hp b :: X1).Perm (hp b :: (L' ++ X1)) := List.perm_middle
      have hw1' := hw1.perm hpm
      have hw1d : Hd C Lr (L' ++ X1) Lr w1 := ⟨St.drop (A := [hp b]) hw1'.st, hw1'.lr⟩
      obtain ⟨o2, mkp2, hp2, ho2, hd2, hj2⟩ := pullA hsel pre _ _ _ _ hn' ha' hw1d (h2 v L' hR ⟨w1, hw1d⟩)
      have : o2 = o' := Option.some.inj (ho2.symm.trans hoj)
      subst this
      obtain ⟨rfl, rfl⟩ := ADet.uniq w ((ADet.same hsj a1).1 hd2) hd
      rw [← updo_comm a2]; exact J.perm hpm.symm (hj2 b ⟨w1, hw1'⟩)
    | a =>
      obtain ⟨mk1, hp1, h1, h2⟩ := h
      obtain ⟨w1, hr1, hw1⟩ := h1.go hw
      obtain ⟨o', mkp, hp, ho', hd, _⟩ := pullA hsel pre _ _ _ _ hn' ha' hw1 (h2 w.heap.size ⟨w1, hw1⟩)
      have : o' = oj := Option.some.inj (ho'.symm.trans hoj)
      subst this
      have hd := (ADet.same hsj a1).1 hd
      refine ⟨mkp, hp, hoj, hd, fun b hex => ⟨o, ho, mk1, hp1, (ADet.same hsi a3).2 h1, fun b2 hex2 => ?_⟩⟩
      obtain ⟨w2, hw2⟩ := hex2
      have hpm : (hp1 b2 :: hp b :: X).Perm (hp b :: hp1 b2 :: X) := List.Perm.swap _ _ _
      have hw2' := hw2.perm hpm
      have hw2d : Hd C Lr (hp1 b2 :: X) B w2 := ⟨St.drop (A := [hp b]) hw2'.st, hw2'.lr⟩
      obtain ⟨o2, mkp2, hp2, ho2, hd2, hj2⟩ := pullA hsel pre _ _ _ _ hn' ha' hw2d (h2 b2 ⟨w2, hw2d⟩)
      have : o2 = o' := Option.some.inj (ho2.symm.trans hoj)
      subst this
      obtain ⟨rfl, rfl⟩ := ADet.uniq w ((ADet.same hsj a1).1 hd2) hd
      rw [← updo_comm a2]; exact J.perm hpm.symm (hj2 b ⟨w2, hw2'⟩)
    | s =>
      obtain ⟨mk1, hp1, h1, h2⟩ := h
      obtain ⟨w1, hr1, hw1⟩ := h1.go hw
      obtain ⟨o', mkp, hp, ho', hd, _⟩ := pullA hsel pre _ _ _ _ hn' ha' hw1 (h2 w.heap.size ⟨w1, hw1⟩)
      have : o' = oj := Option.some.inj (ho'.symm.trans hoj)
      subst this
      have hd := (ADet.same hsj a1).1 hd
      refine ⟨mkp, hp, hoj, hd, fun b hex => ⟨o, ho, mk1, hp1, (ADet.same hsi a3).2 h1, fun b2 hex2 => ?_⟩⟩
      obtain ⟨w2, hw2⟩ := hex2
      have hpm : (hp1 b2 :: hp b :: X).Perm (hp b :: hp1 b2 :: X) := List.Perm.swap _ _ _
      have hw2' := hw2.perm hpm
      have hw2d : Hd C Lr (hp1 b2 :: X) B w2 := ⟨St.drop (A := [hp b]) hw2'.st, hw2'.lr⟩
      obtain ⟨o2, mkp2, hp2, ho2, hd2, hj2⟩ := pullA hsel pre _ _ _ _ hn' ha' hw2d (h2 b2 ⟨w2, hw2d⟩)
      have : o2 = o' := Option.some.inj (ho2.symm.trans hoj)
      subst this
      obtain ⟨rfl, rfl⟩ := ADet.uniq w ((ADet.same hsj a1).1 hd2) hd
      rw [← updo_comm a2]; exact J.perm hpm.symm (hj2 b ⟨w2, hw2'⟩)
    | b => exact absurd rfl (hn (.b, i) (by simp)).1
    | p => exact absurd rfl (hn (.p, i) (by simp)).2
def noBb (l : List Item) : Prop := ∀ x ∈ l, x.1 ≠ .b
theorem PDet.uniq {e : Env} {o : Oper} {v u : Value} (w : World) (h : PDet C ops e o v) (k : PDet C ops e o u) : v = u := by
  rcases h with ⟨h1, h2⟩ | ⟨h1, h2⟩ <;> rcases k with ⟨k1, k2⟩ | ⟨k1, k2⟩
  · have := h2 w; rw [k2 w] at this; simpa using this.symm
  · rw [h1] at k1; cases k1
  · rw [h1] at k1; cases k1
  · rw [h2, k2]
theorem pullH (hsel : Region.noSelect ops = true) {j : Nat} {post : List Item} : ∀ (pre : List Item) (e : Env) (X B : List HP) (w : World), noBb pre → apartFrom ops pre j → Hd C Lr X B w →
    J C Q ops L0 Lr (pre ++ (.p, j) :: post) e X B → ∃ o v, ops[j]? = some o ∧ PDet C ops e o v ∧ J C Q ops L0 Lr (pre ++ post) (updo e o.dst v) X B
  | [], e, X, B, w, _, _, _, h => by
    obtain ⟨o, ho, v, h1, h2⟩ := h
    exact ⟨o, v, ho, h1, h2⟩
  | (k, i) :: pre, e, X, B, w, hn, ha, hw, h => by
    have hn' : noBb pre := fun x hx => hn x (List.mem_cons_of_mem _ hx)
    have ha' : apartFrom ops pre j := fun x hx => ha x (List.mem_cons_of_mem _ hx)
    obtain ⟨oi, oj, hoi, hoj, hap⟩ := ha (k, i) (by simp)
    obtain ⟨a1, a2, a3⟩ := Oper.apart_spec hap
    have hsj : ∀ cs b, oj.op ≠ .select cs b := fun cs b => Region.noSelect_spec hsel j oj cs b hoj
    have hsi : ∀ cs b, oi.op ≠ .select cs b := fun cs b => Region.noSelect_spec hsel i oi cs b hoi
    obtain ⟨o, ho, h⟩ := h
    have : o = oi := Option.some.inj (ho.symm.trans hoi)
    subst this
    refine ⟨oj, ?_⟩
    cases k with
    | d =>
      obtain ⟨v, h1, h2⟩ := h
      obtain ⟨o', u, ho', hd, hj⟩ := pullH hsel pre _ X B w hn' ha' hw h2
      have : o' = oj := Option.some.inj (ho'.symm.trans hoj)
      subst this
      refine ⟨u, hoj, (PDet.same hsj a1).1 hd, o, ho, v, (Det.same hsi a3).2 h1, ?_⟩
      rw [← updo_comm a2]; exact hj
    | m =>
      obtain ⟨v, h1, h2⟩ := h
      obtain ⟨o', u, ho', hd, hj⟩ := pullH hsel pre _ X B w hn' ha' hw h2
      have : o' = oj := Option.some.inj (ho'.symm.trans hoj)
      subst this
      refine ⟨u, hoj, (PDet.same hsj a1).1 hd, o, ho, v, (MDet.same hsi a3).2 h1, ?_⟩
      rw [← updo_comm a2]; exact hj
    | e =>
      obtain ⟨v, h1, h2⟩ := h
      obtain ⟨o', u, ho', hd, hj⟩ := pullH hsel pre _ X B w hn' ha' hw h2
      have : o' = oj := Option.some.inj (ho'.symm.trans hoj)
      subst this
      refine ⟨u, hoj, (PDet.same hsj a1).1 hd, o, ho, v, (Det.same hsi a3).2 h1, ?_⟩
      rw [← updo_comm a2]; exact hj
    | n =>
      obtain ⟨R, B0, X0, X1, hB, hX, h1, h2⟩ := h
      obtain ⟨v0, w0', L0', hR0, hst0⟩ := Big.some (h1.2 w (hw.readX hB.1 hX))
      obtain ⟨o', u, ho', hd, _⟩ := pullH hsel pre _ _ _ _ hn' ha' (hw.callX hB.1 hX hst0) (h2 v0 L0' hR0 ⟨_, hw.callX hB.1 hX hst0⟩)
      have : o' = oj := Option.some.inj (ho'.symm.trans hoj)
      subst this
      have hd := (PDet.same hsj a1).1 hd
      refine ⟨u, hoj, hd, o, ho, R, B0, X0, X1, hB, hX, (NDet.same hsi a3).2 h1, fun v L' hR hex => ?_⟩
      obtain ⟨w1, hw1⟩ := hex
      obtain ⟨o2, u2, ho2, hd2, hj2⟩ := pullH hsel pre _ _ _ _ hn' ha' hw1 (h2 v L' hR ⟨w1, hw1⟩)
      have : o2 = o' := Option.some.inj (ho2.symm.trans hoj)
      subst this
      have := PDet.uniq w ((PDet.same hsj a1).1 hd2) hd
      subst this
      rw [← updo_comm a2]; exact hj2
    | a =>
      obtain ⟨mkp, hp, h1, h2⟩ := h
      obtain ⟨w1, hr1, hw1⟩ := h1.go hw
      obtain ⟨o', u, ho', hd, _⟩ := pullH hsel pre _ _ _ _ hn' ha' hw1 (h2 w.heap.size ⟨w1, hw1⟩)
      have : o' = oj := Option.some.inj (ho'.symm.trans hoj)
      subst this
      have hd := (PDet.same hsj a1).1 hd
      refine ⟨u, hoj, hd, o, ho, mkp, hp, (ADet.same hsi a3).2 h1, fun b hex => ?_⟩
      obtain ⟨w2, hw2⟩ := hex
      obtain ⟨o2, u2, ho2, hd2, hj2⟩ := pullH hsel pre _ _ _ _ hn' ha' hw2 (h2 b ⟨w2, hw2⟩)
      have : o2 = o' := Option.some.inj (ho2.symm.trans hoj)
      subst this
      have := PDet.uniq w ((PDet.same hsj a1).1 hd2) hd
      subst this
      rw [← updo_comm a2]; exact hj2
    | s =>
      obtain ⟨mkp, hp, h1, h2⟩ := h
      obtain ⟨w1, hr1, hw1⟩ := h1.go hw
      obtain ⟨o', u, ho', hd, _⟩ := pullH hsel pre _ _ _ _ hn' ha' hw1 (h2 w.heap.size ⟨w1, hw1⟩)
      have : o' = oj := Option.some.inj (ho'.symm.trans hoj)
      subst this
      have hd := (PDet.same hsj a1).1 hd
      refine ⟨u, hoj, hd, o, ho, mkp, hp, (ADet.same hsi a3).2 h1, fun b hex => ?_⟩
      obtain ⟨w2, hw2⟩ := hex
      obtain ⟨o2, u2, ho2, hd2, hj2⟩ := pullH hsel pre _ _ _ _ hn' ha' hw2 (h2 b ⟨w2, hw2⟩)
      have : o2 = o' := Option.some.inj (ho2.symm.trans hoj)
      subst this
      have := PDet.uniq w ((PDet.same hsj a1).1 hd2) hd
      subst this
      rw [← updo_comm a2]; exact hj2
    | b => exact absurd rfl (hn (.b, i) (by simp))
    | p =>
      obtain ⟨v, h1, h2⟩ := h
      obtain ⟨o', u, ho', hd, hj⟩ := pullH hsel pre _ X B w hn' ha' hw h2
      have : o' = oj := Option.some.inj (ho'.symm.trans hoj)
      subst this
      refine ⟨u, hoj, (PDet.same hsj a1).1 hd, o, ho, v, (PDet.same hsi a3).2 h1, ?_⟩
      rw [← updo_comm a2]; exact hj
/-- Nothing ahead but values. -/
def onlyP (l : List Item) : Prop := ∀ x ∈ l, x.1 = .p
theorem pullP (hsel : Region.noSelect ops = true) {j : Nat} {post : List Item} : ∀ (pre : List Item) (e : Env) (X B : List HP), onlyP pre → apartFrom ops pre j →
    J C Q ops L0 Lr (pre ++ (.p, j) :: post) e X B → ∃ o v, ops[j]? = some o ∧ PDet C ops e o v ∧ J C Q ops L0 Lr (pre ++ post) (updo e o.dst v) X B
  | [], e, X, B, _, _, h => by
    obtain ⟨o, ho, v, h1, h2⟩ := h
    exact ⟨o, v, ho, h1, h2⟩
  | (k, i) :: pre, e, X, B, hn, ha, h => by
    have hn' : onlyP pre := fun x hx => hn x (List.mem_cons_of_mem _ hx)
    have ha' : apartFrom ops pre j := fun x hx => ha x (List.mem_cons_of_mem _ hx)
    obtain ⟨oi, oj, hoi, hoj, hap⟩ := ha (k, i) (by simp)
    obtain ⟨a1, a2, a3⟩ := Oper.apart_spec hap
    have hsj : ∀ cs b, oj.op ≠ .select cs b := fun cs b => Region.noSelect_spec hsel j oj cs b hoj
    have hsi : ∀ cs b, oi.op ≠ .select cs b := fun cs b => Region.noSelect_spec hsel i oi cs b hoi
    obtain ⟨o, ho, h⟩ := h
    have : o = oi := Option.some.inj (ho.symm.trans hoi)
    subst this
    refine ⟨oj, ?_⟩
    have hk : k = .p := hn (k, i) (by simp)
    subst hk
    obtain ⟨v, h1, h2⟩ := h
    obtain ⟨o', u, ho', hd, hj⟩ := pullP hsel pre _ X B hn' ha' h2
    have : o' = oj := Option.some.inj (ho'.symm.trans hoj)
    subst this
    refine ⟨u, hoj, (PDet.same hsj a1).1 hd, o, ho, v, (PDet.same hsi a3).2 h1, ?_⟩
    rw [← updo_comm a2]; exact hj
theorem Big.mono {P : Program} {K K' : Value → World → Prop} {Pan : List PanicEntry → World → Prop} {r : Result Next} (h : Big P K Pan r) (hk : ∀ v w, K v w → K' v w) : Big P K' Pan r := by
  cases r with
  | ok n w =>
    cases n <;> simp only [Big] at h ⊢ <;> first
      | exact hk _ _ h
      | exact Calls.mono h (fun e w'' he => by cases e <;> first | exact hk _ _ he | exact he)
      | exact h
  | halt x w => cases x <;> simp only [Big] at h ⊢ <;> exact h
theorem pullB (hsel : Region.noSelect ops = true) {j : Nat} {post : List Item} : ∀ (pre : List Item) (e : Env) (X B : List HP), onlyP pre → apartFrom ops pre j →
    J C Q ops L0 Lr (pre ++ (.b, j) :: post) e X B → ∃ o, ops[j]? = some o ∧ wantedS C.n ops e o = true ∧ ∀ w, St C.w0 C.M (X ++ B) w → Big C.P (fun v w' => ∃ Y', St C.w0 C.M Y' w' ∧ J C Q ops L0 Lr (pre ++ post) (updo e o.dst v) Y' []) (PanS C Q e.ds) ((execOp (ev C.n e) o).run C.P w)
  | [], e, X, B, _, _, h => by
    obtain ⟨o, ho, h1, h2⟩ := h
    exact ⟨o, ho, h1, h2⟩
  | (k, i) :: pre, e, X, B, hn, ha, h => by
    have hn' : onlyP pre := fun x hx => hn x (List.mem_cons_of_mem _ hx)
    have ha' : apartFrom ops pre j := fun x hx => ha x (List.mem_cons_of_mem _ hx)
    obtain ⟨oi, oj, hoi, hoj, hap⟩ := ha (k, i) (by simp)
    obtain ⟨a1, a2, a3⟩ := Oper.apart_spec hap
    have hsj : ∀ cs b, oj.op ≠ .select cs b := fun cs b => Region.noSelect_spec hsel j oj cs b hoj
    have hsi : ∀ cs b, oi.op ≠ .select cs b := fun cs b => Region.noSelect_spec hsel i oi cs b hoi
    obtain ⟨o, ho, h⟩ := h
    have : o = oi := Option.some.inj (ho.symm.trans hoi)
    subst this
    refine ⟨oj, ?_⟩
    have hk : k = .p := hn (k, i) (by simp)
    subst hk
    obtain ⟨v, h1, h2⟩ := h
    obtain ⟨o', ho', hd, hj⟩ := pullB hsel pre _ X B hn' ha' h2
    have : o' = oj := Option.some.inj (ho'.symm.trans hoj)
    subst this
    refine ⟨hoj, by rw [← wanted_apart a1]; exact hd, fun w hw => ?_⟩
    have := hj w hw
    rw [exec_apart hsj a1, updo_ds] at this
    refine Big.mono this ?_
    rintro u w' ⟨Y', hs, hjj⟩
    refine ⟨Y', hs, o, ho, v, (PDet.same hsi a3).2 h1, ?_⟩
    rw [← updo_comm a2]; exact hjj
theorem befs_one (ops : Array Oper) {j i : Nat} (hw : waits ops j i = true) : ∀ k, j < k → ((befs ops k).getD j 0).testBit i = true
  | 0, h => by omega
  | k + 1, h => by
    simp only [befs]
    rw [List.getD_eq_getElem?_getD, List.getElem?_append]
    split
    · rename_i hj
      rw [befs_length] at hj
      have := befs_one ops hw k hj
      rwa [List.getD_eq_getElem?_getD] at this
    · rename_i hj
      rw [befs_length] at hj
      have hjk : j = k := by omega
      subst hjk
      rw [befs_length]
      simp only [Nat.sub_self, List.getElem?_cons_zero, Option.getD_some]
      cases ho : ops[j]? with
      | none => simp [waits, Region.waitsFor, ho] at hw
      | some o =>
        obtain ⟨e, he, hb, hon⟩ := (waits_iff ho).1 hw
        simp only
        have key : ∀ (l : List Edge) (s : Nat), (e ∈ l ∨ s.testBit i = true) →
            (l.foldl (fun s e => bif Region.binds .any e then Nat.lor (Nat.lor s (2 ^ e.on)) ((befs ops j).getD e.on 0) else s) s).testBit i = true := by
          intro l
          induction l with
          | nil => intro s h; simpa using h
          | cons x l ih =>
            intro s h
            simp only [List.foldl_cons]
            refine ih _ ?_
            rcases h with h | h
            · rcases List.mem_cons.1 h with rfl | h
              · right
                rw [hb]
                simp only [cond_true]
                show (s ||| 2 ^ e.on ||| (befs ops j).getD e.on 0).testBit i = true
                rw [Nat.testBit_or, Nat.testBit_or, Nat.testBit_two_pow]
                simp [hon]
              · exact .inl h
            · right
              cases hx : Region.binds .any x with
              | false => simpa using h
              | true =>
                simp only [cond_true]
                show (s ||| 2 ^ x.on ||| (befs ops j).getD x.on 0).testBit i = true
                rw [Nat.testBit_or, Nat.testBit_or, h]
                simp
        exact key _ _ (.inl (by simpa using he))
/-- Two in the order of the proof. -/
def Pair (ops : Array Oper) (x y : Item) : Prop := x.2 ≠ y.2 ∧ (Bef ops x.2 y.2 ∨ Conc ops x y) ∧ waits ops x.2 y.2 = false ∧ (x.1.tail = true → y.1.tail = true)
theorem pairs_spec {ops : Array Oper} : ∀ {l : List Item}, (∀ x ∈ l, x.2 < ops.size) → pairsOk ops (befs ops ops.size) l = true → l.Pairwise (Pair ops)
  | [], _, _ => .nil
  | x :: r, hl, h => by
    simp only [pairsOk, Bool.and_eq_true, List.all_eq_true] at h
    refine .cons (fun y hy => ?_) (pairs_spec (fun z hz => hl z (List.mem_cons_of_mem _ hz)) h.2)
    have h1 := h.1 y hy
    obtain ⟨hne, hbc⟩ := pairOk_spec h1.1
    refine ⟨hne, hbc, ?_, fun ht => ?_⟩
    · cases hw : waits ops x.2 y.2 with
      | false => rfl
      | true =>
        have := befs_one ops hw ops.size (hl x (by simp))
        have h2 := h1.1
        unfold pairOk later at h2
        simp only [Bool.and_eq_true, Bool.not_eq_true'] at h2
        rw [h2.1.1] at this
        cases this
    · have := h1.2
      rw [ht] at this
      simpa using this
theorem any_draw (hsel : Region.noSelect ops = true) (hed : ∀ j i, waits ops j i = true → i < j) : ∀ (f : Nat) (rem : List Item) (e : Env) (X B : List HP) (w : World) (listed : Array Bool), rem.length = f →
    listed.size = ops.size → (∀ j, listed.getD j true = false ↔ ∃ x ∈ rem, x.2 = j) → Cl ops listed → rem.Pairwise (Pair ops) → J C Q ops L0 Lr rem e X B → St C.w0 C.M (X ++ B) w → (Hd C Lr X B w ∨ ∀ x ∈ rem, x.1.tail = true) →
    wpAnyIn (fen C.r) 0 C.P .any ops (lift C Q) f listed (mk C.n e) w
  | 0, rem, e, X, B, w, listed, hf, hsz, hun, hcl, hpw, hj, hst, hph => by
    have hr : rem = [] := List.eq_nil_of_length_eq_zero hf
    subst hr
    obtain ⟨Y', hp, hq⟩ := hj
    refine ⟨?_, e, Y', rfl, hst.perm hp, hq⟩
    cases hre : Region.ready .any ops listed with
    | nil => rfl
    | cons j l =>
      have : j ∈ Region.ready .any ops listed := by rw [hre]; simp
      obtain ⟨x, hx, _⟩ := (hun j).1 (mem_ready.1 this).1
      cases hx
  | f + 1, rem, e, X, B, w, listed, hf, hsz, hun, hcl, hpw, hj, hst, hph => by
    have hnb : ∀ x ∈ rem, listed.getD x.2 true = false := fun x hx => (hun x.2).2 ⟨x, hx, rfl⟩
    refine ⟨fun hre => ?_, fun j hjr => ?_⟩
    · -- the first of all is ready
      exfalso
      cases rem with
      | nil => cases hf
      | cons x r =>
        obtain ⟨o, ho, _⟩ : ∃ o, ops[x.2]? = some o ∧ True := by
          obtain ⟨k, i⟩ := x
          obtain ⟨o, ho, _⟩ := hj
          exact ⟨o, ho, trivial⟩
        have : x.2 ∈ Region.ready .any ops listed := by
          refine mem_ready.2 ⟨hnb x (by simp), o, ho, fun ed he hb => ?_⟩
          have hw : waits ops x.2 ed.on = true := (waits_iff ho).2 ⟨ed, he, hb, rfl⟩
          cases hl : listed.getD ed.on false with
          | true => rfl
          | false =>
            exfalso
            by_cases hin : ed.on < listed.size
            · obtain ⟨y, hy, hye⟩ := (hun ed.on).1 (getD_in hin hl)
              rcases List.mem_cons.1 hy with rfl | hy
              · have := hed _ _ hw
                omega
              · have := ((List.pairwise_cons.1 hpw).1 y hy).2.2.1
                rw [hye, hw] at this
                cases this
            · have h1 := hed _ _ hw
              have h2 := (Array.getElem?_eq_some_iff.1 ho).1
              omega
        rw [hre] at this
        cases this
    · obtain ⟨hjun, oj, hoj, hall⟩ := mem_ready.1 hjr
      obtain ⟨x, hx, hxj⟩ := (hun j).1 hjun
      obtain ⟨pre, post, rfl⟩ := List.append_of_mem hx
      subst hxj
      have hdeps : ∀ k, waits ops x.2 k = true → listed.getD k false = true := fun k hk => by
        obtain ⟨ed, he, hb, rfl⟩ := (waits_iff hoj).1 hk
        exact hall ed he hb
      have hpx := List.pairwise_append.1 hpw
      have hconc : ∀ y ∈ pre, Conc ops y x := fun y hy => by
        have hp := hpx.2.2 y hy x (by simp)
        rcases hp.2.1 with hb | hc
        · exfalso
          have h1 := hb.listed hcl hdeps
          have h2 := hnb y (List.mem_append.2 (.inl hy))
          rw [getD_both h2] at h1
          cases h1
        · exact hc
      have hap : apartFrom ops pre x.2 := fun y hy => by
        obtain ⟨a, b, h1, h2, h3, _⟩ := hconc y hy
        exact ⟨a, b, h1, h2, h3⟩
      have hne : ∀ y ∈ pre ++ post, y.2 ≠ x.2 := fun y hy => by
        rcases List.mem_append.1 hy with hy | hy
        · exact (hpx.2.2 y hy x (by simp)).1
        · exact ((List.pairwise_cons.1 hpx.2.1).1 y hy).1.symm
      have hin : x.2 < listed.size := by rw [hsz]; exact (Array.getElem?_eq_some_iff.1 hoj).1
      have hset : (listed.setIfInBounds x.2 true).getD x.2 true = true ∧ (listed.setIfInBounds x.2 true).getD x.2 false = true := by
        simp [hin]
      have rest : ∀ (e' : Env) (X' B' : List HP) (w' : World), J C Q ops L0 Lr (pre ++ post) e' X' B' → St C.w0 C.M (X' ++ B') w' → (Hd C Lr X' B' w' ∨ ∀ y ∈ pre ++ post, y.1.tail = true) →
          wpAnyIn (fen C.r) 0 C.P .any ops (lift C Q) f (listed.setIfInBounds x.2 true) (mk C.n e') w' := by
        intro e' X' B' w' h1 h2 h3
        refine any_draw hsel hed f (pre ++ post) e' X' B' w' _ ?_ (by simp [hsz]) (fun k => ?_) (fun k m hk hw => ?_) ?_ h1 h2 h3
        · simp only [List.length_append, List.length_cons] at hf ⊢; omega
        · by_cases hk : k = x.2
          · subst hk
            rw [hset.1]
            refine ⟨fun h => (by cases h), fun ⟨y, hy, he⟩ => absurd he (hne y hy)⟩
          · rw [getD_set_ne true (Ne.symm hk), hun k]
            constructor
            · rintro ⟨y, hy, rfl⟩
              refine ⟨y, ?_, rfl⟩
              simp only [List.mem_append, List.mem_cons] at hy ⊢
              rcases hy with hy | rfl | hy
              · exact .inl hy
              · exact absurd rfl hk
              · exact .inr hy
            · rintro ⟨y, hy, rfl⟩
              refine ⟨y, ?_, rfl⟩
              simp only [List.mem_append, List.mem_cons] at hy ⊢
              rcases hy with hy | hy
              · exact .inl hy
              · exact .inr (.inr hy)
        · by_cases hk2 : k = x.2
          · subst hk2; exact getD_set_true (hdeps m hw)
          · rw [getD_set_ne false (Ne.symm hk2)] at hk
            exact getD_set_true (hcl k m hk hw)
        · exact List.Pairwise.sublist (List.Sublist.append_left (List.sublist_cons_self _ _) _) hpw
      have hphase : x.1.tail = false → Hd C Lr X B w := fun ht => by
        rcases hph with h | h
        · exact h
        · have := h x (by simp); rw [ht] at this; cases this
      have htails : (∀ y ∈ pre, y.1.tail = true) → x.1.tail = true → ∀ y ∈ pre ++ post, y.1.tail = true := fun hpr ht y hy => by
        rcases List.mem_append.1 hy with hy | hy
        · exact hpr y hy
        · exact ((List.pairwise_cons.1 hpx.2.1).1 y hy).2.2.2 ht
      have hopj : ∀ (K : Act → World → Prop), (∀ o, ops[x.2]? = some o → if Region.wanted o (yielded ops (mk C.n e).tmps) then o.wpIn (fen C.r) 0 C.P (mk C.n e) w K (lift C Q) else K ((mk C.n e).put o.dst undef) w) → wpOpIn (fen C.r) 0 C.P ops (lift C Q) x.2 K (mk C.n e) w := by
        intro K h
        unfold wpOpIn
        have := h oj hoj
        simp only [hoj]
        split
        · rename_i hw; rw [if_pos hw] at this; exact this
        · rename_i hw; rw [if_neg hw] at this; exact ⟨fun _ _ => trivial, this⟩
      obtain ⟨k, i⟩ := x
      cases k with
      | d =>
        have hH := hphase rfl
        have hnb : noB pre := fun y hy => cc_noB (hconc y hy).kinds (by simp)
        obtain ⟨o, v, ho, hd, hj'⟩ := pullD hsel pre e X B w hnb hap hH hj
        refine hopj _ fun o' ho' => ?_
        have : o' = o := Option.some.inj (ho'.symm.trans ho)
        subst this
        rcases hd with ⟨h1, h2⟩ | ⟨h1, h2⟩
        · rw [yielded_mk, h1]
          simp only [if_true]
          refine opIn_value (by rw [mk_eval]; exact h2 w hH.lr) ?_
          rw [mk_put]; exact rest _ _ _ _ hj' hst (.inl hH)
        · rw [yielded_mk, h1]
          simp only [Bool.false_eq_true, if_false]
          subst h2
          rw [mk_put]; exact rest _ _ _ _ hj' hst (.inl hH)
      | e =>
        have hH := hphase rfl
        have hnn : noNe pre := fun y hy => cc_noNe (hconc y hy).kinds (by simp)
        obtain ⟨o, v, ho, hd, hj'⟩ := pullE hsel pre e X B hnn hap hj
        refine hopj _ fun o' ho' => ?_
        have : o' = o := Option.some.inj (ho'.symm.trans ho)
        subst this
        rcases hd with ⟨h1, h2⟩ | ⟨h1, h2⟩
        · rw [yielded_mk, h1]
          simp only [if_true]
          refine opIn_value (by rw [mk_eval]; exact h2 w hH.st) ?_
          rw [mk_put]; exact rest _ _ _ _ hj' hst (.inl hH)
        · rw [yielded_mk, h1]
          simp only [Bool.false_eq_true, if_false]
          subst h2
          rw [mk_put]; exact rest _ _ _ _ hj' hst (.inl hH)
      | m =>
        have hH := hphase rfl
        have hnn : noNe pre := fun y hy => cc_noNe (hconc y hy).kinds (by simp)
        obtain ⟨o, v, ho, ⟨h1, ff, args, hr, ht⟩, hj'⟩ := pullM hsel pre e X B hnn hap hj
        refine hopj _ fun o' ho' => ?_
        have : o' = o := Option.some.inj (ho'.symm.trans ho)
        subst this
        rw [yielded_mk, h1]
        simp only [if_true]
        refine opIn_enter (by rw [mk_eval]; exact hr w) ?_
        refine (ht w hH.lr).mono ?_
        rintro en w' ⟨L', hR, hst'⟩
        cases en with
        | returned u =>
          have hu : u = v := hR
          subst hu
          have hH' := hH.callM hst'
          show wpAnyIn _ _ _ _ _ _ _ _ _ _
          rw [mk_put]; exact rest _ _ _ _ hj' hH'.st (.inl hH')
        | panicked ch => exact hR.elim
        | outgrown => exact hR.elim
      | n =>
        have hH := hphase rfl
        have hnn : noN pre := fun y hy => cc_noN (hconc y hy).kinds
        obtain ⟨o, R, B0, X0, X1, ho, hB, hX, ⟨h1, h2⟩, hj'⟩ := pullN hsel pre e X B hnn hap hj
        refine hopj _ fun o' ho' => ?_
        have : o' = o := Option.some.inj (ho'.symm.trans ho)
        subst this
        rw [yielded_mk, h1]
        simp only [if_true]
        have hb := h2 w (hH.readX hB.1 hX)
        have hK : ∀ v w', (∃ L', R v L' ∧ St w (doms (B0 ++ X0)) L' w') → wpAnyIn (fen C.r) 0 C.P .any ops (lift C Q) f (listed.setIfInBounds i true) ((mk C.n e).put o'.dst v) w' := by
          rintro v w' ⟨L', hR, hst'⟩
          have hH' := hH.callX hB.1 hX hst'
          rw [mk_put]; exact rest _ _ _ _ (hj' v L' hR ⟨w', hH'⟩) hH'.st (.inl hH')
        cases hr : (execOp (ev C.n e) o').run C.P w with
        | ok nx w' =>
          rw [hr] at hb
          cases nx <;> simp only [Big] at hb
          case value v => exact opIn_value (by rw [mk_eval]; exact hr) (hK _ _ hb)
          case skip => exact opIn_skip (by rw [mk_eval]; exact hr) (hK _ _ hb)
          case enter ff args => exact opIn_enter (by rw [mk_eval]; exact hr) (Calls.mono hb (fun en w'' he => by cases en <;> first | exact hK _ _ he | exact he.elim))
        | halt hx w' =>
          rw [hr] at hb
          cases hx <;> simp only [Big] at hb
      | a =>
        have hH := hphase rfl
        have hnb : noB pre := fun y hy => cc_noB (hconc y hy).kinds (by simp)
        obtain ⟨o, mkp, hp, ho, hd, hj'⟩ := pullA (sl := false) hsel pre e X B w hnb hap hH hj
        obtain ⟨w', hrun, hH'⟩ := hd.go hH
        refine hopj _ fun o' ho' => ?_
        have : o' = o := Option.some.inj (ho'.symm.trans ho)
        subst this
        rw [yielded_mk, hd.1]
        simp only [if_true]
        refine opIn_value (by rw [mk_eval]; exact hrun) ?_
        rw [mk_put]; exact rest _ _ _ _ (hj' _ ⟨w', hH'⟩) hH'.st (.inl hH')
      | s =>
        have hH := hphase rfl
        have hnb : noB pre := fun y hy => cc_noB (hconc y hy).kinds (by simp)
        obtain ⟨o, mkp, hp, ho, hd, hj'⟩ := pullA (sl := true) hsel pre e X B w hnb hap hH hj
        obtain ⟨w', hrun, hH'⟩ := hd.go hH
        refine hopj _ fun o' ho' => ?_
        have : o' = o := Option.some.inj (ho'.symm.trans ho)
        subst this
        rw [yielded_mk, hd.1]
        simp only [if_true]
        refine opIn_value (by rw [mk_eval]; exact hrun) ?_
        rw [mk_put]; exact rest _ _ _ _ (hj' _ ⟨w', hH'⟩) hH'.st (.inl hH')
      | p =>
        have hpl : ∃ o v, ops[i]? = some o ∧ PDet C ops e o v ∧ J C Q ops L0 Lr (pre ++ post) (updo e o.dst v) X B ∧ (Hd C Lr X B w ∨ ∀ y ∈ pre ++ post, y.1.tail = true) := by
          rcases hph with hH | ht
          · obtain ⟨o, v, h1, h2, h3⟩ := pullH hsel pre e X B w (fun y hy => cc_noBp (hconc y hy).kinds) hap hH hj
            exact ⟨o, v, h1, h2, h3, .inl hH⟩
          · have hop : onlyP pre := fun y hy => cc_onlyP (hconc y hy).kinds (.inr ⟨rfl, ht y (by simp [hy])⟩)
            obtain ⟨o, v, h1, h2, h3⟩ := pullP hsel pre e X B hop hap hj
            exact ⟨o, v, h1, h2, h3, .inr (htails (fun y hy => ht y (by simp [hy])) rfl)⟩
        obtain ⟨o, v, ho, hd, hj', hph'⟩ := hpl
        refine hopj _ fun o' ho' => ?_
        have : o' = o := Option.some.inj (ho'.symm.trans ho)
        subst this
        rcases hd with ⟨h1, h2⟩ | ⟨h1, h2⟩
        · rw [yielded_mk, h1]
          simp only [if_true]
          refine opIn_value (by rw [mk_eval]; exact h2 w) ?_
          rw [mk_put]; exact rest _ _ _ _ hj' hst hph'
        · rw [yielded_mk, h1]
          simp only [Bool.false_eq_true, if_false]
          subst h2
          rw [mk_put]; exact rest _ _ _ _ hj' hst hph'
      | b =>
        have hop : onlyP pre := fun y hy => cc_onlyP (hconc y hy).kinds (by simp)
        obtain ⟨o, ho, h1, h2⟩ := pullB hsel pre e X B hop hap hj
        refine hopj _ fun o' ho' => ?_
        have : o' = o := Option.some.inj (ho'.symm.trans ho)
        subst this
        rw [yielded_mk, h1]
        simp only [if_true]
        have hb := h2 w hst
        have hK : ∀ v w', (∃ Y', St C.w0 C.M Y' w' ∧ J C Q ops L0 Lr (pre ++ post) (updo e o'.dst v) Y' []) → wpAnyIn (fen C.r) 0 C.P .any ops (lift C Q) f (listed.setIfInBounds i true) ((mk C.n e).put o'.dst v) w' := by
          rintro v w' ⟨Y', hs, hj'⟩
          rw [mk_put]; exact rest _ _ _ _ hj' (by simpa using hs) (.inr (htails (fun y hy => by rw [hop y hy]; rfl) rfl))
        have hP : ∀ ch w', PanS C Q e.ds ch w' → lift C Q (.panic ch) (mk C.n e) w' := fun ch w' ⟨Y', hs, hq⟩ => ⟨e, Y', rfl, hs, hq e rfl⟩
        cases hr : (execOp (ev C.n e) o').run C.P w with
        | ok nx w' =>
          rw [hr] at hb
          cases nx <;> simp only [Big] at hb
          case value v => exact opIn_value (by rw [mk_eval]; exact hr) (hK _ _ hb)
          case skip => exact opIn_skip (by rw [mk_eval]; exact hr) (hK _ _ hb)
          case enter ff args => exact opIn_enter (by rw [mk_eval]; exact hr) (Calls.mono hb (fun en w'' he => by cases en <;> first | exact hK _ _ he | exact hP _ _ he | exact he.elim))
        | halt hx w' =>
          rw [hr] at hb
          cases hx <;> simp only [Big] at hb
          case panic v => exact opIn_panic (by rw [mk_eval]; exact hr) (hP _ _ hb)
def edgesOk (ops : Array Oper) : Bool := (List.range ops.size).all fun j => match ops[j]? with
  | some o => o.after.toList.all fun e => !Region.binds .any e || Nat.blt e.on j
  | none => true
def drawsOk (ops : Array Oper) (l : List Item) : Bool := drawOk ops l && edgesOk ops && l.all fun x => Nat.blt x.2 ops.size
theorem edgesOk_spec (h : edgesOk ops = true) : ∀ j i, waits ops j i = true → i < j := by
  intro j i hw
  cases ho : ops[j]? with
  | none => simp [waits, Region.waitsFor, ho] at hw
  | some o =>
    have hj : j < ops.size := (Array.getElem?_eq_some_iff.1 ho).1
    obtain ⟨e, he, hb, hon⟩ := (waits_iff ho).1 hw
    have := List.all_eq_true.1 h j (by simpa using hj)
    simp only [ho, List.all_eq_true] at this
    have := this e (by simpa using he)
    simp only [hb, Bool.not_true, Bool.false_or] at this
    subst hon
    simpa [Nat.blt_eq] using this
theorem WC.draw {id : Nat} {l : List Oper} {e : Env} {L : List HP} (ord : List Item) (L0 Lr : List HP) (hm : C.P.follows .mixedOrders = true) (hok : drawsOk l.toArray ord = true) (hL : L.Perm (L0 ++ Lr))
    (h : J C Q l.toArray L0 Lr ord e [] (L0 ++ Lr)) : WC C (.region id l.toArray true) Q e L := by
  intro w hst
  simp only [drawsOk, drawOk, Bool.and_eq_true, List.all_eq_true] at hok
  obtain ⟨⟨⟨⟨⟨hsel, hlen⟩, hall⟩, hpairs⟩, hed⟩, hlt⟩ := hok
  have hlt : ∀ x ∈ ord, x.2 < l.toArray.size := fun x hx => by simpa [Nat.blt_eq] using hlt x hx
  have hst2 : St C.w0 C.M (L0 ++ Lr) { w with drawn := w.drawn + 1 } := (hst.perm hL).drawn _
  refine wpIn_region_any hm ?_
  have hlen' : ord.length = l.toArray.size := by simpa using hlen
  rw [← hlen']
  have := any_draw (C := C) (Q := Q) (ops := l.toArray) (L0 := L0) (Lr := Lr) hsel (edgesOk_spec hed) ord.length ord e [] (L0 ++ Lr) { w with drawn := w.drawn + 1 } (Array.replicate ord.length false) rfl (by simp [hlen'])
    (fun j => ?_) (fun j i hj => ?_) (pairs_spec hlt hpairs) h (by simpa using hst2) (.inl ⟨by simpa using hst2, St.drop (A := L0) hst2⟩)
  · exact this
  · constructor
    · intro hj
      have hjl : j < ord.length := by
        rcases Nat.lt_or_ge j ord.length with h | h
        · exact h
        · simp [Nat.not_lt.2 h] at hj
      have := List.all_eq_true.1 hall j (by rw [← hlen']; simpa using hjl)
      obtain ⟨x, hx, hb⟩ := List.any_eq_true.1 this
      exact ⟨x, hx, by simpa using hb⟩
    · rintro ⟨x, hx, rfl⟩
      have := hlt x hx
      rw [← hlen'] at this
      simp [this]
  · rw [getD_replicate_false] at hj; cases hj
/-! ### The steps of a region that draws -/
section
variable {e : Env} {X B : List HP} {r : List Item} {i : Nat} {o : Oper}
theorem J.nil (h : Q .normal e (X ++ B)) : J C Q ops L0 Lr [] e X B := ⟨_, List.Perm.refl _, h⟩
theorem J.dy {v : Value} {d : Nat} (ho : ops[i]? = some o) (hw : wantedS C.n ops e o = true) (hd : o.dst = some d) (h : Yld C Lr e o v) (k : J C Q ops L0 Lr r (upd e d v) X B) : J C Q ops L0 Lr ((.d, i) :: r) e X B :=
  ⟨o, ho, v, .inl ⟨hw, h⟩, by rw [hd]; exact k⟩
theorem J.dno {d : Nat} (ho : ops[i]? = some o) (hw : wantedS C.n ops e o = false) (hd : o.dst = some d) (k : J C Q ops L0 Lr r (upd e d undef) X B) : J C Q ops L0 Lr ((.d, i) :: r) e X B :=
  ⟨o, ho, undef, .inr ⟨hw, rfl⟩, by rw [hd]; exact k⟩
theorem J.py {v : Value} {d : Nat} (ho : ops[i]? = some o) (hw : wantedS C.n ops e o = true) (hd : o.dst = some d) (h : ∀ w, Yld { C with w0 := w, M := [] } [] e o v) (k : J C Q ops L0 Lr r (upd e d v) X B) : J C Q ops L0 Lr ((.p, i) :: r) e X B :=
  ⟨o, ho, v, .inl ⟨hw, fun w => h w w (St.init [] w (Sat.nil w))⟩, by rw [hd]; exact k⟩
theorem J.pno {d : Nat} (ho : ops[i]? = some o) (hw : wantedS C.n ops e o = false) (hd : o.dst = some d) (k : J C Q ops L0 Lr r (upd e d undef) X B) : J C Q ops L0 Lr ((.p, i) :: r) e X B :=
  ⟨o, ho, undef, .inr ⟨hw, rfl⟩, by rw [hd]; exact k⟩
theorem J.call1 {v : Value} {d : Nat} {x : Operand} {as : List Operand} {ts : Array TypeId} {f : FuncId} {fl cl : List Value} {args : List Value} (ho : ops[i]? = some o) (hw : wantedS C.n ops e o = true) (hd : o.dst = some d)
    (hop : o.op = .call { callee := .value x, args := as.toArray, argTypes := ts }) (hx : ev C.n e x = .func (.func f) fl.toArray cl.toArray) (hc : Callable C.P f) (ha : fl ++ as.map (ev C.n e) ++ cl = args)
    (ht : ∀ w, St C.w0 C.M Lr w → Tri C.P f args.toArray w [] (Ret fun v' _ => v' = v)) (k : J C Q ops L0 Lr r (upd e d v) X B) : J C Q ops L0 Lr ((.m, i) :: r) e X B :=
  ⟨o, ho, v, ⟨hw, f, args.toArray, fun w => by rw [run_call hop hx hc, ha], ht⟩, by rw [hd]; exact k⟩
theorem J.alloc {d t sz by_ : Nat} {z : Value} {cs : List Value} (ho : ops[i]? = some o) (hw : wantedS C.n ops e o = true) (hd : o.dst = some d) (hop : o.op = .alloc t) (ht : tyI C.P t = some (z, sz, by_)) (hz : z.cells = cs.toArray)
    (k : ∀ b, J C Q ops L0 Lr r (upd e d (.pointer (some ⟨b, 0, none⟩))) (.blk b (.cells cs.toArray t (0, 0)) :: X) B) : J C Q ops L0 Lr ((.a, i) :: r) e X B :=
  ⟨o, ho, _, _, ⟨hw, cs, t, fun w => by simp [execOp, hop, Instr.alloc, tyI.zero ht, newVar, newRow, newObj, hz, Sem.run], rfl, rfl⟩, fun b _ => by rw [hd]; exact k b⟩
theorem J.box {d t : Nat} {x : Operand} {v : Value} {cs : List Value} (ho : ops[i]? = some o) (hw : wantedS C.n ops e o = true) (hd : o.dst = some d) (hop : o.op = .box t x) (hx : ev C.n e x = v) (hv : v.cells = cs.toArray)
    (k : ∀ b, J C Q ops L0 Lr r (upd e d (.pointer (some ⟨b, 0, none⟩))) (.blk b (.cells cs.toArray t (0, 0)) :: X) B) : J C Q ops L0 Lr ((.a, i) :: r) e X B :=
  ⟨o, ho, _, _, ⟨hw, cs, t, fun w => by simp [execOp, hop, Instr.box, newVar, newRow, newObj, hx, hv, Sem.run], rfl, rfl⟩, fun b _ => by rw [hd]; exact k b⟩
theorem J.turn {d : Nat} {R : Value → List HP → Prop} (ho : ops[i]? = some o) (hw : wantedS C.n ops e o = true) (hd : o.dst = some d) (h : Turn C (X ++ B) e o R) (k : ∀ v L', R v L' → J C Q ops L0 Lr r (upd e d v) L' []) : J C Q ops L0 Lr ((.b, i) :: r) e X B :=
  ⟨o, ho, hw, fun w hst => by
    obtain ⟨v, w', L', h1, h2, h3⟩ := h w hst
    rw [h1]
    exact ⟨L', h3, by rw [hd]; exact k v L' h2⟩⟩
theorem J.turn0 {R : List HP → Prop} (ho : ops[i]? = some o) (hw : wantedS C.n ops e o = true) (hd : o.dst = none) (h : Turn0 C (X ++ B) e o R) (k : ∀ L', R L' → J C Q ops L0 Lr r e L' []) : J C Q ops L0 Lr ((.b, i) :: r) e X B :=
  ⟨o, ho, hw, fun w hst => by
    obtain ⟨w', L', h1, h2, h3⟩ := h w hst
    rw [h1]
    exact ⟨L', h3, by rw [hd]; exact k L' h2⟩⟩
/-- A value among what is done in order. -/
theorem J.yb {d : Nat} {v : Value} (ho : ops[i]? = some o) (hw : wantedS C.n ops e o = true) (hd : o.dst = some d) (h : Yld C (X ++ B) e o v) (k : J C Q ops L0 Lr r (upd e d v) (X ++ B) []) : J C Q ops L0 Lr ((.b, i) :: r) e X B :=
  J.turn ho hw hd (R := fun v' L' => v' = v ∧ L' = X ++ B) (fun w hst => ⟨v, w, X ++ B, h w hst, ⟨rfl, rfl⟩, hst⟩) (by rintro _ _ ⟨rfl, rfl⟩; exact k)
theorem J.callb {x : Operand} {as : List Operand} {ts : Array TypeId} {f : FuncId} {fl cl : List Value} {args : List Value} {K0 q : List HP} {R : Ending → List HP → Prop} (ho : ops[i]? = some o) (hw : wantedS C.n ops e o = true)
    (hop : o.op = .call { callee := .value x, args := as.toArray, argTypes := ts }) (hx : ev C.n e x = .func (.func f) fl.toArray cl.toArray) (hc : Callable C.P f) (ha : fl ++ as.map (ev C.n e) ++ cl = args)
    (hp : Outs (X ++ B) K0 q) (ht : ∀ w, St C.w0 C.M (X ++ B) w → Tri C.P f args.toArray w K0 R)
    (hout : ∀ L', R .outgrown L' → False) (hpan : ∀ ch L', R (.panicked ch) L' → ∀ e', e'.ds = e.ds → Q (.panic ch) e' (L' ++ q))
    (k : ∀ v L', R (.returned v) L' → J C Q ops L0 Lr r (updo e o.dst v) (L' ++ q) []) : J C Q ops L0 Lr ((.b, i) :: r) e X B :=
  ⟨o, ho, hw, fun w hst => by
    rw [run_call hop hx hc, ha]
    refine Calls.mono (ht w hst) ?_
    rintro en w' ⟨L', hR, hst'⟩
    have hnew : St C.w0 C.M (L' ++ q) w' := St.step (hst.perm hp.perm) hst'
    cases en with
    | returned v => exact ⟨_, hnew, k v L' hR⟩
    | panicked ch => exact ⟨_, hnew, hpan ch L' hR⟩
    | outgrown => exact (hout L' hR).elim⟩
end
end
end Go.Gv
