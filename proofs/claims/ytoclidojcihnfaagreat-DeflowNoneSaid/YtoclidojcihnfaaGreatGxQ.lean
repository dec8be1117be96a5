/- Part of an evaluator of the program's calls, proved sound: what it yields, the program does in every world. No condition beyond those that each theorem names. -/
import Derived.Test.YtoclidojcihnfaaGreatGxP
set_option linter.unusedVariables false
set_option linter.unusedSimpArgs false
namespace Go.Gx
open Go.RowKit Go.Gv

/-! ### Functions -/
noncomputable def setL (l : List V) : Nat → FE → FE := List.rec (motive := fun _ => Nat → FE → FE) (fun _ e => e) (fun v _ ih i e => ih (Nat.succ i) (e.set i v)) l
theorem setL_ER {σ : Sg} {n : Nat} {E : Env} : ∀ (l : List V) (i : Nat) (e : FE), ER σ n e E → (∀ j v, l[j]? = some v → VR σ v (E.f (i + j))) → ER σ n (setL l i e) E
  | [], i, e, he, _ => he
  | v :: l, i, e, he, hv => by
    refine setL_ER l (i + 1) _ ?_ fun j u hj => by have := hv (j + 1) u (by simpa using hj); rwa [show i + (j + 1) = i + 1 + j by omega] at this
    refine ⟨fun t u ht hu => ?_⟩
    rw [Tr.get_set] at hu
    split at hu
    · rename_i hit; cases hu; subst hit; have := hv 0 v rfl; simpa using this
    · exact he.get t u ht hu
/-- A function's result variable. -/
noncomputable def rvv (P : Program) (n : Nat) (e : FE) (h : H) (r : ResultVar) : Option V := match r with
  | .tmp t => opv n e (.tmp t)
  | .cell t ty => match aggI P ty with
    | some false => ob (opv n e (.tmp t)) fun a => kLd h a
    | some true => match tyI P ty with
      | some q => ob (opv n e (.tmp t)) fun a => kLdA q.2.1 h a
      | none => none
    | none => none
noncomputable def rvs (P : Program) (n : Nat) (e : FE) (h : H) (l : List ResultVar) : Option (List V) := List.rec (motive := fun _ => Option (List V)) (some []) (fun r _ ih => ob (rvv P n e h r) fun v => ob ih fun l => some (v :: l)) l
noncomputable def isT (v : V) : Bool := match v with
  | .o _ => true
  | .a _ => true
  | _ => false
noncomputable def resV (l : List V) : Option V := match l with
  | [v] => grd (isT v) (some v)
  | l => grd (l.all isT) (some (.t l))
theorem isT_V0R {σ : Sg} {v : V} {x : Value} (h : isT v = true) (k : VR σ v x) : V0R σ v x := by cases v <;> first | exact k | cases h
theorem resV_R {σ : Sg} {l : List V} {xs : List Value} {v : V} (h : resV l = some v) (k : All2 (VR σ) l xs) : VR σ v (resOf xs) := by
  unfold resV at h
  split at h
  · obtain ⟨_, h⟩ := grd_some h; cases h; cases k; rename_i hh kk; cases kk; exact hh
  · rename_i hne
    obtain ⟨h1, h2⟩ := grd_some h
    cases h2
    have hx : resOf xs = .tuple (List.toArray xs) := by
      unfold resOf
      split
      · cases k; rename_i hh kk; cases kk; exact absurd rfl (hne _)
      · rfl
    rw [hx]
    refine ⟨xs, rfl, ?_⟩
    clear hx hne h
    induction k with
    | nil => exact .nil
    | cons hh kk ih =>
      simp only [List.all_cons, Bool.and_eq_true] at h1
      exact .cons (isT_V0R h1.1 hh) (ih h1.2)
theorem resV_nx {l : List V} {v : V} (h : resV l = some v) : ∀ x, v ≠ .x x := by
  rintro x rfl
  unfold resV at h
  split at h
  · obtain ⟨h1, h⟩ := grd_some h; cases h; cases h1
  · obtain ⟨_, h⟩ := grd_some h; cases h
theorem rvv_ok {P : Program} {σ : Sg} {n : Nat} {e : FE} {E : Env} {h : H} {rh : RH} (he : ER σ n e E) (hh : HR σ h rh) {r : ResultVar} {v : V} (hv : rvv P n e h r = some v) : ∃ x, VR σ v x ∧ RV P n E (Lof h.n rh) r x := by
  cases r with
  | tmp t => exact ⟨_, he.opv (x := .tmp t) hv, .tmp rfl⟩
  | cell t ty =>
    unfold rvv at hv
    split at hv
    · rename_i h1; cases h1
    · rename_i t' ty' h1
      cases h1
      split at hv
      · rename_i hag
        obtain ⟨a, h1, hv⟩ := ob_some hv
        unfold kLd at hv
        split at hv
        · rename_i k off
          obtain ⟨b, h2, hv⟩ := ob_some hv
          obtain ⟨s, h3, hv⟩ := ob_some hv
          cases hv
          obtain ⟨bb, hb, hp⟩ : PR σ (k, off) (ev n E (.tmp t)) := he.opv h1
          obtain ⟨vs, tl, T, fr, hk, hall⟩ := hh.rd (hh.blk_lt hb) hb (VO.cs_of h2)
          obtain ⟨x, h4, h5⟩ := hall.get off s (B.get?_of h3)
          refine ⟨x, h5, .cell hp fun w hw => Cells.load1 hag ?_⟩
          have hm : w.heap[bb]? = _ := hw.all _ (HR.mem (hh.blk_lt hb) hk)
          rw [cell_of_row w bb off _ T fr hm]
          simp only [List.getElem?_toArray]
          rw [List.getElem?_append_left (List.getElem?_eq_some_iff.1 h4).1]; exact h4
        · cases hv
      · rename_i hag
        split at hv
        · rename_i q hq
          obtain ⟨z, sz, by_⟩ := q
          obtain ⟨a, h1, hv⟩ := ob_some hv
          unfold kLdA at hv
          split at hv
          · rename_i k off
            obtain ⟨b, h2, hv⟩ := ob_some hv
            obtain ⟨h3, hv⟩ := grd_some hv
            cases hv
            have h3' := Nat.le_of_ble_eq_true h3
            rw [B.rng_eq h3']
            have h3'' : off + sz ≤ b.n := h3'
            obtain ⟨bb, hb, hp⟩ : PR σ (k, off) (ev n E (.tmp t)) := he.opv h1
            obtain ⟨vs, tl, T, fr, hk, hall⟩ := hh.rd (hh.blk_lt hb) hb (VO.cs_of h2)
            have hlen := hall.length
            rw [B.len] at hlen
            refine ⟨_, ⟨_, rfl, (hall.drop off).take sz⟩, .cell hp fun w hw => ?_⟩
            have hm : w.heap[bb]? = _ := hw.all _ (HR.mem (hh.blk_lt hb) hk)
            have h5 : ((vs ++ tl).drop off).take sz = (vs.drop off).take sz := by
              rw [List.drop_append_of_le_length (by omega), List.take_append_of_le_length (by simp; omega)]
            have := Cells.blk (w := w) (b := bb) (p := off) (m := sz) hm
            rw [h5] at this
            exact Cells.load hag hq this (by rw [List.length_take, List.length_drop]; omega)
          · cases hv
        · cases hv
      · cases hv
theorem rvs_ok {P : Program} {σ : Sg} {n : Nat} {e : FE} {E : Env} {h : H} {rh : RH} (he : ER σ n e E) (hh : HR σ h rh) : ∀ (l : List ResultVar) (vs : List V), rvs P n e h l = some vs → ∃ xs, All2 (VR σ) vs xs ∧ RVs P n E (Lof h.n rh) l xs
  | [], vs, hv => by cases hv; exact ⟨[], .nil, .nil⟩
  | r :: l, vs, hv => by
    obtain ⟨v, h1, hv⟩ := ob_some hv
    obtain ⟨r', h2, hv⟩ := ob_some hv
    cases hv
    obtain ⟨x, h3, h4⟩ := rvv_ok he hh h1
    obtain ⟨xs, h5, h6⟩ := rvs_ok he hh l r' h2
    exact ⟨x :: xs, .cons h3 h5, .cons h4 h6⟩
noncomputable def fin (P : Program) (n : Nat) (rs : List ResultVar) (x : Ex) (e : FE) (h : H) : Option (V × H) := Ex.rec (motive := fun _ => Option (V × H))
  (ob (rvs P n e h rs) fun vs => ob (resV vs) fun v => some (v, h)) (ob (rvs P n e h rs) fun vs => ob (resV vs) fun v => some (v, h)) (fun _ => none) (fun v => some (.x v, h)) x
/-- How regions of a function draw. -/
abbrev DRS := Nat → Nat → DR
structure Fk where
  run : CF → List V → H → Option (V × H)
/-- A function, made ready. -/
noncomputable def fk (P : Program) (drs : DRS) (hts : Nat → HT) (f : Nat) : Fk := match P.funcs[f]? with
  | some fn => match fn.body with
    | some c => match fn.name == "runtime.NumGoroutine" with
      | false => ⟨fun cf args h => grd (Nat.ble args.length fn.ntmps) ((cc P fn.ntmps (drs f fn.ntmps) c (hts f)).run cf (fin P fn.ntmps fn.results.toList) (setL args 0 .lf) h)⟩
      | true => ⟨fun _ _ _ => none⟩
    | none => ⟨fun _ _ _ => none⟩
  | none => ⟨fun _ _ _ => none⟩
noncomputable def step1 (P : Program) (drs : DRS) (hts : Nat → HT) (ih : CF) : CF := fun f args h => (fk P drs hts f).run ih args h
noncomputable def xfn (P : Program) (drs : DRS) (hts : Nat → HT) (fuel : Nat) : CF := Nat.rec (motive := fun _ => CF) (fun _ _ _ => none) (fun _ ih => step1 P drs hts ih) fuel
def DrsOK (P : Program) (drs : DRS) : Prop := ∀ f n, DrawOK P n (drs f n)
theorem step1_ok {P : Program} {drs : DRS} {hts : Nat → HT} (hdrs : DrsOK P drs) {ih : CF} (hih : CallOK P ih) : CallOK P (step1 P drs hts ih) where
  fn f args h r hr := by
    unfold step1 fk at hr
    split at hr
    · rename_i fn hf
      split at hr
      · rename_i c hc
        split at hr
        · rename_i hnm; exact ⟨fn, c, hf, hnm, hc⟩
        · cases hr
      · cases hr
    · cases hr
  run f args h v g hr σ rh xs w ha hh hsat := by
    unfold step1 fk at hr
    split at hr
    · rename_i fn hf
      split at hr
      · rename_i c hc
        split at hr
        · obtain ⟨h2, hr⟩ := grd_some hr
          obtain ⟨x, e1, h1, h4, hA⟩ := cc_ok (hdrs f fn.ntmps) c (hts f) _ ih hih _ _ h _ hr
          have hlen := ha.length
          refine Tri.of hf hc rfl (by rw [← hlen]; exact h2) hsat ?_
          have he : ER σ fn.ntmps (setL args 0 .lf) (argEnv xs) := by
            refine setL_ER args 0 _ ER.none fun j u hj => ?_
            obtain ⟨y, h5, h6⟩ := ha.get j u hj
            simp only [argEnv, Nat.zero_add, List.getD_eq_getElem?_getD, h5]
            exact h6
          refine hA ⟨P, w, doms (Lof h.n rh), fn.ntmps, none⟩ _ σ _ rh rfl rfl he hh fun τ E' sh hs he' hd => ?_
          have key : (ob (rvs P fn.ntmps e1 h1 fn.results.toList) fun vs => ob (resV vs) fun v => some (v, h1)) = some (v, g) → E'.ds = [] ∧ ∃ y, isRet fn P fn.ntmps E' (Lof h1.n sh) y ∧ RE σ h g rh v (.returned y) (Lof h1.n sh) := by
            intro hk
            obtain ⟨vs, h5, hk⟩ := ob_some hk
            obtain ⟨u, h6, hk⟩ := ob_some hk
            cases hk
            obtain ⟨ys, h7, h8⟩ := rvs_ok he' hs.hr _ _ h5
            exact ⟨hd, resOf ys, isRet.ofs (by simp) h8, τ, sh, hs, resV_R h6 h7, rfl⟩
          cases x with
          | n => exact key h4
          | r => exact key h4
          | x id => cases h4
          | p pv => cases h4; exact ⟨hd, pv, τ, sh, rfl, rfl, hs, rfl⟩
        · cases hr
      · cases hr
    · cases hr
theorem xfn_ok {P : Program} {drs : DRS} {hts : Nat → HT} (hdrs : DrsOK P drs) : ∀ fuel, CallOK P (xfn P drs hts fuel)
  | 0 => ⟨fun _ _ _ _ h => (by cases h), fun _ _ _ _ _ h => (by cases h)⟩
  | fuel + 1 => step1_ok hdrs (xfn_ok hdrs fuel)
end Go.Gx
