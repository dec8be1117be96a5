/- Part of an evaluator of the program's calls, proved sound: what it yields, the program does in every world. No condition beyond those that each theorem names. -/
import Derived.Test.YtoclidojcihnfaaGreatGxG
set_option linter.unusedVariables false
set_option linter.unusedSimpArgs false
namespace Go.Gx
open Go.RowKit Go.Gv

/-! ### append -/
theorem Gv.appB {C : Ctx} {E : Env} {L Lp r : List HP} {o : Oper} {t el sz by_ n c m c2 : Nat} {z : Value} {x y : Operand} {A : Option Addr} {b2 p2 : Nat} {ks news : List Value}
    (ho : o.op = .call { callee := .builtin .append, args := #[x, y], argTypes := #[t, t] }) (hs : slI C.P t = some (el, sz, by_, z)) (hz : z.cells.size = sz) (hsz : 0 < sz)
    (hx : ev C.n E x = .slice A n c) (hy : ev C.n E y = .slice (some ⟨b2, p2, none⟩) m c2) (hL : L.Perm (Lp ++ r))
    (hown : ∀ w, St C.w0 C.M L w → w.ownsRow 0 el sz (.slice A n c) n ks) (hdom : ∀ b, (Value.slice A n c).ownBlock = some b ↔ b ∈ doms Lp)
    (hsrc : ∀ w, St C.w0 C.M L w → ∀ j v, news[j]? = some v → w.cell? (⟨b2, p2 + j, none⟩) = some v) (hl : news.length = m * sz) (h1 : news.all (·.oneCell') = true) (hm : 0 < m)
    (hb : (n + m) * by_ ≤ 140737488355328) (hb2 : n + m ≤ 9223372036854775807) :
    Turn C L E o (fun v L' => ∃ b' c' tl', v = .slice (some ⟨b', 0, none⟩) (n + m) c' ∧ n + m ≤ c' ∧ L' = .blk b' (.cells (List.toArray ((ks ++ news) ++ tl')) el (0, 0)) :: r ∧ (ks ++ news).length + tl'.length = c' * sz ∧ c' ≤ maxLen) :=
  fun w hst => by
      obtain ⟨hu, hT⟩ := slI.info hs
      obtain ⟨i, hi1, hi2, hi3, hi4⟩ := tyI.info hT
      have ho' := hown w hst
      obtain ⟨v', w', hrun, hown', hg, _, hat⟩ := run_append_own_at (P := C.P) w 0 t o.type el i z sz by_ hu hi1 hi2 hi3 hi4 hz hsz (.slice A n c) n ks ho' ⟨b2, p2, none⟩ m c2 news hl
        (fun j v hj => by rw [add_none]; exact hsrc w hst j v hj) (by simpa using h1) (by simpa [maxLen] using hb2) hb (Nat.zero_le _)
      obtain ⟨hlen, hor⟩ := hown'
      rcases hor with ⟨_, h0⟩ | ⟨g, cap, cur, hv, _, hgc, hnc, hcm, hcs, htk⟩
      · omega
      subst hv
      have hcur : cur = List.toArray ((ks ++ news) ++ cur.toList.drop ((n + m) * sz)) := by
        rw [← htk, List.take_append_drop]
      refine ⟨_, w', _, ?_, ⟨g, cap, cur.toList.drop ((n + m) * sz), rfl, hnc, rfl, ?_, hcm⟩, ?_⟩
      · simp [execOp, ho, resolve, invoke, builtin, hx, hy, hrun]
      · have := Nat.mul_le_mul_right sz hnc
        rw [hlen]; simp only [List.length_drop, Array.length_toList, hcs]
        omega
      · rw [← hcur]
        refine St.step (A := Lp) (B := [.blk g (.cells cur el (0, 0))]) (hst.perm hL) ⟨⟨fun p hp => by simp at hp; subst hp; exact hgc, by simp [doms, HP.dom]⟩, ⟨hg.os, hg.tape, hg.output, hg.size, fun k hk hmm => hg.block k hk fun he => hmm ((hdom k).1 he.symm)⟩, fun b hb => ?_⟩
        simp [doms, HP.dom] at hb
        subst hb
        rcases hat with h | h
        · left; exact (hdom b).1 (by rw [← h]; rfl)
        · right; simp [Value.ownBlock] at h; omega
/-- What a slice that is appended to has: its block, the cells before its end, all its room. -/
inductive App (h : H) (el sz : Nat) : V → Nat → B → Option Nat → Prop where
  | nil : App h el sz (.o (.r (.slice none 0 0))) 0 (B.ofL []) none
  | kn {k len c : Nat} {cs : B} (hg : h.get k = .c el cs) (hc : cs.n = c * sz) (hm : c ≤ maxLen) : App h el sz (.o (.sl k 0 len (.kn c))) len (cs.shr (len * sz)) (some k)
  | un {k len : Nat} {cs : B} (hg : h.get k = .u el sz cs) (hc : cs.n = len * sz) : App h el sz (.o (.sl k 0 len (.un 0))) len cs (some k)
section
variable {P : Program} {n : Nat} {e : FE} {h : H} {o : Oper}
theorem App.known {σ : Sg} {rh : RH} {C : Ctx} {el sz : Nat} {v : V} {x : Value} {len : Nat} {ks : B} {kk : Option Nat} (ha : App h el sz v len ks kk) (hr : HR σ h rh) (hv : VR σ v x) :
    ∃ A c vs Lp, x = .slice A len c ∧ All2 (SR σ) ks.toL vs ∧ (∀ w, St C.w0 C.M (Lof h.n rh) w → w.ownsRow 0 el sz (.slice A len c) len vs) ∧ (∀ b, (Value.slice A len c).ownBlock = some b ↔ b ∈ doms Lp) ∧
      (kk = none → Lp = []) ∧ (∀ k, kk = some k → k < h.n ∧ ∃ b p, σ.blk k = some b ∧ rh k = some p ∧ Lp = [p]) := by
  cases ha with
  | nil =>
    have hv : x = .slice none 0 0 := hv
    exact ⟨none, 0, [], [], hv, by rw [B.toL_ofL]; exact .nil, fun w _ => World.ownsRow_nil w 0 el sz, fun b => by simp [Value.ownBlock, doms], fun _ => rfl, fun _ h => (by cases h)⟩
  | @kn k _ c cs hg hc hm =>
    obtain ⟨b, cp, hb, hcp, hle, hv⟩ : SR σ (.sl k 0 len (.kn c)) x := hv
    have hcp : cp = c := hcp
    subst hcp
    have hk := hr.blk_lt hb
    obtain ⟨vs, hp, hall⟩ := hr.cells hk hb hg
    have hlen := hall.length
    rw [B.len] at hlen
    have := Nat.mul_le_mul_right sz hle
    refine ⟨_, _, vs.take (len * sz), [.blk b (.cells vs.toArray el (0, 0))], hv, by rw [B.toL_shr (by omega)]; exact hall.take _, fun w hst => ?_, fun b' => by simp [Value.ownBlock, doms, HP.dom, eq_comm], fun h => (by cases h), fun k' h => (by cases h; exact ⟨hk, b, _, hb, hp, rfl⟩)⟩
    have hmem := hst.sat.all _ (HR.mem hk hp)
    exact ⟨by simp only [List.length_take]; omega, .inr ⟨b, cp, vs.toArray, rfl, Nat.zero_le _, hmem, hle, hm, by simp; omega, by simp⟩⟩
  | @un k _ _ hg hc =>
    obtain ⟨b, cp, hb, hcp, hle, hv⟩ : SR σ (.sl k 0 len (.un 0)) x := hv
    have hcp : cp = σ.cap k - 0 := hcp
    have hcp : cp = σ.cap k := by omega
    subst hcp
    have hk := hr.blk_lt hb
    obtain ⟨b', o', hp, h2, h3⟩ := hr.live k hk (by rw [hg]; simp)
    rw [hb] at h2; cases h2
    rw [hg] at h3
    obtain ⟨vs, rfl, hall, h5, h6⟩ := h3
    have hlen := hall.length
    rw [B.len] at hlen
    refine ⟨_, _, vs, [.blk b (.cells (vs ++ σ.tail k).toArray el (0, 0))], hv, hall, fun w hst => ?_, fun b' => by simp [Value.ownBlock, doms, HP.dom, eq_comm], fun h => (by cases h), fun k' h => (by cases h; exact ⟨hk, b, _, hb, hp, rfl⟩)⟩
    have hmem := hst.sat.all _ (HR.mem hk hp)
    exact ⟨by omega, .inr ⟨b, σ.cap k, (vs ++ σ.tail k).toArray, rfl, Nat.zero_le _, hmem, hle, h6, by simp; omega, by
      rw [List.toList_toArray, List.take_append_of_le_length (by omega), List.take_of_length_le (by omega)]⟩⟩
noncomputable def H.killo (h : H) (k : Option Nat) : H := Option.rec (motive := fun _ => H) h (fun k => h.upd k .x) k
theorem Trn.app {t el sz by_ len m off2 k2 : Nat} {c2 : Cp} {z : Value} {x y : Operand} {v : V} {ks : B} {cs2 news : List S} {kk : Option Nat} (ho : o.op = .call { callee := .builtin .append, args := #[x, y], argTypes := #[t, t] }) (hs : slI P t = some (el, sz, by_, z)) (hz : Nat.beq z.cells.size sz = true) (hsz : Nat.blt 0 sz = true)
    (hx : opv n e x = some v) (ha : App h el sz v len ks kk) (hy : opv n e y = some (.o (.sl k2 off2 m c2))) (hg2 : (h.get k2).cs = some cs2) (hne : kk ≠ some k2) (hfit : Nat.ble (off2 + m * sz) cs2.length = true) (hnews : news = (cs2.drop off2).take (m * sz))
    (h1 : news.all one = true) (hm : Nat.blt 0 m = true) (hb : Nat.ble ((len + m) * by_) 140737488355328 = true) (hb2 : Nat.ble (len + m) 9223372036854775807 = true) :
    Trn P n e h o (.o (.sl h.n 0 (len + m) (.un 0))) ((h.killo kk).new (.u el sz (B.apps news ks))) :=
  fun σ E rh he hr C hP hn => by
    rw [Nat.blt_eq] at hsz hm
    subst hnews
    have hfit := Nat.le_of_ble_eq_true hfit
    subst hP hn
    obtain ⟨A, c, vs, Lp, hxv, hall, hown, hdom, hk0, hk1⟩ := ha.known (C := C) hr (he.opv hx)
    obtain ⟨b2, cp2, hb2v, _, _, hyv⟩ : SR σ (.sl k2 off2 m c2) (ev C.n E y) := he.opv hy
    have hk2 := hr.blk_lt hb2v
    obtain ⟨us, tl2, T2, fr2, hp2, hall2⟩ := hr.rd hk2 hb2v hg2
    have hlen2 := hall2.length
    have hseg := (hall2.drop off2).take (m * sz)
    -- the memory without the old row
    have key : ∃ r sh, (Lof h.n rh).Perm (Lp ++ r) ∧ Stp σ σ h (h.killo kk) rh sh ∧ (Lof h.n sh).Perm r ∧ (h.killo kk).n = h.n := by
      cases kk with
      | none => cases hk0 rfl; exact ⟨Lof h.n rh, rh, List.Perm.refl _, Stp.refl hr, List.Perm.refl _, rfl⟩
      | some k =>
        obtain ⟨hk, b, p, hbk, hpk, rfl⟩ := hk1 k rfl
        obtain ⟨r, p1, _, p3⟩ := Lof_perm hk hpk
        exact ⟨r, _, p1, Stp.kill hr hk, p3, H.n_upd _ _ _⟩
    obtain ⟨r, sh, p1, st1, p3, hnn⟩ := key
    refine Turn.conv (Gv.appB ho hs (Nat.eq_of_beq_eq_true hz) hsz hxv hyv p1 hown hdom (fun w hst j v hj => ?_) (news := (us.drop off2).take (m * sz)) (by simp; omega) (all_one hseg h1) hm (Nat.le_of_ble_eq_true hb) (Nat.le_of_ble_eq_true hb2)) (List.Perm.refl _) ?_
    · have hmem : w.heap[b2]? = _ := hst.sat.all _ (HR.mem hk2 hp2)
      rw [List.getElem?_take] at hj
      split at hj
      · rw [List.getElem?_drop] at hj
        rw [cell_of_row w b2 (off2 + j) _ T2 fr2 hmem]
        have hlt := (List.getElem?_eq_some_iff.1 hj).1
        simp only [List.getElem?_toArray]
        rw [List.getElem?_append_left hlt]; exact hj
      · cases hj
    · rintro _ _ ⟨b', c', tl', rfl, hc1, rfl, hc2, hc3⟩
      have hst := Stp.new (b := b') (c := c') (tl := tl') st1.hr (v := .u el sz (B.apps ((cs2.drop off2).take (m * sz)) ks)) (o := .cells (List.toArray ((vs ++ (us.drop off2).take (m * sz)) ++ tl')) el (0, 0)) (by simp)
        ⟨vs ++ (us.drop off2).take (m * sz), by simp [Sg.new], by rw [B.toL_apps]; exact (hall.append hseg).mono fun _ _ => SR.mono (Sg.new_le (st1.hr.out _ (Nat.le_refl _))), by simp only [Sg.new, if_true]; exact ⟨hc2, hc3⟩⟩
      refine ⟨_, ?_, _, _, st1.trans hst, ⟨b', c', by simp [Sg.new, hnn], by simp [CR, Sg.new, hnn], hc1, rfl⟩, rfl⟩
      rw [H.n_new]
      exact (List.Perm.cons _ p3.symm).trans (by rw [hnn]; exact (Lof_new h.n sh _).symm)
end
end Go.Gx
