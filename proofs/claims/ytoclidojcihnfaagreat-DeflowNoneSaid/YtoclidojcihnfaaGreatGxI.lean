/- Part of an evaluator of the program's calls, proved sound: what it yields, the program does in every world. No condition beyond those that each theorem names. -/
import Derived.Test.YtoclidojcihnfaaGreatGxH
set_option linter.unusedVariables false
set_option linter.unusedSimpArgs false
namespace Go.Gx
open Go.RowKit Go.Gv

section
variable {P : Program} {n : Nat} {e : FE} {h : H} {o : Oper}
/-! ### nil -/
theorem equal_nil {P : Program} {t el : Nat} (ht : P.underlying t = some (.pointer el)) (a : Option Addr) (w : World) : (Op.equal t (.pointer a) (.pointer none)).run P w = .ok a.isNone w := by
  unfold Op.equal
  rw [show Op.maxDepth = 9999 + 1 from rfl, Op.equalIn]
  cases a <;> simp [run_underlying ht]
theorem Pur.eqnil {t u : TypeId} {el : Nat} {x y : Operand} {v : V} {r : Bool} (ho : o.op = .binOp .eql t x y u) (ht : P.underlying t = some (.pointer el)) (hx : opv n e x = some v) (hy : opv n e y = some (.o (.r (.pointer none))))
    (hr : (∃ k off, v = .o (.p k off) ∧ r = false) ∨ (v = .o (.r (.pointer none)) ∧ r = true)) : Pur P n e h o (.o (.b r)) 0 :=
  fun σ E rh he hh => by
    have h2 : ev n E y = .pointer none := he.opv hy
    have h1 : ∃ a, ev n E x = .pointer a ∧ r = a.isNone := by
      rcases hr with ⟨k, off, rfl, rfl⟩ | ⟨rfl, rfl⟩
      · obtain ⟨b, _, h3⟩ : PR σ (k, off) (ev n E x) := he.opv hx
        exact ⟨_, h3, rfl⟩
      · exact ⟨none, he.opv hx, rfl⟩
    obtain ⟨a, h3, h4⟩ := h1
    refine ⟨.bool r, rfl, fun C L hP hn _ => fun w _ => ?_⟩
    subst hP hn
    have := equal_nil ht a w
    simp only [execOp, ho, h3, h2, eqGuard, binOp, bind_assoc, pure_bind]
    simp [this, h4]
theorem Pur.nenil {t u : TypeId} {el : Nat} {x y : Operand} {v : V} {r : Bool} (ho : o.op = .binOp .neq t x y u) (ht : P.underlying t = some (.pointer el)) (hx : opv n e x = some v) (hy : opv n e y = some (.o (.r (.pointer none))))
    (hr : (∃ k off, v = .o (.p k off) ∧ r = true) ∨ (v = .o (.r (.pointer none)) ∧ r = false)) : Pur P n e h o (.o (.b r)) 0 :=
  fun σ E rh he hh => by
    have h2 : ev n E y = .pointer none := he.opv hy
    have h1 : ∃ a, ev n E x = .pointer a ∧ r = !a.isNone := by
      rcases hr with ⟨k, off, rfl, rfl⟩ | ⟨rfl, rfl⟩
      · obtain ⟨b, _, h3⟩ : PR σ (k, off) (ev n E x) := he.opv hx
        exact ⟨_, h3, rfl⟩
      · exact ⟨none, he.opv hx, rfl⟩
    obtain ⟨a, h3, h4⟩ := h1
    refine ⟨.bool r, rfl, fun C L hP hn _ => fun w _ => ?_⟩
    subst hP hn
    have := equal_nil ht a w
    simp only [execOp, ho, h3, h2, eqGuard, binOp, bind_assoc, pure_bind]
    simp [this, h4]
/-! ### Bytes -/
noncomputable def byt1 (s : S) : Option Nat := match s with
  | .i .u8 (.ofNat c) => grd (Nat.blt c 256) (some c)
  | _ => none
noncomputable def byts (l : List S) : Option (List Nat) := List.rec (motive := fun _ => Option (List Nat)) (some []) (fun s _ ih => ob (byt1 s) fun c => ob ih fun r => some (c :: r)) l
theorem byts_R {σ : Sg} : ∀ {l : List S} {cs : List Nat} {vs : List Value}, byts l = some cs → All2 (SR σ) l vs → vs = cs.map (fun c : Nat => Value.int .u8 (c : Int)) ∧ ∀ c ∈ cs, c < 256
  | [], cs, vs, h, ha => by cases h; cases ha; exact ⟨rfl, by simp⟩
  | s :: l, cs, vs, h, ha => by
    cases ha
    rename_i v vs hv hr
    obtain ⟨c, h1, h2⟩ := ob_some h
    obtain ⟨r, h3, h4⟩ := ob_some h2
    cases h4
    obtain ⟨h5, h6⟩ := byts_R h3 hr
    unfold byt1 at h1
    split at h1
    · obtain ⟨h7, h8⟩ := grd_some h1
      cases h8
      rw [Nat.blt_eq] at h7
      have hv : v = _ := hv
      refine ⟨by rw [h5, hv]; rfl, fun x hx => ?_⟩
      rcases List.mem_cons.1 hx with rfl | hx
      · exact h7
      · exact h6 x hx
    · cases h1
theorem strOf_R {cs : List Nat} (h : ∀ c ∈ cs, c < 256) : (strOfNums (cs.map fun c : Nat => (c : Int))).data.toList.map UInt8.toNat = cs := by
  rw [strOfNums_data]
  induction cs with
  | nil => rfl
  | cons c cs ih =>
    have h1 := h c (by simp)
    simp only [List.map_cons, Int.toNat_natCast, List.cons.injEq]
    refine ⟨?_, by simpa using ih fun x hx => h x (List.mem_cons_of_mem _ hx)⟩
    simp only [UInt8.toNat_ofNat']
    omega
theorem Pur.b2s {t u el : Nat} {x : Operand} {k off len : Nat} {c : Cp} {cs : List S} {l : List Nat} (ho : o.op = .convert t u x) (hs : P.underlying t = some (.slice el)) (he8 : P.underlying el = some (.int .u8)) (hu : P.underlying u = some .string)
    (hx : opv n e x = some (.o (.sl k off len c))) (hg : (h.get k).cs = some cs) (hl : Nat.ble (off + len) cs.length = true) (hb : byts ((cs.drop off).take len) = some l) : Pur P n e h o (.o (.s l)) (k + 1) :=
  fun σ E rh he hr => by
    obtain ⟨b, cp, h1, _, _, h3⟩ : SR σ (.sl k off len c) (ev n E x) := he.opv hx
    obtain ⟨vs, tl, T, fr, hp, hall⟩ := hr.rd (hr.blk_lt h1) h1 hg
    have hseg := (hall.drop off).take len
    obtain ⟨h5, h6⟩ := byts_R hb hseg
    have hl := Nat.le_of_ble_eq_true hl
    have hlen := hall.length
    have hll : l.length = len := by
      have := congrArg List.length h5
      simp at this; omega
    refine ⟨_, ⟨_, rfl, strOf_R h6⟩, fun C L hP hn hin => fun w hst => ?_⟩
    subst hP hn
    have hm : w.heap[b]? = _ := hst.sat.all _ (hin k _ rfl (hr.blk_lt h1) hp).mem
    have hrun := run_convert_bytes_arg (P := C.P) w t el hs he8 b off len cp (l.map fun c : Nat => (c : Int)) (by simp [hll]) (fun i hi => by
      rw [cell_of_row w b (off + i) _ T fr hm]
      have h7 : ((vs.drop off).take len)[i]? = some (.int .u8 ((l[i]'(by omega) : Nat) : Int)) := by rw [h5]; simp [List.getElem?_eq_getElem (show i < l.length by omega)]
      rw [List.getElem?_take, if_pos hi, List.getElem?_drop] at h7
      have hlt := (List.getElem?_eq_some_iff.1 h7).1
      simp only [List.getElem?_toArray]
      rw [List.getElem?_append_left hlt, h7]
      simp [List.getD_eq_getElem?_getD, List.getElem?_eq_getElem (show i < l.length by omega)]) u hu
    simp [execOp, ho, h3, hrun]
theorem Pur.b2s0 {t u el : Nat} {x : Operand} {c1 c2 : Nat} (ho : o.op = .convert t u x) (hs : P.underlying t = some (.slice el)) (he8 : P.underlying el = some (.int .u8)) (hu : P.underlying u = some .string)
    (hx : opv n e x = some (.o (.r (.slice none c1 c2)))) : Pur P n e h o (.o (.s [])) 0 :=
  fun σ E rh he hr => by
    have h3 : ev n E x = .slice none c1 c2 := he.opv hx
    refine ⟨_, ⟨ByteArray.empty, rfl, rfl⟩, fun C L hP hn hin => fun w hst => ?_⟩
    subst hP hn
    have hrun := run_convert_bytes_nil (P := C.P) w t el hs he8 c1 c2 u hu
    simp [execOp, ho, h3, hrun]
theorem u8_R (σ : Sg) : ∀ l : List Nat, All2 (SR σ) (l.map fun c : Nat => S.i .u8 (.ofNat c)) (l.map fun i : Nat => Value.int .u8 (i : Int))
  | [] => .nil
  | i :: l => .cons rfl (u8_R σ l)
theorem Trn.s2b {t u el : Nat} {x : Operand} {l : List Nat} (ho : o.op = .convert t u x) (hs : P.underlying t = some .string) (hu : P.underlying u = some (.slice el)) (he8 : P.underlying el = some (.int .u8))
    (hx : opv n e x = some (.o (.s l))) : Trn P n e h o (.o (.sl h.n 0 l.length (.un 0))) (h.new (.f el (B.ofL (l.map fun c : Nat => .i .u8 (.ofNat c))))) :=
  fun σ E rh he hr C hP hn => by
    obtain ⟨s, h3, h4⟩ : SR σ (.s l) (ev n E x) := he.opv hx
    subst hP hn
    have hT : Turn C (Lof h.n rh) E o (fun v L' => ∃ b c tl fr, v = .slice (some ⟨b, 0, none⟩) l.length c ∧ l.length ≤ c ∧ L' = .blk b (.cells (List.toArray (l.map (fun i : Nat => Value.int .u8 (i : Int)) ++ tl)) el fr) :: Lof h.n rh) := fun w hst => by
      have hrun := Lib.run_convert_string_bytes (P := C.P) w t u el s hs hu he8
      have hsz := str_size h4
      have hge := grownCap_ge w s.size 0 el
      have hcells : Lib.bytesCells w el s = List.toArray (l.map (fun i : Nat => Value.int .u8 (i : Int)) ++ List.replicate (grownCap w s.size 0 el - s.size) (.int .u8 0)) := by
        subst h4
        apply Array.ext'
        simp [Lib.bytesCells]
      refine ⟨.slice (some ⟨w.heap.size, 0, none⟩) s.size (grownCap w s.size 0 el), Lib.bytesWorld w el s, _, ?_, ⟨w.heap.size, grownCap w s.size 0 el, List.replicate (grownCap w s.size 0 el - s.size) (.int .u8 0), ((Lib.bytesCells w el s).size, (Lib.bytesCells w el s).size + 1), by rw [hsz], by omega, rfl⟩, ?_⟩
      · simp [execOp, ho, h3, hrun]
      · rw [← hcells]
        refine hst.new (q := .blk w.heap.size _) (Lib.bytesWorld_at_new w el s) ⟨rfl, rfl, rfl, by rw [Lib.bytesWorld_size]; omega, fun k hk _ => Lib.bytesWorld_at_old w el s k hk⟩ (by simp [HP.dom])
    refine Turn.conv hT (List.Perm.refl _) ?_
    rintro _ _ ⟨b, c, tl, fr, rfl, hc, rfl⟩
    have hall := u8_R (σ.new h.n b c tl) l
    have hst := Stp.new (b := b) (c := c) (tl := tl) hr (v := .f el (B.ofL (l.map fun c : Nat => .i .u8 (.ofNat c)))) (o := .cells (List.toArray (l.map (fun i : Nat => Value.int .u8 (i : Int)) ++ tl)) el fr) (by simp) ⟨l.map (fun i : Nat => Value.int .u8 (i : Int)), fr, by simp [Sg.new], by rw [B.toL_ofL]; exact hall⟩
    exact ⟨_, by rw [H.n_new]; exact (Lof_new h.n rh _).symm, _, _, hst, ⟨b, c, by simp [Sg.new], by simp [CR, Sg.new], hc, rfl⟩, rfl⟩
end
end Go.Gx
