/- Part of an evaluator of the program's calls, proved sound: what it yields, the program does in every world. No condition beyond those that each theorem names. -/
import Derived.Test.YtoclidojcihnfaaGreatGxJ
set_option linter.unusedVariables false
set_option linter.unusedSimpArgs false
namespace Go.Gx
open Go.RowKit Go.Gv
section
variable {P : Program} {n : Nat} {e : FE} {h : H} {o : Oper}
theorem Pur.eqA {t u : TypeId} {x y : Operand} {xs ys : List S} {r : Bool} (ho : o.op = .binOp .eql t x y u) (hg : P.eqGuardType P.depth t = false) (hx : opv n e x = some (.a xs)) (hy : opv n e y = some (.a ys)) (hr : eqV P 10000 t (.a xs) (.a ys) = some r) : Pur P n e h o (.o (.b r)) 0 :=
  fun σ E rh he hh => by
    have h1 : VR σ (.a xs) (ev n E x) := he.opv hx
    have h2 : VR σ (.a ys) (ev n E y) := he.opv hy
    obtain ⟨us, h3, _⟩ := id h1
    obtain ⟨vs, h4, _⟩ := id h2
    refine ⟨_, rfl, fun C L hP hn _ => fun w _ => ?_⟩
    subst hP hn
    have h5 := eqV_run (P := C.P) (σ := σ) 10000 t _ _ r _ _ hr h1 h2 w
    rw [h3, h4] at h5
    have h6 := run_eqGuard_agg (P := C.P) w .eql t x y us.toArray vs.toArray hg
    have h7 := run_eql_struct (P := C.P) w t us.toArray vs.toArray
    rw [h5] at h7
    simp only [execOp, ho, h3, h4, bind_assoc, pure_bind]
    rw [Sem.run_bind, h6]
    simp only [Result.andThen_ok]
    rw [Sem.run_bind, h7]
    rfl
theorem Pur.neA {t u : TypeId} {x y : Operand} {xs ys : List S} {r : Bool} (ho : o.op = .binOp .neq t x y u) (hg : P.eqGuardType P.depth t = false) (hx : opv n e x = some (.a xs)) (hy : opv n e y = some (.a ys)) (hr : eqV P 10000 t (.a xs) (.a ys) = some r) : Pur P n e h o (.o (.b (Bool.not r))) 0 :=
  fun σ E rh he hh => by
    have h1 : VR σ (.a xs) (ev n E x) := he.opv hx
    have h2 : VR σ (.a ys) (ev n E y) := he.opv hy
    obtain ⟨us, h3, _⟩ := id h1
    obtain ⟨vs, h4, _⟩ := id h2
    refine ⟨_, rfl, fun C L hP hn _ => fun w _ => ?_⟩
    subst hP hn
    have h5 := eqV_run (P := C.P) (σ := σ) 10000 t _ _ r _ _ hr h1 h2 w
    rw [h3, h4] at h5
    have h6 := run_eqGuard_agg (P := C.P) w .neq t x y us.toArray vs.toArray hg
    have h7 := run_neq_struct (P := C.P) w t us.toArray vs.toArray
    rw [h5] at h7
    simp only [execOp, ho, h3, h4, bind_assoc, pure_bind]
    rw [Sem.run_bind, h6]
    simp only [Result.andThen_ok]
    rw [Sem.run_bind, h7]
    rfl
/-- An element of an array that is a value. -/
theorem Pur.idxV {t : Nat} {x y : Operand} {cs : List S} {j : IntKind} {m len el sz : Nat} {v : V} (ho : o.op = .index t x y) (hs : arI P t = some (len, el, sz)) (hx : opv n e x = some (.a cs)) (hy : opv n e y = some (.o (.i j (.ofNat m)))) (hm : Nat.blt m len = true)
    (hv : prt P el cs (m * sz) = some v) : Pur P n e h o v 0 :=
  fun σ E rh he hr => by
    obtain ⟨vs, h1, h2⟩ : VR σ (.a cs) (ev n E x) := he.opv hx
    have h4 : ev n E y = .int j (.ofNat m) := he.opv hy
    obtain ⟨u, h5, h6⟩ := prt_run hv h2
    obtain ⟨hu, z, by_, hT⟩ := arI.info hs
    rw [Nat.blt_eq] at hm
    refine ⟨u, h5.VR, fun C L hP hn _ => fun w _ => ?_⟩
    subst hP hn
    have h7 := h6 w
    simp [execOp, ho, h1, h4, Instr.index, asIntOf, run_underlying hu, hm, tyI.size hT, h7]
theorem Gv.copyB {C : Ctx} {E : Env} {r : List HP} {o : Oper} {t u el sz by_ b off dlen c m T : Nat} {z vy : Value} {x y : Operand} {cs news : List Value}
    (ho : o.op = .call { callee := .builtin .copy, args := #[x, y], argTypes := #[t, u] }) (hs : slI C.P t = some (el, sz, by_, z)) (hx : ev C.n E x = .slice (some ⟨b, off, none⟩) dlen c) (hy : ev C.n E y = vy)
    (hlen : ∀ w, (Builtin.lenOf vy).run C.P w = .ok m w) (hsrc : ∀ w, St C.w0 C.M (.blk b (.cells cs.toArray T (0, 0)) :: r) w → (Builtin.firstCells sz (Nat.min m dlen) vy).run C.P w = .ok news.toArray w)
    (hfit : off + news.length ≤ cs.length) (h1 : news.all (·.oneCell') = true) :
    Turn C (.blk b (.cells cs.toArray T (0, 0)) :: r) E o (fun v L' => v = .int .i64 (Nat.min m dlen : Nat) ∧ L' = .blk b (.cells (cs.take off ++ news ++ cs.drop (off + news.length)).toArray T (0, 0)) :: r) :=
  fun w hst => by
      obtain ⟨hu, hT⟩ := slI.info hs
      have hb : w.heap[b]? = some (.cells cs.toArray T (0, 0)) := hst.first (List.Perm.refl _)
      have hcs := storeCells_run (P := C.P) (p := off) news hb hfit (by simpa using h1)
      refine ⟨_, _, _, ?_, ⟨rfl, rfl⟩, hst.setRow Rep.head⟩
      simp [execOp, ho, resolve, invoke, builtin, hx, hy, Builtin.copy_, run_underlying hu, hlen w, tyI.size hT, hsrc w hst, hcs, goInt]
theorem Trn.copyS {t u el by_ k off dlen : Nat} {z : Value} {c : Cp} {x y : Operand} {cs : List S} {rr : B} {l : List Nat} {v : VO} (ho : o.op = .call { callee := .builtin .copy, args := #[x, y], argTypes := #[t, u] }) (hs : slI P t = some (el, 1, by_, z))
    (hx : opv n e x = some (.o (.sl k off dlen c))) (hy : opv n e y = some (.o (.s l))) (hg : (h.get k).cs = some cs) (hr' : rr.toL = lput off ((l.take (Nat.min l.length dlen)).map fun c : Nat => .i .u8 (.ofNat c)) cs) (hw : (h.get k).wi rr = some v) (hfit : Nat.ble (off + Nat.min l.length dlen) cs.length = true) :
    Trn P n e h o (.o (.i .i64 (.ofNat (Nat.min l.length dlen)))) (h.upd k v) :=
  fun σ E rh he hr C hP hn => by
    subst hP hn
    have hfit := Nat.le_of_ble_eq_true hfit
    obtain ⟨b, cp, hb, _, _, hxv⟩ : SR σ (.sl k off dlen c) (ev C.n E x) := he.opv hx
    obtain ⟨s, hyv, hys⟩ : SR σ (.s l) (ev C.n E y) := he.opv hy
    have hk := hr.blk_lt hb
    have hmin : Nat.min l.length dlen ≤ l.length := Nat.min_le_left _ _
    have hnl : ((l.take (Nat.min l.length dlen)).map fun c : Nat => S.i .u8 (.ofNat c)).length = Nat.min l.length dlen := by simp
    obtain ⟨vs, tl, T, hp, hall, hne, hor⟩ := hr.wi hk hb hg hw (by rw [hr']; exact lput_length (by rw [hnl]; exact hfit))
    obtain ⟨r, p1, p2, _⟩ := Lof_perm hk hp
    have hlen := hall.length
    have hnl2 : ((l.take (Nat.min l.length dlen)).map fun i : Nat => Value.int .u8 (i : Int)).length = Nat.min l.length dlen := by simp
    refine Turn.conv (Gv.copyB (T := T) (m := l.length) (cs := vs ++ tl) (news := (l.take (Nat.min l.length dlen)).map fun i : Nat => Value.int .u8 (i : Int)) ho hs hxv hyv (fun w => by simp [Builtin.lenOf, str_size hys]) (fun w hst => ?_) (by rw [hnl2]; simp only [List.length_append]; omega) ?_) p1 ?_
    · have : (s.extract 0 (Nat.min l.length dlen)).data.map (fun b : UInt8 => Value.int .u8 (b.toNat : Int)) = List.toArray ((l.take (Nat.min l.length dlen)).map fun i : Nat => Value.int .u8 (i : Int)) := by
        apply Array.ext'
        subst hys
        simp only [Array.toList_map, ByteArray.data_extract, Array.toList_extract, List.extract_eq_take_drop, Nat.sub_zero, List.drop_zero, List.map_take, List.map_map]
        congr 1
      simp only [Builtin.firstCells, Sem.run_pure]
      rw [this]
    · rw [List.all_eq_true]; intro v hv; obtain ⟨i, _, rfl⟩ := List.mem_map.1 hv; rfl
    · rintro _ _ ⟨rfl, rfl⟩
      have hst := Stp.upd hr hk hb hne (hor (vs.take off ++ ((l.take (Nat.min l.length dlen)).map fun i : Nat => Value.int .u8 (i : Int)) ++ vs.drop (off + Nat.min l.length dlen)) (by
        have := ((hall.take off).append (u8_R σ (l.take (Nat.min l.length dlen)))).append (hall.drop (off + Nat.min l.length dlen))
        rw [hr']; unfold lput; rw [hnl]; exact this))
      refine ⟨_, ?_, _, _, hst, rfl, rfl⟩
      rw [H.n_upd]
      refine List.Perm.trans ?_ (p2 _).symm
      rw [hnl2, List.take_append_of_le_length (by omega), List.drop_append_of_le_length (by omega), ← List.append_assoc]
theorem Trn.copyL {t u el sz by_ k off dlen k2 off2 m : Nat} {z : Value} {c c2 : Cp} {x y : Operand} {cs cs2 : List S} {rr : B} {v : VO} (ho : o.op = .call { callee := .builtin .copy, args := #[x, y], argTypes := #[t, u] }) (hs : slI P t = some (el, sz, by_, z))
    (hx : opv n e x = some (.o (.sl k off dlen c))) (hy : opv n e y = some (.o (.sl k2 off2 m c2))) (hg : (h.get k).cs = some cs) (hg2 : (h.get k2).cs = some cs2) (h1 : ((cs2.drop off2).take (Nat.min m dlen * sz)).all one = true)
    (hr' : rr.toL = lput off ((cs2.drop off2).take (Nat.min m dlen * sz)) cs) (hw : (h.get k).wi rr = some v) (hfit : Nat.ble (off + Nat.min m dlen * sz) cs.length = true) (hfit2 : Nat.ble (off2 + Nat.min m dlen * sz) cs2.length = true) :
    Trn P n e h o (.o (.i .i64 (.ofNat (Nat.min m dlen)))) (h.upd k v) :=
  fun σ E rh he hr C hP hn => by
    subst hP hn
    have hfit := Nat.le_of_ble_eq_true hfit
    have hfit2 := Nat.le_of_ble_eq_true hfit2
    obtain ⟨b, cp, hb, _, _, hxv⟩ : SR σ (.sl k off dlen c) (ev C.n E x) := he.opv hx
    obtain ⟨b2, cp2, hb2, _, _, hyv⟩ : SR σ (.sl k2 off2 m c2) (ev C.n E y) := he.opv hy
    have hk := hr.blk_lt hb
    have hk2 := hr.blk_lt hb2
    obtain ⟨us, tl2, T2, fr2, hp2, hall2⟩ := hr.rd hk2 hb2 hg2
    have hlen2 := hall2.length
    have hseg := (hall2.drop off2).take (Nat.min m dlen * sz)
    have hnl : ((cs2.drop off2).take (Nat.min m dlen * sz)).length = Nat.min m dlen * sz := by simp; omega
    have hnl2 : ((us.drop off2).take (Nat.min m dlen * sz)).length = Nat.min m dlen * sz := by simp; omega
    obtain ⟨vs, tl, T, hp, hall, hne, hor⟩ := hr.wi hk hb hg hw (by rw [hr']; exact lput_length (by rw [hnl]; exact hfit))
    obtain ⟨r, p1, p2, _⟩ := Lof_perm hk hp
    have hlen := hall.length
    refine Turn.conv (Gv.copyB (T := T) (m := m) (cs := vs ++ tl) (news := (us.drop off2).take (Nat.min m dlen * sz)) ho hs hxv hyv (fun w => rfl) (fun w hst => ?_) (by rw [hnl2]; simp only [List.length_append]; omega) (all_one hseg h1)) p1 ?_
    · have hmem : w.heap[b2]? = _ := (hst.perm p1.symm).sat.all _ (HR.mem hk2 hp2)
      have := run_loadCells_list (P := C.P) w ⟨b2, off2, none⟩ ((us.drop off2).take (Nat.min m dlen * sz)) (fun j v hj => by
        rw [add_none, cell_of_row w b2 (off2 + j) _ T2 fr2 hmem]
        rw [List.getElem?_take] at hj
        split at hj
        · rw [List.getElem?_drop] at hj
          have hlt := (List.getElem?_eq_some_iff.1 hj).1
          simp only [List.getElem?_toArray]
          rw [List.getElem?_append_left hlt]; exact hj
        · cases hj)
      rw [hnl2] at this
      exact this
    · rintro _ _ ⟨rfl, rfl⟩
      have hst := Stp.upd hr hk hb hne (hor (vs.take off ++ (us.drop off2).take (Nat.min m dlen * sz) ++ vs.drop (off + Nat.min m dlen * sz)) (by
        have := ((hall.take off).append hseg).append (hall.drop (off + Nat.min m dlen * sz))
        rw [hr']; unfold lput; rw [hnl]; exact this))
      refine ⟨_, ?_, _, _, hst, rfl, rfl⟩
      rw [H.n_upd]
      refine List.Perm.trans ?_ (p2 _).symm
      rw [hnl2, List.take_append_of_le_length (by omega), List.drop_append_of_le_length (by omega), ← List.append_assoc]
end
end Go.Gx
