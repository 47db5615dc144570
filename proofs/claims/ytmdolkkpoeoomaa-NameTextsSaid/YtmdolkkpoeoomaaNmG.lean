/- Walks: reading a name's text. -/
import Derived.Test.YtmdolkkpoeoomaaNmF
import Derived.LaidEqlPtr
namespace Go.Proofs.Ytmdolkkpoeoomaa
open Go.RowKit NmX

theorem strT_info : (Try.prog.info? 9).map (·.size) = some 1 := by kernel_rfl

theorem slice_one (s : ByteArray) (k : Nat) (hk : k < s.size) (i j : Int) (hi : i = k) (hj : j = k + 1) (W : World) :
    (Instr.slice 9 (.string s) (some (.int .i64 i)) (some (.int .i64 j)) none).run Try.prog W = .ok (.string ⟨#[s[k]'hk]⟩) W := by
  subst hi hj
  have hx := extract_one s k hk
  unfold ofL at hx
  rw [run_slice_string_if W 9 s .i64 .i64 k (k + 1) Try.underlying9, if_pos (by omega), if_pos (by omega)]
  rw [show ((k : Int)).toNat = k by omega, show ((k : Int) + 1).toNat = k + 1 by omega, hx]
def fieldAt (st : PS) : Nat := if st.kind then st.done.length * 2 + 1 else st.done.length * 2
theorem fieldAt_t {st : PS} (h : st.kind = true) : fieldAt st = st.done.length * 2 + 1 := by simp [fieldAt, h]
theorem fieldAt_f {st : PS} (h : st.kind = false) : fieldAt st = st.done.length * 2 := by simp [fieldAt, h]

set_option maxRecDepth 100000 in
set_option maxHeartbeats 4000000 in
theorem parse_any (s : ByteArray) (w : World) (hm : s.size ≤ 140737488355328) :
    Calls Try.prog 7 #[.string s] w (ParsePost s w) := by
  obtain ⟨i0, hi, hz0, hz1, hz2⟩ := info_parts comp_info
  obtain ⟨js, hjs, hjz⟩ := Option.map_eq_some_iff.1 strT_info
  by_cases hlong : 65536 < s.size
  · go_enter Try.func7, Try.ntmps7
    go_wp2
    go_ret2
    exact ⟨_, _, rfl, Below.refl _ _, .inl ⟨hlong, rfl, rfl⟩⟩
  · have hle : s.size ≤ 65536 := by omega
    clear hlong
    go_enter Try.func7, Try.ntmps7
    go_wp2
    have hown0 := World.ownsRow_lit (base := w.heap.size) (e := 25) (size := 2) w #[.string ⟨#[]⟩, .string ⟨#[]⟩] 1 (Nat.le_refl _) (by unfold maxLen; omega) rfl
    go_loopw [4, 5, 6] (fun v p t wr => ∃ (st : PS) (i g cap : Nat), i ≤ s.size ∧ t = .int .i64 i ∧ v = .slice (some ⟨g, 0, none⟩) (st.done.length + 1) cap ∧ p = .pointer (some ⟨g, fieldAt st, none⟩) ∧ wr.ownsRow w.heap.size 25 2 v (st.done.length + 1) (compCells st.all) ∧ PGood s i st ∧ Below w.heap.size w wr) (fun _ _ t _ => s.size - (intOf t).toNat)
    case atStart => exact ⟨PS.init, 0, _, _, by omega, rfl, rfl, rfl, hown0, pgood_init s, (Below.refl _ w).alloc (Nat.le_refl _) _⟩
    case round =>
      obtain ⟨st, i, g, cap, hile, rfl, rfl, rfl, hown, hg, hb⟩ := hrel
      clear hown0
      by_cases hlt : i < s.size
      · have hext := extract_one s i hlt
        unfold ofL at hext
        have Hg := Lib.hid hg
        have hgd : st.done.length ≤ i := hg.2.1
        have hz := hb.size
        have hgb : w.heap.size ≤ g := (hown.lt g rfl).1
        have k0 : wr.cell? ⟨g, st.done.length * 2, none⟩ = some (.string st.cur.id) := by rw [hown.cellAt _ (by omega)]; exact compCells_last0 st.done st.cur
        have k1 : wr.cell? ⟨g, st.done.length * 2 + 1, none⟩ = some (.string st.cur.kind) := by rw [hown.cellAt _ (by omega)]; exact compCells_last1 st.done st.cur
        have f0 := hown.frozenAt (st.done.length * 2)
        have f1 := hown.frozenAt (st.done.length * 2 + 1)
        have z0 : st.cur.id.size ≤ 65536 := by have := hg.2.2.1; omega
        have z1 : st.cur.kind.size ≤ 65536 := by have := hg.2.2.2; omega
        obtain ⟨cur, hheap⟩ : ∃ cur, wr.heap[g]? = some (.cells cur 25 (0, 0)) := by
          rcases hown.2 with ⟨h, _⟩ | ⟨g', cp', cur, hv, _, hh, _⟩
          · cases h
          · injection hv with h1 _ _
            injection h1 with h1
            injection h1 with h1
            subst h1
            exact ⟨_, hh⟩
        have Hh := Lib.hid hheap
        have S0 := Lib.hid fun u => hown.stored (st.done.length * 2) u
        have S1 := Lib.hid fun u => hown.stored (st.done.length * 2 + 1) u
        clear hg hheap
        by_cases h47 : s[i]'hlt = 47
        · have e47 : ((s[i]'hlt).toNat : Int) = 47 := by rw [h47]; rfl
          have hcs : compCells st.slash.all = compCells st.all ++ [.string ⟨#[]⟩, .string ⟨#[]⟩] := by
            have : st.slash.all = st.all ++ [noComp] := rfl
            rw [this, compCells_append]; rfl
          have hsl : st.slash.done.length = st.done.length + 1 := by simp [PS.slash]
          have Hsl := Lib.hid hsl
          have Hcs := Lib.hid hcs
          have Hg2 := Lib.hid (pgood_slash Hg.out hlt h47)
          have hcl : (compCells st.all).length = (st.done.length + 1) * 2 := hown.1
          have Hcl := Lib.hid hcl
          clear hcs h47 hsl hext k0 k1 f0 f1 hcl
          generalize compCells st.all = L at *
          go_wp2_with (at_builtin; go_must (refine wpList_append_own _ rfl _ _ 22 rfl w.heap.size 25 i0 (.agg #[.string emptyS, .string emptyS]) 2 32 Try.underlying22 hi hz0 hz1 hz2 rfl (by decide) _ _ _ rfl (hown.alloc _) ⟨wr.heap.size, 0, none⟩ 1 1 [.string ⟨#[]⟩, .string ⟨#[]⟩] rfl rfl ?c1 ?c2 ?c3 ?c4 ?c5 ?_))
          case c1 => intro j u hj; match j, hj with | 0, hj => (simp at hj; subst hj; simp [Addr.add]) | 1, hj => (simp at hj; subst hj; simp [Addr.add])
          case c2 => intro u hu; simp at hu; subst hu; rfl
          case c3 => unfold maxLen; omega
          case c4 => omega
          case c5 => simp; omega
          intro v' w2 hown2 hgrow2 _
          have hB2 : Below w.heap.size w w2 := (hb.alloc hz _).grown hgrow2 (by simp; omega) (fun j hj => (hown.lt j hj).1)
          obtain ⟨g', cap', hv⟩ : ∃ g' cap', v' = .slice (some ⟨g', 0, none⟩) (st.done.length + 1 + 1) cap' := by
            rcases hown2.2 with ⟨_, h0⟩ | ⟨g', cap', cur', hv, _⟩
            · omega
            · exact ⟨_, _, hv⟩
          subst hv
          have j0 : w2.cell? ⟨g', (st.done.length + 1) * 2, none⟩ = some (.string ⟨#[]⟩) := by
            rw [hown2.cellAt _ (by omega), List.getElem?_append_right (by rw [Hcl.out]; omega), Hcl.out]
            simp
          clear hown hgrow2
          by_cases hn : 20 < st.done.length + 1 + 1
          · go_wp2
            go_ret2
            exact ⟨_, _, rfl, hB2, .inr (.inl ⟨hle, leads_bad Hg2.out.1 (.inl (by simp [PS.slash, PS.all]; omega)), rfl, rfl⟩)⟩
          · go_wp2
            go_roundw
            case rel => exact ⟨st.slash, i + 1, g', cap', by omega, by go_num, by rw [Hsl.out], by rw [fieldAt_f rfl, Hsl.out], by rw [Hcs.out, Hsl.out]; exact hown2, Hg2.out, hB2⟩
            case measure => simp [intOf]; omega
        · have e47 : (((s[i]'hlt).toNat : Int) == 47) = false := u8_ne h47
          cases hkd : st.kind with
          | false =>
            have hp := run_eql_ptr_same (P := Try.prog) wr ⟨g, st.done.length * 2, none⟩ Try.underlying46 hjs
            rw [fieldAt_f hkd]
            by_cases h46 : s[i]'hlt = 46
            · have e46 : ((s[i]'hlt).toNat : Int) = 46 := by rw [h46]; rfl
              have Hg2 := Lib.hid (pgood_dot Hg.out hlt h46 hkd)
              have hdd : compCells st.dot.all = compCells st.all := rfl
              have Hdd := Lib.hid hdd
              clear hdd h46 h47 hkd e47 hext
              by_cases hn : 20 < st.done.length + 1
              · go_wp2
                go_ret2
                exact ⟨_, _, rfl, hb, .inr (.inl ⟨hle, leads_bad Hg.out.1 (.inl (by simp [PS.all]; omega)), rfl, rfl⟩)⟩
              · by_cases hf : 32 < st.cur.kind.size
                · go_wp2
                  go_ret2
                  exact ⟨_, _, rfl, hb, .inr (.inl ⟨hle, leads_bad Hg.out.1 (.inr ⟨st.cur, by simp [PS.all], .inr hf⟩), rfl, rfl⟩)⟩
                · go_wp2
                  go_roundw
                  case rel => exact ⟨st.dot, i + 1, g, cap, by omega, by go_num, rfl, by rw [fieldAt_t rfl]; rfl, by rw [Hdd.out]; exact hown, Hg2.out, hb⟩
                  case measure => simp [intOf]; omega
            · have e46 : (((s[i]'hlt).toNat : Int) == 46) = false := u8_ne h46
              by_cases h92 : s[i]'hlt = 92 ∧ i + 1 < s.size
              · have hlt2 : i + 1 < s.size := h92.2
                have e92 : ((s[i]'hlt).toNat : Int) = 92 := by rw [h92.1]; rfl
                have hext2 := extract_one s (i + 1) hlt2
                unfold ofL at hext2
                have Hg2 := Lib.hid (pgood_back Hg.out hlt2 h92.1)
                clear h92 h46 h47 hown hext
                have Hsl := Lib.hid (slice_one s (i + 1) hlt2 ((i : Int) + 1) ((i : Int) + 1 + 1) (by omega) (by omega))
                clear hext2
                generalize hd : s[i + 1]'hlt2 = d at *
                clear hd
                have Hc := Lib.hid (add_cells_id (d) hkd)
                have Hdn := Lib.hid (add_sizes st (d)).1
                have Hk := Lib.hid hkd
                have Hka := Lib.hid (add_kind st (d))
                clear hkd
                by_cases hn : 20 < st.done.length + 1
                · go_wp2_with fail
                  refine wp_region_still_tail 10 (by kernel_rfl) (by kernel_rfl) ?_
                  simp only [List.take_succ_cons, List.take_zero, List.drop_succ_cons, List.drop_zero]
                  change wpStill _ _ wr.drew _ _ _
                  have w1 : IntKind.i64.wrap ((i : Int) + 1) = (i : Int) + 1 := IntWalk.i64_in _ (by omega)
                  have w2 : IntKind.i64.wrap ((i : Int) + 1 + 1) = (i : Int) + 1 + 1 := IntWalk.i64_in _ (by omega)
                  have w3 : ((i : Int) + 1).toNat = i + 1 := by omega
                  have w4 : ((i : Int) + 1 + 1).toNat = i + 1 + 1 := by omega
                  have w5 : (0 : Int) ≤ (i : Int) + 1 + 1 := by omega
                  have hsl := Hsl.out
                  have hadd : ¬ 9223372036854775807 < st.cur.id.size + 1 := by omega
                  repeat still_step
                  refine wpStill_nil ?_
                  clear w1 w2 w3 w4 w5 hsl hadd
                  change wpList _ _ _ _ _ wr.drew
                  go_wp2
                  go_ret2
                  exact ⟨_, _, rfl, (hb.setCell (p := ⟨g, _, none⟩) hgb _).drew, .inr (.inl ⟨hle, leads_bad Hg.out.1 (.inl (by simp [PS.all]; omega)), rfl, rfl⟩)⟩
                · by_cases hf : 32 < st.cur.id.size + 1
                  · go_wp2_with fail
                    refine wp_region_still_tail 10 (by kernel_rfl) (by kernel_rfl) ?_
                    simp only [List.take_succ_cons, List.take_zero, List.drop_succ_cons, List.drop_zero]
                    change wpStill _ _ wr.drew _ _ _
                    have w1 : IntKind.i64.wrap ((i : Int) + 1) = (i : Int) + 1 := IntWalk.i64_in _ (by omega)
                    have w2 : IntKind.i64.wrap ((i : Int) + 1 + 1) = (i : Int) + 1 + 1 := IntWalk.i64_in _ (by omega)
                    have w3 : ((i : Int) + 1).toNat = i + 1 := by omega
                    have w4 : ((i : Int) + 1 + 1).toNat = i + 1 + 1 := by omega
                    have w5 : (0 : Int) ≤ (i : Int) + 1 + 1 := by omega
                    have hsl := Hsl.out
                    have hadd : ¬ 9223372036854775807 < st.cur.id.size + 1 := by omega
                    repeat still_step
                    refine wpStill_nil ?_
                    clear w1 w2 w3 w4 w5 hsl hadd
                    change wpList _ _ _ _ _ wr.drew
                    go_wp2
                    go_ret2
                    exact ⟨_, _, rfl, (hb.setCell (p := ⟨g, _, none⟩) hgb _).drew, .inr (.inl ⟨hle, leads_bad Hg2.out.1 (bad_field0 (d) Hk.out (by omega)), rfl, rfl⟩)⟩
                  · go_wp2_with fail
                    refine wp_region_still_tail 10 (by kernel_rfl) (by kernel_rfl) ?_
                    simp only [List.take_succ_cons, List.take_zero, List.drop_succ_cons, List.drop_zero]
                    change wpStill _ _ wr.drew _ _ _
                    have w1 : IntKind.i64.wrap ((i : Int) + 1) = (i : Int) + 1 := IntWalk.i64_in _ (by omega)
                    have w2 : IntKind.i64.wrap ((i : Int) + 1 + 1) = (i : Int) + 1 + 1 := IntWalk.i64_in _ (by omega)
                    have w3 : ((i : Int) + 1).toNat = i + 1 := by omega
                    have w4 : ((i : Int) + 1 + 1).toNat = i + 1 + 1 := by omega
                    have w5 : (0 : Int) ≤ (i : Int) + 1 + 1 := by omega
                    have hsl := Hsl.out
                    have hadd : ¬ 9223372036854775807 < st.cur.id.size + 1 := by omega
                    repeat still_step
                    refine wpStill_nil ?_
                    clear w1 w2 w3 w4 w5 hsl hadd
                    change wpList _ _ _ _ _ wr.drew
                    go_wp2
                    go_roundw
                    case rel => exact ⟨st.add (d), i + 1 + 1, g, cap, by omega, by go_num, by rw [Hdn.out], by rw [fieldAt_f (Hka.out.trans Hk.out), Hdn.out], by rw [Hc.out, Hdn.out]; exact (S0.out _).1, Hg2.out, (hb.setCell (p := ⟨g, _, none⟩) hgb _).drew⟩
                    case measure => simp [intOf]; omega
              · have Hg2 := Lib.hid (pgood_other Hg.out hlt h47 (fun h => h46 h.1) (fun h => Nat.le_of_not_lt fun h' => h92 ⟨h, h'⟩))
                have hor : (((s[i]'hlt).toNat : Int) == 92) = false ∨ (((s[i]'hlt).toNat : Int) = 92 ∧ decide ((i : Int) + 1 < (s.size : Int)) = false) := by
                  by_cases h : s[i]'hlt = 92
                  · exact .inr ⟨by rw [h]; rfl, decide_eq_false (by intro h'; exact h92 ⟨h, by omega⟩)⟩
                  · exact .inl (u8_ne h)
                clear h92 h46 h47 hown
                rcases hor with e92 | ⟨e92, e1⟩
                all_goals
                  have Hc := Lib.hid (add_cells_id (s[i]'hlt) hkd)
                  have Hdn := Lib.hid (add_sizes st (s[i]'hlt)).1
                  have Hk := Lib.hid hkd
                  have Hka := Lib.hid (add_kind st (s[i]'hlt))
                  clear hkd
                  by_cases hn : 20 < st.done.length + 1
                  · go_wp2_with fail
                    refine wp_region_still_tail 10 (by kernel_rfl) (by kernel_rfl) ?_
                    simp only [List.take_succ_cons, List.take_zero, List.drop_succ_cons, List.drop_zero]
                    change wpStill _ _ wr.drew _ _ _
                    have w1 : IntKind.i64.wrap ((i : Int) + 1) = (i : Int) + 1 := IntWalk.i64_in _ (by omega)
                    have w2 : IntKind.i64.wrap ((i : Int) + 1 + 1) = (i : Int) + 1 + 1 := IntWalk.i64_in _ (by omega)
                    have w3 : ((i : Int) + 1).toNat = i + 1 := by omega
                    have w4 : ((i : Int) + 1 + 1).toNat = i + 1 + 1 := by omega
                    have w5 : (0 : Int) ≤ (i : Int) + 1 + 1 := by omega
                    have hsl := slice_one s i hlt _ _ rfl rfl
                    have hadd : ¬ 9223372036854775807 < st.cur.id.size + 1 := by omega
                    repeat still_step
                    refine wpStill_nil ?_
                    clear w1 w2 w3 w4 w5 hsl hadd
                    change wpList _ _ _ _ _ wr.drew
                    go_wp2
                    go_ret2
                    exact ⟨_, _, rfl, (hb.setCell (p := ⟨g, _, none⟩) hgb _).drew, .inr (.inl ⟨hle, leads_bad Hg.out.1 (.inl (by simp [PS.all]; omega)), rfl, rfl⟩)⟩
                  · by_cases hf : 32 < st.cur.id.size + 1
                    · go_wp2_with fail
                      refine wp_region_still_tail 10 (by kernel_rfl) (by kernel_rfl) ?_
                      simp only [List.take_succ_cons, List.take_zero, List.drop_succ_cons, List.drop_zero]
                      change wpStill _ _ wr.drew _ _ _
                      have w1 : IntKind.i64.wrap ((i : Int) + 1) = (i : Int) + 1 := IntWalk.i64_in _ (by omega)
                      have w2 : IntKind.i64.wrap ((i : Int) + 1 + 1) = (i : Int) + 1 + 1 := IntWalk.i64_in _ (by omega)
                      have w3 : ((i : Int) + 1).toNat = i + 1 := by omega
                      have w4 : ((i : Int) + 1 + 1).toNat = i + 1 + 1 := by omega
                      have w5 : (0 : Int) ≤ (i : Int) + 1 + 1 := by omega
                      have hsl := slice_one s i hlt _ _ rfl rfl
                      have hadd : ¬ 9223372036854775807 < st.cur.id.size + 1 := by omega
                      repeat still_step
                      refine wpStill_nil ?_
                      clear w1 w2 w3 w4 w5 hsl hadd
                      change wpList _ _ _ _ _ wr.drew
                      go_wp2
                      go_ret2
                      exact ⟨_, _, rfl, (hb.setCell (p := ⟨g, _, none⟩) hgb _).drew, .inr (.inl ⟨hle, leads_bad Hg2.out.1 (bad_field0 (s[i]'hlt) Hk.out (by omega)), rfl, rfl⟩)⟩
                    · go_wp2_with fail
                      refine wp_region_still_tail 10 (by kernel_rfl) (by kernel_rfl) ?_
                      simp only [List.take_succ_cons, List.take_zero, List.drop_succ_cons, List.drop_zero]
                      change wpStill _ _ wr.drew _ _ _
                      have w1 : IntKind.i64.wrap ((i : Int) + 1) = (i : Int) + 1 := IntWalk.i64_in _ (by omega)
                      have w2 : IntKind.i64.wrap ((i : Int) + 1 + 1) = (i : Int) + 1 + 1 := IntWalk.i64_in _ (by omega)
                      have w3 : ((i : Int) + 1).toNat = i + 1 := by omega
                      have w4 : ((i : Int) + 1 + 1).toNat = i + 1 + 1 := by omega
                      have w5 : (0 : Int) ≤ (i : Int) + 1 + 1 := by omega
                      have hsl := slice_one s i hlt _ _ rfl rfl
                      have hadd : ¬ 9223372036854775807 < st.cur.id.size + 1 := by omega
                      repeat still_step
                      refine wpStill_nil ?_
                      clear w1 w2 w3 w4 w5 hsl hadd
                      change wpList _ _ _ _ _ wr.drew
                      go_wp2
                      go_roundw
                      case rel => exact ⟨st.add (s[i]'hlt), i + 1, g, cap, by omega, by go_num, by rw [Hdn.out], by rw [fieldAt_f (Hka.out.trans Hk.out), Hdn.out], by rw [Hc.out, Hdn.out]; exact (S0.out _).1, Hg2.out, (hb.setCell (p := ⟨g, _, none⟩) hgb _).drew⟩
                      case measure => simp [intOf]; omega
          | true =>
            have hp := run_eql_ptr_other (P := Try.prog) wr (a := ⟨g, st.done.length * 2 + 1, none⟩) (b := ⟨g, st.done.length * 2, none⟩) Try.underlying46 hjs (by rw [hjz]; decide) (by intro h; injection h with _ h; omega) Hh.out Hh.out
            rw [fieldAt_t hkd]
            by_cases h92 : s[i]'hlt = 92 ∧ i + 1 < s.size
            · have hlt2 : i + 1 < s.size := h92.2
              have e92 : ((s[i]'hlt).toNat : Int) = 92 := by rw [h92.1]; rfl
              have hext2 := extract_one s (i + 1) hlt2
              unfold ofL at hext2
              have Hg2 := Lib.hid (pgood_back Hg.out hlt2 h92.1)
              clear h92 h47 hown hext
              have Hsl := Lib.hid (slice_one s (i + 1) hlt2 ((i : Int) + 1) ((i : Int) + 1 + 1) (by omega) (by omega))
              clear hext2
              generalize hd : s[i + 1]'hlt2 = d at *
              clear hd
              have Hc := Lib.hid (add_cells_kind (d) hkd)
              have Hdn := Lib.hid (add_sizes st (d)).1
              have Hk := Lib.hid hkd
              have Hka := Lib.hid (add_kind st (d))
              clear hkd
              by_cases hn : 20 < st.done.length + 1
              · go_wp2_with fail
                refine wp_region_still_tail 10 (by kernel_rfl) (by kernel_rfl) ?_
                simp only [List.take_succ_cons, List.take_zero, List.drop_succ_cons, List.drop_zero]
                change wpStill _ _ wr.drew _ _ _
                have w1 : IntKind.i64.wrap ((i : Int) + 1) = (i : Int) + 1 := IntWalk.i64_in _ (by omega)
                have w2 : IntKind.i64.wrap ((i : Int) + 1 + 1) = (i : Int) + 1 + 1 := IntWalk.i64_in _ (by omega)
                have w3 : ((i : Int) + 1).toNat = i + 1 := by omega
                have w4 : ((i : Int) + 1 + 1).toNat = i + 1 + 1 := by omega
                have w5 : (0 : Int) ≤ (i : Int) + 1 + 1 := by omega
                have hsl := Hsl.out
                have hadd : ¬ 9223372036854775807 < st.cur.kind.size + 1 := by omega
                repeat still_step
                refine wpStill_nil ?_
                clear w1 w2 w3 w4 w5 hsl hadd
                change wpList _ _ _ _ _ wr.drew
                go_wp2
                go_ret2
                exact ⟨_, _, rfl, (hb.setCell (p := ⟨g, _, none⟩) hgb _).drew, .inr (.inl ⟨hle, leads_bad Hg.out.1 (.inl (by simp [PS.all]; omega)), rfl, rfl⟩)⟩
              · by_cases hf : 32 < st.cur.kind.size + 1
                · go_wp2_with fail
                  refine wp_region_still_tail 10 (by kernel_rfl) (by kernel_rfl) ?_
                  simp only [List.take_succ_cons, List.take_zero, List.drop_succ_cons, List.drop_zero]
                  change wpStill _ _ wr.drew _ _ _
                  have w1 : IntKind.i64.wrap ((i : Int) + 1) = (i : Int) + 1 := IntWalk.i64_in _ (by omega)
                  have w2 : IntKind.i64.wrap ((i : Int) + 1 + 1) = (i : Int) + 1 + 1 := IntWalk.i64_in _ (by omega)
                  have w3 : ((i : Int) + 1).toNat = i + 1 := by omega
                  have w4 : ((i : Int) + 1 + 1).toNat = i + 1 + 1 := by omega
                  have w5 : (0 : Int) ≤ (i : Int) + 1 + 1 := by omega
                  have hsl := Hsl.out
                  have hadd : ¬ 9223372036854775807 < st.cur.kind.size + 1 := by omega
                  repeat still_step
                  refine wpStill_nil ?_
                  clear w1 w2 w3 w4 w5 hsl hadd
                  change wpList _ _ _ _ _ wr.drew
                  go_wp2
                  go_ret2
                  exact ⟨_, _, rfl, (hb.setCell (p := ⟨g, _, none⟩) hgb _).drew, .inr (.inl ⟨hle, leads_bad Hg2.out.1 (bad_field1 (d) Hk.out (by omega)), rfl, rfl⟩)⟩
                · go_wp2_with fail
                  refine wp_region_still_tail 10 (by kernel_rfl) (by kernel_rfl) ?_
                  simp only [List.take_succ_cons, List.take_zero, List.drop_succ_cons, List.drop_zero]
                  change wpStill _ _ wr.drew _ _ _
                  have w1 : IntKind.i64.wrap ((i : Int) + 1) = (i : Int) + 1 := IntWalk.i64_in _ (by omega)
                  have w2 : IntKind.i64.wrap ((i : Int) + 1 + 1) = (i : Int) + 1 + 1 := IntWalk.i64_in _ (by omega)
                  have w3 : ((i : Int) + 1).toNat = i + 1 := by omega
                  have w4 : ((i : Int) + 1 + 1).toNat = i + 1 + 1 := by omega
                  have w5 : (0 : Int) ≤ (i : Int) + 1 + 1 := by omega
                  have hsl := Hsl.out
                  have hadd : ¬ 9223372036854775807 < st.cur.kind.size + 1 := by omega
                  repeat still_step
                  refine wpStill_nil ?_
                  clear w1 w2 w3 w4 w5 hsl hadd
                  change wpList _ _ _ _ _ wr.drew
                  go_wp2
                  go_roundw
                  case rel => exact ⟨st.add (d), i + 1 + 1, g, cap, by omega, by go_num, by rw [Hdn.out], by rw [fieldAt_t (Hka.out.trans Hk.out), Hdn.out], by rw [Hc.out, Hdn.out]; exact (S1.out _).1, Hg2.out, (hb.setCell (p := ⟨g, _, none⟩) hgb _).drew⟩
                  case measure => simp [intOf]; omega
            · have Hg2 := Lib.hid (pgood_other Hg.out hlt h47 (fun h => absurd (hkd.symm.trans h.2) (by decide)) (fun h => Nat.le_of_not_lt fun h' => h92 ⟨h, h'⟩))
              have hor : ((((s[i]'hlt).toNat : Int) == 46) = false ∧ (((s[i]'hlt).toNat : Int) == 92) = false) ∨ ((s[i]'hlt).toNat : Int) = 46 ∨ ((((s[i]'hlt).toNat : Int) == 46) = false ∧ ((s[i]'hlt).toNat : Int) = 92 ∧ decide ((i : Int) + 1 < (s.size : Int)) = false) := by
                by_cases h46 : s[i]'hlt = 46
                · exact .inr (.inl (by rw [h46]; rfl))
                · by_cases h : s[i]'hlt = 92
                  · exact .inr (.inr ⟨u8_ne h46, by rw [h]; rfl, decide_eq_false (by intro h'; exact h92 ⟨h, by omega⟩)⟩)
                  · exact .inl ⟨u8_ne h46, u8_ne h⟩
              clear h92 h47 hown
              rcases hor with ⟨e46, e92⟩ | e46 | ⟨e46, e92, e1⟩
              all_goals
                have Hc := Lib.hid (add_cells_kind (s[i]'hlt) hkd)
                have Hdn := Lib.hid (add_sizes st (s[i]'hlt)).1
                have Hk := Lib.hid hkd
                have Hka := Lib.hid (add_kind st (s[i]'hlt))
                clear hkd
                by_cases hn : 20 < st.done.length + 1
                · go_wp2_with fail
                  refine wp_region_still_tail 10 (by kernel_rfl) (by kernel_rfl) ?_
                  simp only [List.take_succ_cons, List.take_zero, List.drop_succ_cons, List.drop_zero]
                  change wpStill _ _ wr.drew _ _ _
                  have w1 : IntKind.i64.wrap ((i : Int) + 1) = (i : Int) + 1 := IntWalk.i64_in _ (by omega)
                  have w2 : IntKind.i64.wrap ((i : Int) + 1 + 1) = (i : Int) + 1 + 1 := IntWalk.i64_in _ (by omega)
                  have w3 : ((i : Int) + 1).toNat = i + 1 := by omega
                  have w4 : ((i : Int) + 1 + 1).toNat = i + 1 + 1 := by omega
                  have w5 : (0 : Int) ≤ (i : Int) + 1 + 1 := by omega
                  have hsl := slice_one s i hlt _ _ rfl rfl
                  have hadd : ¬ 9223372036854775807 < st.cur.kind.size + 1 := by omega
                  repeat still_step
                  refine wpStill_nil ?_
                  clear w1 w2 w3 w4 w5 hsl hadd
                  change wpList _ _ _ _ _ wr.drew
                  go_wp2
                  go_ret2
                  exact ⟨_, _, rfl, (hb.setCell (p := ⟨g, _, none⟩) hgb _).drew, .inr (.inl ⟨hle, leads_bad Hg.out.1 (.inl (by simp [PS.all]; omega)), rfl, rfl⟩)⟩
                · by_cases hf : 32 < st.cur.kind.size + 1
                  · go_wp2_with fail
                    refine wp_region_still_tail 10 (by kernel_rfl) (by kernel_rfl) ?_
                    simp only [List.take_succ_cons, List.take_zero, List.drop_succ_cons, List.drop_zero]
                    change wpStill _ _ wr.drew _ _ _
                    have w1 : IntKind.i64.wrap ((i : Int) + 1) = (i : Int) + 1 := IntWalk.i64_in _ (by omega)
                    have w2 : IntKind.i64.wrap ((i : Int) + 1 + 1) = (i : Int) + 1 + 1 := IntWalk.i64_in _ (by omega)
                    have w3 : ((i : Int) + 1).toNat = i + 1 := by omega
                    have w4 : ((i : Int) + 1 + 1).toNat = i + 1 + 1 := by omega
                    have w5 : (0 : Int) ≤ (i : Int) + 1 + 1 := by omega
                    have hsl := slice_one s i hlt _ _ rfl rfl
                    have hadd : ¬ 9223372036854775807 < st.cur.kind.size + 1 := by omega
                    repeat still_step
                    refine wpStill_nil ?_
                    clear w1 w2 w3 w4 w5 hsl hadd
                    change wpList _ _ _ _ _ wr.drew
                    go_wp2
                    go_ret2
                    exact ⟨_, _, rfl, (hb.setCell (p := ⟨g, _, none⟩) hgb _).drew, .inr (.inl ⟨hle, leads_bad Hg2.out.1 (bad_field1 (s[i]'hlt) Hk.out (by omega)), rfl, rfl⟩)⟩
                  · go_wp2_with fail
                    refine wp_region_still_tail 10 (by kernel_rfl) (by kernel_rfl) ?_
                    simp only [List.take_succ_cons, List.take_zero, List.drop_succ_cons, List.drop_zero]
                    change wpStill _ _ wr.drew _ _ _
                    have w1 : IntKind.i64.wrap ((i : Int) + 1) = (i : Int) + 1 := IntWalk.i64_in _ (by omega)
                    have w2 : IntKind.i64.wrap ((i : Int) + 1 + 1) = (i : Int) + 1 + 1 := IntWalk.i64_in _ (by omega)
                    have w3 : ((i : Int) + 1).toNat = i + 1 := by omega
                    have w4 : ((i : Int) + 1 + 1).toNat = i + 1 + 1 := by omega
                    have w5 : (0 : Int) ≤ (i : Int) + 1 + 1 := by omega
                    have hsl := slice_one s i hlt _ _ rfl rfl
                    have hadd : ¬ 9223372036854775807 < st.cur.kind.size + 1 := by omega
                    repeat still_step
                    refine wpStill_nil ?_
                    clear w1 w2 w3 w4 w5 hsl hadd
                    change wpList _ _ _ _ _ wr.drew
                    go_wp2
                    go_roundw
                    case rel => exact ⟨st.add (s[i]'hlt), i + 1, g, cap, by omega, by go_num, by rw [Hdn.out], by rw [fieldAt_t (Hka.out.trans Hk.out), Hdn.out], by rw [Hc.out, Hdn.out]; exact (S1.out _).1, Hg2.out, (hb.setCell (p := ⟨g, _, none⟩) hgb _).drew⟩
                    case measure => simp [intOf]; omega
      · have hge : s.size ≤ i := by omega
        have Hg := Lib.hid hg
        have hln : st.all.length ≤ 100000 := by have := hg.2.1; simp [PS.all]; omega
        have hal : st.done.length + 1 = st.all.length := by simp [PS.all]
        rw [hal] at hown ⊢
        obtain ⟨A, c, hvv, hcs⟩ := comps_of_own hown (by omega)
        rw [hvv]
        clear hvv hal
        have hz := hb.size
        clear hown hg
        have cv := fun W h => valid_any A st.all.length c st.all W h
        cases hv : valid st.all with
        | false =>
          have hp := leads_no Hg.out.1 hge hv
          have Hp := Lib.hid hp
          rw [hv] at cv
          clear hp hv
          go_wp2_with (go_at_call 9; refine (cv _ hcs).mono ?_; rintro e w2 ⟨rfl, hb2⟩)
          go_ret2
          exact ⟨_, _, rfl, hb.trans (hb2.mono hz), .inr (.inl ⟨hle, Hp.out, rfl, rfl⟩)⟩
        | true =>
          have hvs := valid_sizes hv
          have ct := fun W h => text_any A st.all.length c st.all W h (by have := hvs.1; omega) (fun c hc => ⟨by have := (hvs.2 c hc).1; omega, by have := (hvs.2 c hc).2; omega⟩)
          have Hv := Lib.hid hv
          rw [hv] at cv
          clear hvs hv
          by_cases hts : ofL (textL st.all) = s
          · have hp := leads_yes Hg.out.1 hge Hv.out hts
            have Hp := Lib.hid hp
            rw [hts] at ct
            clear hp hts
            go_wp2_with (first
              | (go_at_call 9; refine (cv _ hcs).mono ?_; rintro e w2 ⟨rfl, hb2⟩)
              | (go_at_call 17; refine (ct _ (hcs.below hb2)).mono ?_; rintro e w3 ⟨rfl, hb3⟩))
            go_ret2
            exact ⟨_, _, rfl, (hb.trans (hb2.mono hz)).trans (hb3.mono (by have := hb2.size; omega)), .inr (.inr ⟨hle, _, _, _, Hp.out, rfl, (hcs.below hb2).below hb3, rfl⟩)⟩
          · have hp := leads_ne Hg.out.1 hge hts
            have Hp := Lib.hid hp
            have hne := str_ne hts
            clear hp hts
            generalize ofL (textL st.all) = tx at *
            go_wp2_with (first
              | (go_at_call 9; refine (cv _ hcs).mono ?_; rintro e w2 ⟨rfl, hb2⟩)
              | (go_at_call 17; refine (ct _ (hcs.below hb2)).mono ?_; rintro e w3 ⟨rfl, hb3⟩))
            go_ret2
            exact ⟨_, _, rfl, (hb.trans (hb2.mono hz)).trans (hb3.mono (by have := hb2.size; omega)), .inr (.inl ⟨hle, Hp.out, rfl, rfl⟩)⟩
end Go.Proofs.Ytmdolkkpoeoomaa
