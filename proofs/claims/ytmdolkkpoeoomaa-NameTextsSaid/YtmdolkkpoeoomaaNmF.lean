/- Walks: reading a name's text, the reference's. -/
import Derived.Test.YtmdolkkpoeoomaaNmE
import Derived.Test.YtmdolkkpoeoomaaNmP
namespace Go.Proofs.Ytmdolkkpoeoomaa
open Go.RowKit NmX

theorem comp_info : (Try.prog.info? 25).map (fun i => (i.zero, i.size, i.bytes)) = some (some (.agg #[.string emptyS, .string emptyS]), 2, 32) := by kernel_rfl

/-- what reading a text comes to: the result's two parts -/
def ParsePost (s : ByteArray) (w : World) (e : Ending) (w' : World) : Prop :=
  ∃ v n, e = .returned (.tuple #[v, .int .i64 n]) ∧ Below w.heap.size w w' ∧
    ((65536 < s.size ∧ v = .slice none 0 0 ∧ n = 3) ∨
     (s.size ≤ 65536 ∧ parseX s = none ∧ v = .slice none 0 0 ∧ n = 2) ∨
     (s.size ≤ 65536 ∧ ∃ xs A c, parseX s = some xs ∧ v = .slice A xs.length c ∧ Comps w' A xs.length xs ∧ n = 0))

set_option maxRecDepth 100000 in
set_option maxHeartbeats 2000000 in
theorem refParse_any (s : ByteArray) (w : World) (hm : s.size ≤ 140737488355328) :
    Calls Try.prog 8 #[.string s] w (ParsePost s w) := by
  obtain ⟨i0, hi, hz0, hz1, hz2⟩ := info_parts comp_info
  by_cases hlong : 65536 < s.size
  · go_enter Try.func8, Try.ntmps8
    go_wp2
    go_ret2
    exact ⟨_, _, rfl, Below.refl _ _, .inl ⟨hlong, rfl, rfl⟩⟩
  · have hle : s.size ≤ 65536 := by omega
    clear hlong
    go_enter Try.func8, Try.ntmps8
    go_wp2
    have hown0 := World.ownsRow_lit (base := w.heap.size) (e := 25) (size := 2) w #[.string ⟨#[]⟩, .string ⟨#[]⟩] 1 (Nat.le_refl _) (by unfold maxLen; omega) rfl
    go_loopw [4, 5, 6] (fun v q t wr => ∃ (st : PS) (i : Nat), i ≤ s.size ∧ t = .int .i64 i ∧ q = .bool st.kind ∧ wr.ownsRow w.heap.size 25 2 v st.all.length (compCells st.all) ∧ PGood s i st ∧ Below w.heap.size w wr) (fun _ _ t _ => s.size - (intOf t).toNat)
    case atStart => exact ⟨PS.init, 0, by omega, rfl, rfl, hown0, pgood_init s, (Below.refl _ w).alloc (Nat.le_refl _) _⟩
    case round =>
      obtain ⟨st, i, hile, rfl, rfl, hown, hg, hb⟩ := hrel
      clear hown0
      by_cases hlt : i < s.size
      · have hext := extract_one s i hlt
        unfold ofL at hext
        obtain ⟨g, cap, hv⟩ : ∃ g cap, u4 = .slice (some ⟨g, 0, none⟩) (st.done.length + 1) cap := by
          rcases hown.2 with ⟨_, h0⟩ | ⟨g, cap, cur, hv, _⟩
          · simp [PS.all] at h0
          · exact ⟨g, cap, by simpa [PS.all] using hv⟩
        subst hv
        have Hg := Lib.hid hg
        have hgd : st.done.length ≤ i := hg.2.1
        have hla : st.all.length = st.done.length + 1 := by simp [PS.all]
        rw [hla] at hown
        have hz := hb.size
        clear hla hg
        by_cases h47 : s[i]'hlt = 47
        · have hcs : compCells st.slash.all = compCells st.all ++ [.string ⟨#[]⟩, .string ⟨#[]⟩] := by
            have : st.slash.all = st.all ++ [noComp] := rfl
            rw [this, compCells_append]; rfl
          have hsl : st.slash.all.length = st.done.length + 1 + 1 := by simp [PS.slash, PS.all]
          have Hsl := Lib.hid hsl
          have Hcs := Lib.hid hcs
          have H47 := Lib.hid h47
          rw [h47] at hext
          clear hcs h47 hsl
          generalize compCells st.all = L at *
          go_wp2_with (at_builtin; go_must (refine wpList_append_own _ rfl _ _ 22 rfl w.heap.size 25 i0 (.agg #[.string emptyS, .string emptyS]) 2 32 Try.underlying22 hi hz0 hz1 hz2 rfl (by decide) _ _ _ rfl (hown.alloc _) ⟨wr.heap.size, 0, none⟩ 1 1 [.string ⟨#[]⟩, .string ⟨#[]⟩] rfl rfl ?c1 ?c2 ?c3 ?c4 ?c5 ?_))
          case c1 => intro j u hj; match j, hj with | 0, hj => (simp at hj; subst hj; simp [Addr.add]) | 1, hj => (simp at hj; subst hj; simp [Addr.add])
          case c2 => intro u hu; simp at hu; subst hu; rfl
          case c3 => unfold maxLen; omega
          case c4 => omega
          case c5 => simp; omega
          intro v' w2 hown2 hgrow2 _
          have hB2 : Below w.heap.size w w2 := (hb.alloc hz _).grown hgrow2 (by simp; omega) (fun j hj => (hown.lt j hj).1)
          clear hown hgrow2
          go_wp2
          go_roundw
          case rel => exact ⟨st.slash, i + 1, by omega, by go_num, rfl, by rw [Hcs.out, Hsl.out]; exact hown2, pgood_slash Hg.out hlt H47.out, hB2⟩
          case measure => simp [intOf]; omega
        · by_cases h46 : s[i]'hlt = 46 ∧ st.kind = false
          · have hkf := h46.2
            have Hd := Lib.hid h46
            rw [h46.1] at hext
            clear h46 h47
            have hla : st.dot.all.length = st.done.length + 1 := by simp [PS.dot, PS.all]
            have hca : compCells st.dot.all = compCells st.all := rfl
            have Hla := Lib.hid hla
            have Hca := Lib.hid hca
            clear hla hca
            generalize compCells st.all = L at *
            go_wp2
            go_roundw
            case rel => exact ⟨st.dot, i + 1, by omega, by go_num, rfl, by rw [Hca.out, Hla.out]; exact hown, pgood_dot Hg.out hlt Hd.out.1 Hd.out.2, hb⟩
            case measure => simp [intOf]; omega
          · have k0 : wr.cell? ⟨g, st.done.length * 2, none⟩ = some (.string st.cur.id) := by rw [hown.cellAt _ (by omega)]; exact compCells_last0 st.done st.cur
            have k1 : wr.cell? ⟨g, st.done.length * 2 + 1, none⟩ = some (.string st.cur.kind) := by rw [hown.cellAt _ (by omega)]; exact compCells_last1 st.done st.cur
            have f0 := hown.frozenAt (st.done.length * 2)
            have f1 := hown.frozenAt (st.done.length * 2 + 1)
            have z0 : st.cur.id.size ≤ 65536 := by have := Hg.out.2.2.1; omega
            have z1 : st.cur.kind.size ≤ 65536 := by have := Hg.out.2.2.2; omega
            have hgb : w.heap.size ≤ g := (hown.lt g rfl).1
            have s0 := fun u => hown.stored (st.done.length * 2) u
            have s1 := fun u => hown.stored (st.done.length * 2 + 1) u
            have S0 := Lib.hid s0
            have S1 := Lib.hid s1
            clear s0 s1
            have e47 : (s[i]'hlt == 47) = false := by simpa using h47
            by_cases h92 : s[i]'hlt = 92 ∧ i + 1 < s.size
            · have hlt2 : i + 1 < s.size := h92.2
              have hext2 := extract_one s (i + 1) hlt2
              unfold ofL at hext2
              have hg2 := pgood_back Hg.out hlt2 h92.1
              have H92 := Lib.hid h92
              have e46 : (s[i]'hlt == 46) = false := by rw [h92.1]; rfl
              have e92 : (s[i]'hlt == 92) = true := by rw [h92.1]; rfl
              have Hg2 := Lib.hid hg2
              clear hg2 h92 h46 h47 hown
              cases hkd : st.kind with
              | true =>
                have Hc := Lib.hid (add_cells_kind (s[i + 1]'hlt2) hkd)
                have Hk := Lib.hid hkd
                clear hkd
                generalize compCells st.all = L at *
                generalize hd : s[i + 1]'hlt2 = d at *
                clear hd
                go_wp2
                go_roundw
                case rel => exact ⟨st.add d, i + 1 + 1, by omega, by go_num, by rw [add_kind, Hk.out], by rw [Hc.out, add_all_length]; exact (S1.out _).1, Hg2.out, hb.setCell (p := ⟨g, _, none⟩) hgb _⟩
                case measure => simp [intOf]; omega
              | false =>
                have Hc := Lib.hid (add_cells_id (s[i + 1]'hlt2) hkd)
                have Hk := Lib.hid hkd
                clear hkd
                generalize compCells st.all = L at *
                generalize hd : s[i + 1]'hlt2 = d at *
                clear hd
                go_wp2
                go_roundw
                case rel => exact ⟨st.add d, i + 1 + 1, by omega, by go_num, by rw [add_kind, Hk.out], by rw [Hc.out, add_all_length]; exact (S0.out _).1, Hg2.out, hb.setCell (p := ⟨g, _, none⟩) hgb _⟩
                case measure => simp [intOf]; omega
            · have hg2 := pgood_other Hg.out hlt h47 h46 (fun h => Nat.le_of_not_lt fun h' => h92 ⟨h, h'⟩)
              have Hg2 := Lib.hid hg2
              have hor : (s[i]'hlt == 92) = false ∨ ((s[i]'hlt == 92) = true ∧ decide ((i : Int) + 1 < (s.size : Int)) = false) := by
                by_cases h : s[i]'hlt = 92
                · exact .inr ⟨by simpa using h, decide_eq_false (by intro h'; exact h92 ⟨h, by omega⟩)⟩
                · exact .inl (by simpa using h)
              cases hkd : st.kind with
              | true =>
                have Hc := Lib.hid (add_cells_kind (s[i]'hlt) hkd)
                have Hk := Lib.hid hkd
                clear hg2 h92 h46 h47 hown hkd
                generalize compCells st.all = L at *
                rcases hor with e92 | ⟨e92, e1⟩
                all_goals
                  cases e46 : (s[i]'hlt == 46)
                  all_goals
                    go_wp2
                    go_roundw
                    case rel => exact ⟨st.add (s[i]'hlt), i + 1, by omega, by go_num, by rw [add_kind, Hk.out], by rw [Hc.out, add_all_length]; exact (S1.out _).1, Hg2.out, hb.setCell (p := ⟨g, _, none⟩) hgb _⟩
                    case measure => simp [intOf]; omega
              | false =>
                have Hc := Lib.hid (add_cells_id (s[i]'hlt) hkd)
                have Hk := Lib.hid hkd
                have e46 : (s[i]'hlt == 46) = false := by
                  have : ¬ s[i]'hlt = 46 := fun h => h46 ⟨h, hkd⟩
                  simpa using this
                clear hg2 h92 h46 h47 hown hkd
                generalize compCells st.all = L at *
                rcases hor with e92 | ⟨e92, e1⟩
                all_goals
                  go_wp2
                  go_roundw
                  case rel => exact ⟨st.add (s[i]'hlt), i + 1, by omega, by go_num, by rw [add_kind, Hk.out], by rw [Hc.out, add_all_length]; exact (S0.out _).1, Hg2.out, hb.setCell (p := ⟨g, _, none⟩) hgb _⟩
                  case measure => simp [intOf]; omega
      · have hge : s.size ≤ i := by omega
        have Hg := Lib.hid hg
        have hln : st.all.length ≤ 100000 := by have := hg.2.1; simp [PS.all]; omega
        obtain ⟨A, c, rfl, hcs⟩ := comps_of_own hown (by omega)
        have hz := hb.size
        clear hown hg
        have cv := fun W h => refValid_any A st.all.length c st.all W h
        cases hv : valid st.all with
        | false =>
          have hp := leads_no Hg.out.1 hge hv
          have Hp := Lib.hid hp
          rw [hv] at cv
          clear hp hv
          go_wp2_with (go_at_call 10; refine (cv _ hcs).mono ?_; rintro e w2 ⟨rfl, hb2⟩)
          go_ret2
          exact ⟨_, _, rfl, hb.trans (hb2.mono hz), .inr (.inl ⟨hle, Hp.out, rfl, rfl⟩)⟩
        | true =>
          have hvs := valid_sizes hv
          have ct := fun W h => refText_any A st.all.length c st.all W h (by have := hvs.1; omega) (fun c hc => ⟨by have := (hvs.2 c hc).1; omega, by have := (hvs.2 c hc).2; omega⟩)
          have Hv := Lib.hid hv
          rw [hv] at cv
          clear hvs hv
          by_cases hts : ofL (textL st.all) = s
          · have hp := leads_yes Hg.out.1 hge Hv.out hts
            have Hp := Lib.hid hp
            rw [hts] at ct
            clear hp hts
            go_wp2_with (first
              | (go_at_call 10; refine (cv _ hcs).mono ?_; rintro e w2 ⟨rfl, hb2⟩)
              | (go_at_call 18; refine (ct _ (hcs.below hb2)).mono ?_; rintro e w3 ⟨rfl, hb3⟩))
            go_ret2
            exact ⟨_, _, rfl, (hb.trans (hb2.mono hz)).trans (hb3.mono (by have := hb2.size; omega)), .inr (.inr ⟨hle, _, _, _, Hp.out, rfl, (hcs.below hb2).below hb3, rfl⟩)⟩
          · have hp := leads_ne Hg.out.1 hge hts
            have Hp := Lib.hid hp
            have hne := str_ne hts
            clear hp hts
            generalize ofL (textL st.all) = tx at *
            go_wp2_with (first
              | (go_at_call 10; refine (cv _ hcs).mono ?_; rintro e w2 ⟨rfl, hb2⟩)
              | (go_at_call 18; refine (ct _ (hcs.below hb2)).mono ?_; rintro e w3 ⟨rfl, hb3⟩))
            go_ret2
            exact ⟨_, _, rfl, (hb.trans (hb2.mono hz)).trans (hb3.mono (by have := hb2.size; omega)), .inr (.inl ⟨hle, Hp.out, rfl, rfl⟩)⟩
end Go.Proofs.Ytmdolkkpoeoomaa
