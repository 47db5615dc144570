/- Walks: the reference's components, names and order. -/
import Derived.Test.YtmdolkkpoeoomaaNmB
namespace Go.Proofs.Ytmdolkkpoeoomaa
open Go.RowKit NmX

theorem refPart_any (c : Comp) (w : World) :
    Calls Try.prog 22 #[.agg #[.string c.id, .string c.kind]] w fun e w' => e = .returned (.bool (NmX.part c)) ∧ Below w.heap.size w w' := by
  go_enter Try.func22, Try.ntmps22
  go_wp2
  obtain ⟨W, hW, k0, k1, k2, k3, hB, hs⟩ : ∃ W : World, W = (w.alloc (.cells #[.string c.id, .string c.kind] 25)).alloc (.cells #[.string c.id, .string c.kind] 9) ∧ W.cell? ⟨w.heap.size, 0, none⟩ = some (.string c.id) ∧ W.cell? ⟨w.heap.size, 1, none⟩ = some (.string c.kind) ∧ W.cell? ⟨w.heap.size + 1, 0, none⟩ = some (.string c.id) ∧ W.cell? ⟨w.heap.size + 1, 1, none⟩ = some (.string c.kind) ∧ Below w.heap.size w W ∧ w.heap.size ≤ W.heap.size :=
    ⟨_, rfl, by simp, by simp, by simp, by simp, ((Below.refl _ w).alloc (Nat.le_refl _) _).alloc (by simp) _, by simp; omega⟩
  rw [← hW]
  clear hW
  go_loop [12] (fun t => ∃ k : Nat, k ≤ 2 ∧ t = .int .i64 k ∧ (1 ≤ k → okS c.id = true) ∧ (2 ≤ k → okS c.kind = true)) (fun t => 2 - (intOf t).toNat)
  case atStart => exact ⟨0, by omega, rfl, by omega, by omega⟩
  case round =>
    obtain ⟨k, hk, rfl, hi, hj⟩ := hrel
    by_cases h2 : k < 2
    · obtain ⟨s, hs, hs0, hs1⟩ : ∃ s, W.cell? ⟨w.heap.size + 1, k, none⟩ = some (.string s) ∧ (k = 0 → s = c.id) ∧ (k = 1 → s = c.kind) := by
        rcases (by omega : k = 0 ∨ k = 1) with rfl | rfl
        · exact ⟨_, k2, fun _ => rfl, by omega⟩
        · exact ⟨_, k3, by omega, fun _ => rfl⟩
      have hno : okS s = false → NmX.part c = false := by
        rcases (by omega : k = 0 ∨ k = 1) with rfl | rfl
        · rw [hs0 rfl]; exact part_no0
        · rw [hs1 rfl]; exact part_no1
      have hyes : okS s = true → (1 ≤ k + 1 → okS c.id = true) ∧ (2 ≤ k + 1 → okS c.kind = true) := by
        intro h
        rcases (by omega : k = 0 ∨ k = 1) with rfl | rfl
        · rw [hs0 rfl] at h; exact ⟨fun _ => h, by omega⟩
        · rw [hs1 rfl] at h; exact ⟨fun _ => hi (by omega), fun _ => h⟩
      clear hs0 hs1 hi hj k0 k1 k2 k3
      by_cases hl : 32 < s.size
      · go_wp2
        go_ret
        exact ⟨ret_b (hno (okS_no (.inl (by omega)))).symm, hB⟩
      · have hm : s.size ≤ 32 := by omega
        go_wp2
        go_loop [21] (fun t => ∃ j : Nat, j ≤ s.size ∧ t = .int .i64 j ∧ OkTo s j) (fun t => s.size - (intOf t).toNat)
        case atStart => exact ⟨0, by omega, rfl, okTo_zero _⟩
        case round =>
          obtain ⟨j, hj, rfl, ho⟩ := hrel
          by_cases hlt : j < s.size
          · go_wp2
            · go_ret
              exact ⟨ret_b (hno (okTo_no hlt (by assumption))).symm, hB⟩
            · go_round
              case rel =>
                rename_i h
                exact ⟨j + 1, by omega, by go_num, okTo_succ ho hlt (by omega) (by omega)⟩
              case measure => simp [intOf]; omega
            · go_ret
              exact ⟨ret_b (hno (okTo_no hlt (.inl (by assumption)))).symm, hB⟩
          · go_wp2
            go_round
            case rel => exact ⟨k + 1, by omega, by go_num, hyes (okTo_all ho (by omega) hm)⟩
            case measure => simp [intOf]; omega
    · have hkk : k = 2 := by omega
      subst hkk
      have hp := part_rest (hi (by omega)) (hj (by omega))
      rw [noComp_dec] at hp
      have Hp := Lib.hid hp
      clear hi hj hp h2
      go_wp2
      all_goals go_ret
      all_goals refine ⟨ret_b ?_, hB⟩
      all_goals rw [Hp.out]
      · have h : c.id.toList = [] := by assumption
        rw [← emptyS_dec, ← emptyS_dec, h]
        simp
      · have h : ¬ c.id.toList = [] := by assumption
        rw [← emptyS_dec]
        simp [h]

theorem refValid_any (A : Option Addr) (n cap : Nat) (xs : List Comp) (w : World) (h : Comps w A n xs) :
    Calls Try.prog 10 #[.slice A n cap] w fun e w' => e = .returned (.bool (NmX.valid xs)) ∧ Below w.heap.size w w' := by
  have hl := h.1
  have hm := h.2.1
  have Hl := Lib.hid hl
  clear hl
  go_enter Try.func10, Try.ntmps10
  go_wp2
  go_loopw [7] (fun t wr => ∃ k : Nat, k ≤ n ∧ t = .int .i64 k ∧ AllPart xs k ∧ Below w.heap.size w wr) (fun t _ => n - (intOf t).toNat)
  case atStart => exact ⟨0, by omega, rfl, allPart_zero _, Below.refl _ _⟩
  case round =>
    obtain ⟨k, hk, rfl, ha, hb⟩ := hrel
    by_cases hlt : k < n
    · obtain ⟨c, ad, hc, rfl, h1, h2⟩ := (h.below hb).at_ hlt
      have Hc := Lib.hid hc
      clear hc h
      go_wp2_with (go_at_call 22; refine (refPart_any c _).mono ?_; rintro e w' ⟨rfl, hb'⟩)
      · go_ret
        have hx : Below w.heap.size w w' := (hb.alloc hb.size _).trans (hb'.mono (by have := hb.size; simp; omega))
        refine ⟨ret_b ?_, hx⟩
        have hp : NmX.part c = false := bnt (by assumption)
        rw [valid_eq, allPart_no Hc.out hp, Bool.and_false]
      · go_roundw
        case rel => exact ⟨k + 1, by omega, by go_num, allPart_succ ha Hc.out (bnf (by assumption)), (hb.alloc hb.size _).trans (hb'.mono (by have := hb.size; simp; omega))⟩
        case measure => simp [intOf]; omega
    · have hall := allPart_all ha (by rw [h.1]; omega)
      have Hall := Lib.hid hall
      have hl' : xs.length = n := h.1
      clear hall ha h
      have Hl' := Lib.hid hl'
      clear hl'
      by_cases h1 : 1 ≤ n
      · go_wp2
        go_ret
        exact ⟨ret_b (by rw [valid_eq, Hall.out, Hl'.out]; simp [h1]; try omega), hb⟩
      · go_wp2
        go_ret
        exact ⟨ret_b (by rw [valid_eq, Hall.out, Hl'.out]; simp [h1]; try omega), hb⟩

theorem sameName_any (A B : Option Addr) (n m c d : Nat) (xs ys : List Comp) (w : World) (hx : Comps w A n xs) (hy : Comps w B m ys) :
    Calls Try.prog 11 #[.slice A n c, .slice B m d] w fun e w' => e = .returned (.bool (decide (xs = ys))) ∧ Below w.heap.size w w' := by
  have hlx := Lib.hid hx.1
  have hly := Lib.hid hy.1
  have hmx := hx.2.1
  by_cases hnm : n = m
  · subst hnm
    go_enter Try.func11, Try.ntmps11
    go_wp2
    go_loopw [13] (fun t wr => ∃ k : Nat, k ≤ n ∧ t = .int .i64 k ∧ SameTo xs ys k ∧ Below w.heap.size w wr) (fun t _ => n - (intOf t).toNat)
    case atStart => exact ⟨0, Nat.zero_le _, rfl, sameTo_zero _ _, Below.refl _ _⟩
    case round =>
      obtain ⟨k, hk, rfl, hs, hb⟩ := hrel
      by_cases hlt : k < n
      · obtain ⟨p, ad, hp, rfl, h1, h2⟩ := (hx.below hb).at_ hlt
        obtain ⟨q, ad', hq, rfl, h3, h4⟩ := (hy.below hb).at_ hlt
        have Hp := Lib.hid hp
        have Hq := Lib.hid hq
        have hn := fun W => neq_comp p q W
        clear hx hy hp hq
        go_wp2
        go_quiet (fail)
        go_wp2
        · go_ret
          exact ⟨ret_b (sameTo_no Hp.out Hq.out (by simpa using (by assumption : (!decide (p = q)) = true))).symm, pw_drewN hb _⟩
        · go_roundw
          case rel => exact ⟨k + 1, by omega, by go_num, sameTo_succ hs Hp.out Hq.out (by simpa using (by assumption : (!decide (p = q)) = false)), pw_drewN hb _⟩
          case measure => simp [intOf]; omega
      · have hz := sameTo_all hs (by rw [hlx.out]; omega) (by rw [hly.out]; omega)
        have Hz := Lib.hid hz
        clear hz hs hx hy
        go_wp2
        go_ret
        exact ⟨ret_b Hz.out.symm, hb⟩
  · have hne : decide (xs = ys) = false := by
      rw [decide_eq_false_iff_not]
      rintro rfl
      exact hnm (hlx.out.symm.trans hly.out)
    have Hne := Lib.hid hne
    clear hne hx hy
    go_enter Try.func11, Try.ntmps11
    go_wp2
    go_ret
    exact ⟨ret_b Hne.out.symm, Below.refl _ _⟩
end Go.Proofs.Ytmdolkkpoeoomaa
