/- Walks: valid names, equal names, the order of components. -/
import Derived.Test.YtmdolkkpoeoomaaNmA
import Derived.StillTailTactics
namespace Go.Proofs.Ytmdolkkpoeoomaa
open Go.RowKit NmX

theorem valid1_any (c : Comp) (w : World) :
    Calls Try.prog 20 #[.agg #[.string c.id, .string c.kind]] w fun e w' => e = .returned (.bool (!(NmX.part c))) ∧ Below w.heap.size w w' := by
  go_enter Try.func20, Try.ntmps20
  go_wp2_with (go_at_call 21; refine (part_any _ _).mono ?_; rintro e w' ⟨rfl, hb'⟩)
  go_ret
  exact ⟨rfl, ((Below.refl _ w).alloc (Nat.le_refl _) _).trans (hb'.mono (by simp))⟩

theorem indexFunc_any (A : Option Addr) (n cap : Nat) (xs : List Comp) (w : World) (h : Comps w A n xs) :
    Calls Try.prog 32 #[.slice A n cap, .func (.func 20) #[] #[]] w fun e w' => ∃ i, e = .returned (.int .i64 i) ∧ IdxPost xs i ∧ Below w.heap.size w w' := by
  have hm := h.2.1
  go_enter Try.func32, Try.ntmps32
  go_wp2
  go_loopw [8] (fun t wr => ∃ k : Nat, k ≤ n ∧ t = .int .i64 k ∧ AllPart xs k ∧ Below w.heap.size w wr) (fun t _ => n - (intOf t).toNat)
  case atStart => exact ⟨0, by omega, rfl, allPart_zero _, Below.refl _ _⟩
  case round =>
    obtain ⟨k, hk, rfl, ha, hb⟩ := hrel
    by_cases hlt : k < n
    · obtain ⟨c, ad, hc, rfl, h1, h2⟩ := (h.below hb).at_ hlt
      have Hc := Lib.hid hc
      clear hc h
      go_wp2_with (go_at_call 20; refine (valid1_any _ _).mono ?_; rintro e w' ⟨rfl, hb'⟩)
      · go_ret
        refine ⟨_, rfl, ?_, hb.trans (hb'.mono hb.size)⟩
        have hp : NmX.part c = false := bnt (by assumption)
        unfold IdxPost
        rw [allPart_no Hc.out hp]
        simp
      · go_roundw
        case rel => exact ⟨k + 1, by omega, by go_num, allPart_succ ha Hc.out (bnf (by assumption)), hb.trans (hb'.mono hb.size)⟩
        case measure => simp [intOf]; omega
    · go_wp2
      go_ret
      refine ⟨_, rfl, ?_, hb⟩
      unfold IdxPost
      rw [allPart_all ha (by rw [h.1]; omega)]
      rfl

theorem containsFunc_any (A : Option Addr) (n cap : Nat) (xs : List Comp) (w : World) (h : Comps w A n xs) :
    Calls Try.prog 19 #[.slice A n cap, .func (.func 20) #[] #[]] w fun e w' => e = .returned (.bool (!(xs.all NmX.part))) ∧ Below w.heap.size w w' := by
  go_enter Try.func19, Try.ntmps19
  go_wp2_with (go_at_call 32; refine (indexFunc_any _ _ _ xs _ h).mono ?_; rintro e w' ⟨i, rfl, hi, hb'⟩)
  go_ret
  exact ⟨ret_b hi, hb'⟩

theorem valid_any (A : Option Addr) (n cap : Nat) (xs : List Comp) (w : World) (h : Comps w A n xs) :
    Calls Try.prog 9 #[.slice A n cap] w fun e w' => e = .returned (.bool (NmX.valid xs)) ∧ Below w.heap.size w w' := by
  have hl := h.1
  have Hl := Lib.hid hl
  clear hl
  by_cases h1 : 1 ≤ n
  · by_cases h2 : n ≤ 20
    · go_enter Try.func9, Try.ntmps9
      go_wp2_with (go_at_call 19; refine (containsFunc_any _ _ _ xs _ h).mono ?_; rintro e w' ⟨rfl, hb'⟩)
      go_ret
      exact ⟨ret_b (by rw [NmX.valid_eq, Hl.out]; simp [h1, h2]), hb'⟩
    · go_enter Try.func9, Try.ntmps9
      go_wp2
      go_ret
      exact ⟨ret_b (by rw [NmX.valid_eq, Hl.out]; simp [h2]), Below.refl _ _⟩
  · go_enter Try.func9, Try.ntmps9
    go_wp2
    go_ret
    exact ⟨ret_b (by rw [NmX.valid_eq, Hl.out]; simp [h1]), Below.refl _ _⟩

theorem cmpOr_any (b : Nat) (x y : Int) (w : World) (h0 : w.cell? ⟨b, 0, none⟩ = some (.int .i64 x)) (h1 : w.cell? ⟨b, 1, none⟩ = some (.int .i64 y)) :
    Calls Try.prog 35 #[.slice (some ⟨b, 0, none⟩) 2 2] w fun e w' => e = .returned (.int .i64 (orI x y)) ∧ w = w' := by
  go_enter Try.func35, Try.ntmps35
  go_wp2
  go_loop [8] (fun t => ∃ k : Nat, k ≤ 2 ∧ t = .int .i64 k ∧ (1 ≤ k → x = 0) ∧ (2 ≤ k → y = 0)) (fun t => 2 - (intOf t).toNat)
  case atStart => exact ⟨0, by omega, rfl, by omega, by omega⟩
  case round =>
    obtain ⟨k, hk, rfl, hi, hj⟩ := hrel
    rcases (by omega : k = 0 ∨ k = 1 ∨ k = 2) with rfl | rfl | rfl
    · clear hi hj
      by_cases hx : x = 0
      · subst hx
        go_wp2
        go_round
        case rel => exact ⟨1, by omega, rfl, fun _ => trivial, by omega⟩
        case measure => simp [intOf]
      · go_wp2
        go_ret
        exact ⟨ret_i (orI_pos y hx).symm, rfl⟩
    · obtain rfl := hi (by omega)
      clear hi hj
      by_cases hy : y = 0
      · subst hy
        go_wp2
        go_round
        case rel => exact ⟨2, by omega, rfl, fun _ => trivial, fun _ => trivial⟩
        case measure => simp [intOf]
      · go_wp2
        go_ret
        exact ⟨ret_i (orI_zero y).symm, rfl⟩
    · obtain rfl := hi (by omega)
      obtain rfl := hj (by omega)
      clear hi hj
      go_wp2
      go_ret
      exact ⟨ret_i (orI_zero 0).symm, rfl⟩

theorem compare_any (c d : Comp) (w : World) :
    Calls Try.prog 23 #[.agg #[.string c.id, .string c.kind], .agg #[.string d.id, .string d.kind]] w fun e w' => e = .returned (.int .i64 (cmpC c d)) ∧ Below w.heap.size w w' := by
  unfold cmpC
  go_enter Try.func23, Try.ntmps23
  go_wp2
  obtain ⟨W, hW, k0, k1, k2, k3, hB, hs⟩ : ∃ W : World, W = (w.alloc (.cells #[.string c.id, .string c.kind] 25)).alloc (.cells #[.string d.id, .string d.kind] 25) ∧ W.cell? ⟨w.heap.size, 0, none⟩ = some (.string c.id) ∧ W.cell? ⟨w.heap.size, 1, none⟩ = some (.string c.kind) ∧ W.cell? ⟨w.heap.size + 1, 0, none⟩ = some (.string d.id) ∧ W.cell? ⟨w.heap.size + 1, 1, none⟩ = some (.string d.kind) ∧ Below w.heap.size w W ∧ w.heap.size ≤ W.heap.size :=
    ⟨_, rfl, by simp, by simp, by simp, by simp, ((Below.refl _ w).alloc (Nat.le_refl _) _).alloc (by simp) _, by simp; omega⟩
  rw [← hW]
  clear hW
  refine wp_region_still_tail 10 (by kernel_rfl) (by kernel_rfl) ?_
  simp only [List.take_succ_cons, List.take_zero, List.drop_succ_cons, List.drop_zero]
  change wpStill _ _ W.drew _ _ _
  replace k0 : W.drew.cell? ⟨w.heap.size, 0, none⟩ = some (.string c.id) := k0
  replace k1 : W.drew.cell? ⟨w.heap.size, 1, none⟩ = some (.string c.kind) := k1
  replace k2 : W.drew.cell? ⟨w.heap.size + 1, 0, none⟩ = some (.string d.id) := k2
  replace k3 : W.drew.cell? ⟨w.heap.size + 1, 1, none⟩ = some (.string d.kind) := k3
  generalize W.drew = V at *
  still_step
  still_step
  still_step
  still_step
  still_call (Try.strings_Compare _ _ _)
  still_step
  still_step
  still_step
  still_step
  still_call (Try.strings_Compare _ _ _)
  refine wpStill_nil ?_
  go_wp2_with (go_at_call 35; refine (cmpOr_any _ (cmpS c.id d.id) (cmpS c.kind d.kind) _ (by simp [cmpS]) (by simp [cmpS])).mono ?_; rintro e w' ⟨rfl, rfl⟩)
  go_ret
  exact ⟨rfl, (hB.alloc hs _).drew⟩

theorem compareX_any (c d : Comp) (w : World) :
    Calls Try.prog 12 #[.agg #[.string c.id, .string c.kind], .agg #[.string d.id, .string d.kind]] w fun e w' => e = .returned (.int .i64 (compareX c d)) ∧ Below w.heap.size w w' := by
  have p1 := fun W => part_any c W
  have p2 := fun W => part_any d W
  unfold Comp.val at p1 p2
  go_enter Try.func12, Try.ntmps12
  cases hp : NmX.part c with
  | false =>
    rw [hp] at p1
    have Hp := Lib.hid hp
    clear hp
    go_wp2_with (first
      | (go_at_call 21; refine (p1 _).mono ?_; rintro e w1 ⟨rfl, hb1⟩))
    go_ret
    exact ⟨ret_i (by simp [compareX, Hp.out]), (((Below.refl _ w).alloc (Nat.le_refl _) _).alloc (by simp) _).trans (hb1.mono (by simp; omega))⟩
  | true =>
    rw [hp] at p1
    have Hp := Lib.hid hp
    clear hp
    go_wp2_with fail
    refine (p1 _).mono ?_
    rintro e w1 ⟨rfl, hb1⟩
    obtain ⟨hc, hf⟩ := bcell hb1
    have hz : w.heap.size + 2 ≤ w1.heap.size := by have := hb1.size; simp at this; omega
    have hB : Below w.heap.size w w1 := (((Below.refl _ w).alloc (Nat.le_refl _) _).alloc (by simp) _).trans (hb1.mono (by simp; omega))
    go_wp2_with fail
    refine (p2 _).mono ?_
    rintro e w2 ⟨rfl, hb2⟩
    obtain ⟨hc', hf'⟩ := bcell hb2
    have k0 : w2.cell? ⟨w.heap.size, 0, none⟩ = some (.string c.id) := by rw [hc' _ _ (by omega), hc _ _ (by simp <;> omega)]; simp
    have k1 : w2.cell? ⟨w.heap.size, 1, none⟩ = some (.string c.kind) := by rw [hc' _ _ (by omega), hc _ _ (by simp <;> omega)]; simp
    have k2 : w2.cell? ⟨w.heap.size + 1, 0, none⟩ = some (.string d.id) := by rw [hc' _ _ (by omega), hc _ _ (by simp <;> omega)]; simp
    have k3 : w2.cell? ⟨w.heap.size + 1, 1, none⟩ = some (.string d.kind) := by rw [hc' _ _ (by omega), hc _ _ (by simp <;> omega)]; simp
    clear hc' hf' hc hf
    have hz' : w.heap.size + 2 ≤ w2.heap.size := by have := hb2.size; omega
    have hB2 : Below w.heap.size w w2 := hB.trans (hb2.mono (by omega))
    cases hq : NmX.part d with
    | false =>
      have Hq := Lib.hid hq
      clear hq
      go_wp2
      go_ret
      exact ⟨ret_i (by simp [compareX, Hp.out, Hq.out]), hB2⟩
    | true =>
      have Hq := Lib.hid hq
      clear hq
      go_wp2_with fail
      refine (compare_any c d _).mono ?_
      rintro e w3 ⟨rfl, hb3⟩
      go_wp2
      go_ret
      exact ⟨ret_i (by simp [compareX, Hp.out, Hq.out]), hB2.trans (hb3.mono (by omega))⟩
end Go.Proofs.Ytmdolkkpoeoomaa
