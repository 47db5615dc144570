/- Walks: what names are written as. -/
import Derived.Test.YtmdolkkpoeoomaaNmD
import Derived.Deep.DeepMust
namespace Go.Proofs.Ytmdolkkpoeoomaa
open Go.RowKit NmX

theorem str_info : (Try.prog.info? 9).map (fun i => (i.zero, i.size, i.bytes)) = some (some (.string emptyS), 1, 16) := by kernel_rfl

set_option maxRecDepth 100000 in
set_option maxHeartbeats 1000000 in
theorem text_any (A : Option Addr) (n cap : Nat) (xs : List Comp) (w : World) (h : Comps w A n xs) (hn : n ≤ 1000) (hxs : ∀ c ∈ xs, c.id.size ≤ 100 ∧ c.kind.size ≤ 100) :
    Calls Try.prog 17 #[.slice A n cap] w fun e w' => e = .returned (.string (ofL (textL xs))) ∧ Below w.heap.size w w' := by
  obtain ⟨i0, hi, hz0, hz1, hz2⟩ := info_parts str_info
  have hlen := textL_length hxs
  have hl := h.1
  have Hl := Lib.hid hl
  clear hl
  go_enter Try.func17, Try.ntmps17
  go_wp2
  go_loopw [3, 8] (fun v t wr => ∃ k : Nat, k ≤ n ∧ t = .int .i64 k ∧ wr.ownsRow w.heap.size 9 1 v k (wstrs (xs.take k)) ∧ Below w.heap.size w wr) (fun _ t _ => n - (intOf t).toNat)
  case atStart => exact ⟨0, by omega, rfl, World.ownsRow_nil _ _ _ _, Below.refl _ _⟩
  case round =>
    obtain ⟨k, hk, rfl, hown, hb⟩ := hrel
    by_cases hlt : k < n
    · obtain ⟨c, ad, hc, rfl, h1, h2⟩ := (h.below hb).at_ hlt
      have hcz := hxs c (List.mem_of_getElem? hc)
      have hst := wstrs_succ hc
      have Hst := Lib.hid hst
      have hz := hb.size
      clear hc h hst
      generalize wstrs (xs.take k) = L at *
      go_wp2_with fail
      refine (written_any c _ (by omega) (by omega)).mono ?_
      rintro e w1 ⟨rfl, hb1⟩
      have hs1 : wr.heap.size + 1 ≤ w1.heap.size := by have := hb1.size; simpa using this
      have hB1 : Below w.heap.size w w1 := (hb.alloc hz _).trans (hb1.mono (by simp; omega))
      have hown1 : w1.ownsRow w.heap.size 9 1 u3 k L := own_below (hown.alloc _) hb1
      clear hown hb hb1 h1 h2
      go_wp2_with (at_builtin; go_must (refine wpList_append_own _ rfl _ _ 67 rfl w.heap.size 9 i0 (.string emptyS) 1 16 Try.underlying67 hi hz0 hz1 hz2 rfl (by decide) _ _ _ rfl (hown1.alloc _) ⟨w1.heap.size, 0, none⟩ 1 1 [.string (ofL (writtenL c))] rfl rfl ?c1 ?c2 ?c3 ?c4 ?c5 ?_))
      case c1 => intro j u hj; match j, hj with | 0, hj => simp at hj; subst hj; simp [Addr.add]
      case c2 => intro u hu; simp at hu; subst hu; rfl
      case c3 => unfold maxLen; omega
      case c4 => omega
      case c5 => simp; omega
      intro v' w2 hown2 hgrow2 _
      have hB2 : Below w.heap.size w w2 := (hB1.alloc (by omega) _).grown hgrow2 (by simp; omega) (fun j hj => (hown1.lt j hj).1)
      clear hown1 hB1 hgrow2
      go_wp2
      go_roundw
      case rel => exact ⟨k + 1, by omega, by go_num, by rw [Hst.out]; exact hown2, hB2⟩
      case measure => simp [intOf]; omega
    · have hkn : xs.take k = xs := List.take_of_length_le (by rw [Hl.out]; omega)
      rw [hkn] at hown
      have hkk : k = n := by omega
      have Hkk := Lib.hid hkk
      have Hjoin := Lib.hid (joinW xs)
      have hw2 : (wstrs xs).length = xs.length := by simp [wstrs]
      clear hkn hkk h
      have hll := hown.1
      rw [hw2, Hl.out] at hll
      have Hll := Lib.hid hll
      have hz := hb.size
      rcases hown.2 with ⟨rfl, h0⟩ | ⟨g, cp, cur, rfl, hg0, hg1, hg2, _⟩
      · subst h0
        have hx : xs = [] := List.eq_nil_of_length_eq_zero (by rw [Hl.out, ← Hkk.out])
        clear hll hw2 hown
        go_wp2_with fail
        refine (Try.strings_Join_none _ _ _ _).mono ?_
        rintro e w' ⟨rfl, rfl⟩
        go_wp2_with fail
        go_ret
        exact ⟨ret_s (by rw [hx]; rfl), hb⟩
      · have hgl : g < wr.heap.size := (hown.lt g rfl).2
        have hcell : ∀ (j : Nat) x, (xs.map fun c => ofL (writtenL c))[j]? = some x → wr.cell? ⟨g, 0 + j, none⟩ = some (.string x) := by
          intro j x hj
          have := hown.cells (g := g) rfl j (.string x) (by simp [wstrs] at hj ⊢; obtain ⟨a, ha, hb⟩ := hj; exact ⟨a, ha, by rw [hb]⟩)
          rw [Nat.zero_add]
          by_cases hj0 : j = 0
          · subst hj0; simpa [Addr.add] using this
          · simpa [Addr.add, hj0] using this
        clear hw2 hll
        go_wp2_with fail
        have hC := Try.strings_Join g 0 cp (xs.map fun c => ofL (writtenL c)) (ofL [47]) wr hcell hgl (by simp; rw [Hl.out]; omega) (by simp; rw [Hl.out]; omega) (by rw [Hjoin.out]; have := Hl.out; omega)
        rw [Hjoin.out, List.length_map, Hl.out, ← Hkk.out] at hC
        refine hC.mono ?_
        rintro e w' ⟨rfl, hb'⟩
        go_wp2_with fail
        go_ret
        exact ⟨rfl, hb.trans (hb'.mono hz)⟩

set_option maxRecDepth 100000 in
set_option maxHeartbeats 1000000 in
theorem refText_any (A : Option Addr) (n cap : Nat) (xs : List Comp) (w : World) (h : Comps w A n xs) (hn : n ≤ 1000) (hxs : ∀ c ∈ xs, c.id.size ≤ 100 ∧ c.kind.size ≤ 100) :
    Calls Try.prog 18 #[.slice A n cap] w fun e w' => e = .returned (.string (ofL (textL xs))) ∧ Below w.heap.size w w' := by
  obtain ⟨i0, hi, hz0, hz1, hz2⟩ := info_parts str_info
  have hlen := textL_length hxs
  have hl := h.1
  have Hl := Lib.hid hl
  clear hl
  go_enter Try.func18, Try.ntmps18
  go_wp2
  go_loopw [3, 8] (fun v t wr => ∃ k : Nat, k ≤ n ∧ t = .int .i64 k ∧ wr.ownsRow w.heap.size 9 1 v k (wstrs (xs.take k)) ∧ Below w.heap.size w wr) (fun _ t _ => n - (intOf t).toNat)
  case atStart => exact ⟨0, by omega, rfl, World.ownsRow_nil _ _ _ _, Below.refl _ _⟩
  case round =>
    obtain ⟨k, hk, rfl, hown, hb⟩ := hrel
    by_cases hlt : k < n
    · obtain ⟨c, ad, hc, rfl, h1, h2⟩ := (h.below hb).at_ hlt
      have hcz := hxs c (List.mem_of_getElem? hc)
      have hst := wstrs_succ hc
      have Hst := Lib.hid hst
      have hz := hb.size
      clear hc h hst
      generalize wstrs (xs.take k) = L at *
      go_wp2_with fail
      refine (partText_any c _ (by omega) (by omega)).mono ?_
      rintro e w1 ⟨rfl, hb1⟩
      have hs1 : wr.heap.size + 1 ≤ w1.heap.size := by have := hb1.size; simpa using this
      have hB1 : Below w.heap.size w w1 := (hb.alloc hz _).trans (hb1.mono (by simp; omega))
      have hown1 : w1.ownsRow w.heap.size 9 1 u3 k L := own_below (hown.alloc _) hb1
      clear hown hb hb1 h1 h2
      go_wp2_with (at_builtin; go_must (refine wpList_append_own _ rfl _ _ 67 rfl w.heap.size 9 i0 (.string emptyS) 1 16 Try.underlying67 hi hz0 hz1 hz2 rfl (by decide) _ _ _ rfl (hown1.alloc _) ⟨w1.heap.size, 0, none⟩ 1 1 [.string (ofL (writtenL c))] rfl rfl ?c1 ?c2 ?c3 ?c4 ?c5 ?_))
      case c1 => intro j u hj; match j, hj with | 0, hj => simp at hj; subst hj; simp [Addr.add]
      case c2 => intro u hu; simp at hu; subst hu; rfl
      case c3 => unfold maxLen; omega
      case c4 => omega
      case c5 => simp; omega
      intro v' w2 hown2 hgrow2 _
      have hB2 : Below w.heap.size w w2 := (hB1.alloc (by omega) _).grown hgrow2 (by simp; omega) (fun j hj => (hown1.lt j hj).1)
      clear hown1 hB1 hgrow2
      go_wp2
      go_roundw
      case rel => exact ⟨k + 1, by omega, by go_num, by rw [Hst.out]; exact hown2, hB2⟩
      case measure => simp [intOf]; omega
    · have hkn : xs.take k = xs := List.take_of_length_le (by rw [Hl.out]; omega)
      rw [hkn] at hown
      have hkk : k = n := by omega
      have Hkk := Lib.hid hkk
      have Hjoin := Lib.hid (joinW xs)
      have hw2 : (wstrs xs).length = xs.length := by simp [wstrs]
      clear hkn hkk h
      have hll := hown.1
      rw [hw2, Hl.out] at hll
      have Hll := Lib.hid hll
      have hz := hb.size
      rcases hown.2 with ⟨rfl, h0⟩ | ⟨g, cp, cur, rfl, hg0, hg1, hg2, _⟩
      · subst h0
        have hx : xs = [] := List.eq_nil_of_length_eq_zero (by rw [Hl.out, ← Hkk.out])
        clear hll hw2 hown
        go_wp2_with fail
        refine (Try.strings_Join_none _ _ _ _).mono ?_
        rintro e w' ⟨rfl, rfl⟩
        go_wp2_with fail
        go_ret
        exact ⟨ret_s (by rw [hx]; rfl), hb⟩
      · have hgl : g < wr.heap.size := (hown.lt g rfl).2
        have hcell : ∀ (j : Nat) x, (xs.map fun c => ofL (writtenL c))[j]? = some x → wr.cell? ⟨g, 0 + j, none⟩ = some (.string x) := by
          intro j x hj
          have := hown.cells (g := g) rfl j (.string x) (by simp [wstrs] at hj ⊢; obtain ⟨a, ha, hb⟩ := hj; exact ⟨a, ha, by rw [hb]⟩)
          rw [Nat.zero_add]
          by_cases hj0 : j = 0
          · subst hj0; simpa [Addr.add] using this
          · simpa [Addr.add, hj0] using this
        clear hw2 hll
        go_wp2_with fail
        have hC := Try.strings_Join g 0 cp (xs.map fun c => ofL (writtenL c)) (ofL [47]) wr hcell hgl (by simp; rw [Hl.out]; omega) (by simp; rw [Hl.out]; omega) (by rw [Hjoin.out]; have := Hl.out; omega)
        rw [Hjoin.out, List.length_map, Hl.out, ← Hkk.out] at hC
        refine hC.mono ?_
        rintro e w' ⟨rfl, hb'⟩
        go_wp2_with fail
        go_ret
        exact ⟨rfl, hb.trans (hb'.mono hz)⟩
end Go.Proofs.Ytmdolkkpoeoomaa
