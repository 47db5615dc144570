/- Walks: what components and names are written as. -/
import Derived.Test.YtmdolkkpoeoomaaNmC
namespace Go.Proofs.Ytmdolkkpoeoomaa
open Go.RowKit NmX

theorem byteCells_snoc (l : List UInt8) (c : UInt8) : Lib.byteCells l ++ [.int .u8 c.toNat] = Lib.byteCells (l ++ [c]) := by simp [Lib.byteCells]
theorem byteCells_length (l : List UInt8) : (Lib.byteCells l).length = l.length := by simp [Lib.byteCells]

theorem written1_any (s : ByteArray) (B b : Nat) (l : List UInt8) (w : World) (h : Lib.IsBuilder 80 5 B b (Lib.byteCells l) w) (hBw : B ≤ w.heap.size) (hs : s.size ≤ 1000000) (hl : l.length ≤ 1000000) :
    Calls Try.prog 37 #[.string s, .pointer (some ⟨b, 0, none⟩)] w fun e w' => e = .returned (.tuple #[]) ∧ Lib.IsBuilder 80 5 B b (Lib.byteCells (l ++ escL s.data.toList)) w' ∧ Below B w w' := by
  go_enter Try.func37, Try.ntmps37
  go_wp2
  go_loopw [6] (fun t wr => ∃ k : Nat, k ≤ s.size ∧ t = .int .i64 k ∧ Lib.IsBuilder 80 5 B b (Lib.byteCells (l ++ escL (s.data.toList.take k))) wr ∧ Below B w wr) (fun t _ => s.size - (intOf t).toNat)
  case atStart => exact ⟨0, by omega, rfl, by simpa [escL] using h, Below.refl _ _⟩
  case round =>
    obtain ⟨k, hk, rfl, hi, hb⟩ := hrel
    by_cases hlt : k < s.size
    · have hsn := escL_snoc s k hlt
      have hlen : (l ++ escL (s.data.toList.take k)).length ≤ 3000000 := by
        have := escL_length (s.data.toList.take k)
        simp at this ⊢
        omega
      have hm := mkB_int (s[k]'hlt)
      have m1 := fun W => marked_any ((s[k]'hlt).toNat : Int) W
      rw [hm] at m1
      have hBr : B ≤ wr.heap.size := by have := hb.size; omega
      generalize hx : l ++ escL (s.data.toList.take k) = x at *
      have hx' : l ++ escL (s.data.toList.take (k + 1)) = x ++ (if mkB (s[k]'hlt) then [92, s[k]'hlt] else [s[k]'hlt]) := by rw [hsn, ← List.append_assoc, hx]
      have Hx := Lib.hid hx'
      clear hx hx' hsn h hm
      cases hmb : mkB (s[k]'hlt) with
      | true =>
        rw [hmb] at m1
        have Hm := Lib.hid hmb
        clear hmb
        go_wp2_with (go_at_call 38; refine (m1 _).mono ?_; rintro e w1 ⟨rfl, rfl⟩)
        refine (writeByte_any B b _ 92 _ hi (by rw [byteCells_length]; omega) hBr).mono ?_
        rintro e w1 ⟨rfl, h1, hb1⟩
        rw [show (Value.int .u8 92) = .int .u8 ((92 : UInt8).toNat : Int) from rfl, byteCells_snoc] at h1
        go_wp2_with fail
        refine (writeByte_any B b _ _ _ (.inr h1) (by rw [byteCells_length]; simp; omega) (by have := hb1.size; omega)).mono ?_
        rintro e w2 ⟨rfl, h2, hb2⟩
        rw [byteCells_snoc] at h2
        go_wp2
        go_roundw
        case rel =>
          refine ⟨k + 1, by omega, by go_num, ?_, (hb.trans hb1).trans hb2⟩
          rw [Hx.out, Hm.out]
          exact .inr (by simpa using h2)
        case measure => simp [intOf]; omega
      | false =>
        rw [hmb] at m1
        have Hm := Lib.hid hmb
        clear hmb
        go_wp2_with (go_at_call 38; refine (m1 _).mono ?_; rintro e w1 ⟨rfl, rfl⟩)
        refine (writeByte_any B b _ _ _ hi (by rw [byteCells_length]; omega) hBr).mono ?_
        rintro e w2 ⟨rfl, h2, hb2⟩
        rw [byteCells_snoc] at h2
        go_wp2
        go_roundw
        case rel =>
          refine ⟨k + 1, by omega, by go_num, ?_, hb.trans hb2⟩
          rw [Hx.out, Hm.out]
          exact .inr (by simpa using h2)
        case measure => simp [intOf]; omega
    · have hkk : k = s.size := by omega
      have ht : s.data.toList.take k = s.data.toList := List.take_of_length_le (by simp; omega)
      rw [ht] at hi
      clear ht hkk
      go_wp2
      go_end0
      exact ⟨rfl, hi, hb⟩

theorem written_any (c : Comp) (w : World) (hs : c.id.size ≤ 100000) (hk : c.kind.size ≤ 100000) :
    Calls Try.prog 29 #[.agg #[.string c.id, .string c.kind]] w fun e w' => e = .returned (.string (ofL (writtenL c))) ∧ Below w.heap.size w w' := by
  have hi := Lib.fresh_isBuilder 80 5 (w.alloc (.cells #[.string c.id, .string c.kind] 25))
  obtain ⟨W, hW, k0, k1, hB0, hz, hi⟩ : ∃ W : World, W = (w.alloc (.cells #[.string c.id, .string c.kind] 25)).alloc (.cells #[.pointer none, .slice none 0 0] 80) ∧ W.cell? ⟨w.heap.size, 0, none⟩ = some (.string c.id) ∧ W.cell? ⟨w.heap.size, 1, none⟩ = some (.string c.kind) ∧ Below w.heap.size w W ∧ w.heap.size + 1 ≤ W.heap.size ∧ Lib.IsBuilder 80 5 (w.heap.size + 1) (w.heap.size + 1) (Lib.byteCells []) W :=
    ⟨_, rfl, by simp, by simp, ((Below.refl _ w).alloc (Nat.le_refl _) _).alloc (by simp) _, by simp, by simpa [Lib.byteCells] using hi⟩
  go_enter Try.func29, Try.ntmps29
  go_wp2_with fail
  rw [← hW]
  clear hW
  have hl := escL_length c.id.data.toList
  have hl2 := escL_length c.kind.data.toList
  refine (written1_any c.id (w.heap.size + 1) (w.heap.size + 1) [] W hi hz (by omega) (by simp)).mono ?_
  rintro e w1 ⟨rfl, h1, hb1⟩
  rw [List.nil_append] at h1
  have j0 : w1.cell? ⟨w.heap.size, 0, none⟩ = some (.string c.id) := (hb1.cell (p := ⟨w.heap.size, 0, none⟩) (by simp)).trans k0
  have j1 : w1.cell? ⟨w.heap.size, 1, none⟩ = some (.string c.kind) := (hb1.cell (p := ⟨w.heap.size, 1, none⟩) (by simp)).trans k1
  have hz1 := hb1.size
  have hB1 : Below w.heap.size w w1 := hB0.trans (hb1.mono (by omega))
  clear k0 k1 hi hB0
  by_cases hk0 : c.kind = emptyS
  · have hwr : writtenL c = escL c.id.data.toList := by simp [writtenL, hk0]
    have Hwr := Lib.hid hwr
    have he : c.kind.toList.isEmpty = true := by have := emptyS_dec c.kind; simpa [hk0] using this
    clear hwr hk0
    generalize c.kind = kd at *
    go_wp2_with (go_at_call 40; refine (Try.Builder_String_any (w.heap.size + 1) (w.heap.size + 1) _ w1 h1 (by omega)).mono ?_; rintro e w2 ⟨rfl, hb2⟩)
    go_ret
    exact ⟨ret_s (by rw [Hwr.out]; rfl), hB1.trans (hb2.mono (by omega))⟩
  · have hwr : writtenL c = escL c.id.data.toList ++ 46 :: escL c.kind.data.toList := by simp [writtenL, hk0]
    have Hwr := Lib.hid hwr
    have he : c.kind.toList.isEmpty = false := by have := emptyS_dec c.kind; simpa [hk0] using this
    clear hwr hk0
    go_wp2_with fail
    refine (writeByte_any _ _ _ 46 _ h1 (by rw [byteCells_length]; simp at hl hs ⊢; omega) (by omega)).mono ?_
    rintro e w2 ⟨rfl, h2, hb2⟩
    rw [show (Value.int .u8 46) = .int .u8 ((46 : UInt8).toNat : Int) from rfl, byteCells_snoc] at h2
    have j0 : w2.cell? ⟨w.heap.size, 0, none⟩ = some (.string c.id) := (hb2.cell (p := ⟨w.heap.size, 0, none⟩) (by simp)).trans j0
    have j1 : w2.cell? ⟨w.heap.size, 1, none⟩ = some (.string c.kind) := (hb2.cell (p := ⟨w.heap.size, 1, none⟩) (by simp)).trans j1
    have hz2 := hb2.size
    go_wp2_with fail
    refine (written1_any c.kind _ _ _ _ (.inr h2) (by omega) (by omega) (by simp at hl hs ⊢; omega)).mono ?_
    rintro e w3 ⟨rfl, h3, hb3⟩
    have hz3 := hb3.size
    go_wp2_with fail
    refine (Try.Builder_String_any (w.heap.size + 1) (w.heap.size + 1) _ w3 h3 (by omega)).mono ?_
    rintro e w4 ⟨rfl, hb4⟩
    go_wp2_with fail
    go_ret
    exact ⟨ret_s (by rw [Hwr.out]; simp [ofL]), hB1.trans (((hb2.trans hb3).trans hb4).mono (by omega))⟩

set_option maxRecDepth 100000 in
theorem escaped_any (s : ByteArray) (w : World) (hs : s.size ≤ 100000) :
    Calls Try.prog 43 #[.string s] w fun e w' => e = .returned (.string (ofL (escL s.data.toList))) ∧ w = w' := by
  go_enter Try.func43, Try.ntmps43
  go_wp2
  go_loop [3, 7] (fun o t => ∃ k : Nat, k ≤ s.size ∧ t = .int .i64 k ∧ o = .string (ofL (escL (s.data.toList.take k)))) (fun _ t => s.size - (intOf t).toNat)
  case atStart => exact ⟨0, by omega, rfl, rfl⟩
  case round =>
    obtain ⟨k, hk, rfl, rfl⟩ := hrel
    by_cases hlt : k < s.size
    · have hsn := escL_snoc s k hlt
      have hm := mkB_int (s[k]'hlt)
      have Hs := Lib.hid hsn
      have Hm := Lib.hid hm
      clear hsn hm
      have hxs : (ofL (escL (s.data.toList.take k))).size ≤ 300000 := by
        have := escL_length (s.data.toList.take k)
        rw [ofL_size]
        simp at this ⊢
        omega
      generalize escL (s.data.toList.take k) = x at *
      have hxi : ((ofL x).size : Int) + 1 ≤ 300001 := by omega
      cases hmb : mkB (s[k]'hlt) with
      | true =>
        have hst : ofL x ++ ⟨#[92]⟩ ++ s.extract k (k + 1) = ofL (escL (s.data.toList.take (k + 1))) := by
          rw [Hs.out, hmb, extract_one s k hlt, show (⟨#[92]⟩ : ByteArray) = ofL [92] from rfl, ofL_append, ofL_append]
          simp
        have Hst := Lib.hid hst
        have hor : ((s[k]'hlt).toNat : Int) = 46 ∨ (((s[k]'hlt).toNat : Int) == 46) = false ∧ ((s[k]'hlt).toNat : Int) = 47 ∨ (((s[k]'hlt).toNat : Int) == 46) = false ∧ (((s[k]'hlt).toNat : Int) == 47) = false ∧ ((s[k]'hlt).toNat : Int) = 92 := by
          have := Hm.out
          rw [hmb] at this
          simp only [Bool.or_eq_true, beq_iff_eq] at this
          simp only [beq_eq_false_iff_ne]
          omega
        clear hst hmb
        rcases hor with hc | ⟨hc1, hc⟩ | ⟨hc1, hc2, hc⟩
        all_goals
          go_wp2
          go_round
          case rel => exact ⟨k + 1, by omega, by go_num, congrArg Value.string Hst.out⟩
          case measure => simp [intOf]; omega
      | false =>
        have hst : ofL x ++ s.extract k (k + 1) = ofL (escL (s.data.toList.take (k + 1))) := by
          rw [Hs.out, hmb, extract_one s k hlt, ofL_append]
          simp
        have Hst := Lib.hid hst
        have hor : (((s[k]'hlt).toNat : Int) == 46) = false ∧ (((s[k]'hlt).toNat : Int) == 47) = false ∧ (((s[k]'hlt).toNat : Int) == 92) = false := by
          have := Hm.out
          rw [hmb] at this
          simpa [Bool.or_eq_false_iff, and_assoc] using this
        obtain ⟨hc1, hc2, hc3⟩ := hor
        clear hst hmb
        go_wp2
        go_round
        case rel => exact ⟨k + 1, by omega, by go_num, congrArg Value.string Hst.out⟩
        case measure => simp [intOf]; omega
    · have ht : s.data.toList.take k = s.data.toList := List.take_of_length_le (by simp; omega)
      rw [ht]
      clear ht
      go_wp2
      go_ret
      exact ⟨rfl, rfl⟩

theorem partText_any (c : Comp) (w : World) (hs : c.id.size ≤ 100000) (hk : c.kind.size ≤ 100000) :
    Calls Try.prog 31 #[.agg #[.string c.id, .string c.kind]] w fun e w' => e = .returned (.string (ofL (writtenL c))) ∧ Below w.heap.size w w' := by
  go_enter Try.func31, Try.ntmps31
  by_cases hk0 : c.kind = emptyS
  · have hwr : writtenL c = escL c.id.data.toList := by simp [writtenL, hk0]
    have Hwr := Lib.hid hwr
    have he : c.kind.toList.isEmpty = true := by have := emptyS_dec c.kind; simpa [hk0] using this
    clear hwr hk0
    go_wp2_with (go_at_call 43; refine (escaped_any _ _ hs).mono ?_; rintro e w1 ⟨rfl, rfl⟩)
    go_ret
    exact ⟨ret_s (by rw [Hwr.out]), (Below.refl _ w).alloc (Nat.le_refl _) _⟩
  · have hwr : writtenL c = escL c.id.data.toList ++ 46 :: escL c.kind.data.toList := by simp [writtenL, hk0]
    have Hwr := Lib.hid hwr
    have he : c.kind.toList.isEmpty = false := by have := emptyS_dec c.kind; simpa [hk0] using this
    have hl := escL_length c.id.data.toList
    have hl2 := escL_length c.kind.data.toList
    have hz1 : (ofL (escL c.id.data.toList)).size ≤ 200000 := by rw [ofL_size]; simp at hl; omega
    have hz2 : (ofL (escL c.kind.data.toList)).size ≤ 200000 := by rw [ofL_size]; simp at hl2; omega
    clear hwr hk0 hl hl2
    go_wp2_with fail
    go_quiet (first | (go_at_call 43; exact Calls.quiet_of_same ((escaped_any _ _ (by assumption)).mono fun _ _ h => ⟨h.1, h.2.symm⟩)))
    go_wp2
    go_ret
    exact ⟨ret_s (by rw [Hwr.out, show (⟨#[46]⟩ : ByteArray) = ofL [46] from rfl, ofL_append, ofL_append]; simp), pw_drewN ((Below.refl _ w).alloc (Nat.le_refl _) _) _⟩
end Go.Proofs.Ytmdolkkpoeoomaa
