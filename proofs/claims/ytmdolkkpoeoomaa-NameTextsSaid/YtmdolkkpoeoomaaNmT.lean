/- Walks: the two Text functions; the reference's Compare. -/
import Derived.Test.YtmdolkkpoeoomaaNmI
import Derived.Test.YtmdolkkpoeoomaaNmQ
namespace Go.Proofs.Ytmdolkkpoeoomaa
open Go.RowKit NmX

theorem text_yes (A : Option Addr) (n cap : Nat) (xs : List Comp) (w : World) (h : Comps w A n xs) (hv : valid xs = true) :
    Calls Try.prog 5 #[.slice A n cap] w fun e w' => e = .returned (.tuple #[.string (ofL (textL xs)), .int .i64 0]) ∧ Below w.heap.size w w' := by
  obtain ⟨hv1, hv2⟩ := valid_sizes hv
  have hl := h.1
  have c1 := valid_any A n cap xs w h
  rw [hv] at c1
  go_enter Try.func5, Try.ntmps5
  go_wp2_with fail
  refine c1.mono ?_
  rintro e w1 ⟨rfl, hb1⟩
  go_wp2_with fail
  refine (text_any A n cap xs w1 (h.below hb1) (by omega) (fun c hc => ⟨by have := (hv2 c hc).1; omega, by have := (hv2 c hc).2; omega⟩)).mono ?_
  rintro e w2 ⟨rfl, hb2⟩
  go_wp2_with fail
  go_ret2
  exact ⟨rfl, hb1.trans (hb2.mono hb1.size)⟩

theorem text_no (A : Option Addr) (n cap : Nat) (xs : List Comp) (w : World) (h : Comps w A n xs) (hv : valid xs = false) :
    Calls Try.prog 5 #[.slice A n cap] w fun e w' => e = .returned (.tuple #[.string ⟨#[]⟩, .int .i64 1]) ∧ Below w.heap.size w w' := by
  have c1 := valid_any A n cap xs w h
  rw [hv] at c1
  go_enter Try.func5, Try.ntmps5
  go_wp2_with fail
  refine c1.mono ?_
  rintro e w1 ⟨rfl, hb1⟩
  go_wp2_with fail
  go_ret2
  exact ⟨rfl, hb1⟩

theorem refText_yes (A : Option Addr) (n cap : Nat) (xs : List Comp) (w : World) (h : Comps w A n xs) (hv : valid xs = true) :
    Calls Try.prog 6 #[.slice A n cap] w fun e w' => e = .returned (.tuple #[.string (ofL (textL xs)), .int .i64 0]) ∧ Below w.heap.size w w' := by
  obtain ⟨hv1, hv2⟩ := valid_sizes hv
  have hl := h.1
  have c1 := refValid_any A n cap xs w h
  rw [hv] at c1
  go_enter Try.func6, Try.ntmps6
  go_wp2_with fail
  refine c1.mono ?_
  rintro e w1 ⟨rfl, hb1⟩
  go_wp2_with fail
  refine (refText_any A n cap xs w1 (h.below hb1) (by omega) (fun c hc => ⟨by have := (hv2 c hc).1; omega, by have := (hv2 c hc).2; omega⟩)).mono ?_
  rintro e w2 ⟨rfl, hb2⟩
  go_wp2_with fail
  go_ret2
  exact ⟨rfl, hb1.trans (hb2.mono hb1.size)⟩

theorem refText_no (A : Option Addr) (n cap : Nat) (xs : List Comp) (w : World) (h : Comps w A n xs) (hv : valid xs = false) :
    Calls Try.prog 6 #[.slice A n cap] w fun e w' => e = .returned (.tuple #[.string ⟨#[]⟩, .int .i64 1]) ∧ Below w.heap.size w w' := by
  have c1 := refValid_any A n cap xs w h
  rw [hv] at c1
  go_enter Try.func6, Try.ntmps6
  go_wp2_with fail
  refine c1.mono ?_
  rintro e w1 ⟨rfl, hb1⟩
  go_wp2_with fail
  go_ret2
  exact ⟨rfl, hb1⟩

theorem cx_part0 {c d : Comp} (h : NmX.part c = false) : compareX c d = 0 := by simp [compareX, h]
theorem cx_part1 {c d : Comp} (h : NmX.part d = false) : compareX c d = 0 := by simp [compareX, h]
theorem cx_id {c d : Comp} (h : NmX.part c = true) (h' : NmX.part d = true) (h2 : cmpS c.id d.id ≠ 0) : compareX c d = cmpS c.id d.id := by simp [compareX, h, h', cmpC, orI, h2]
theorem cx_kind {c d : Comp} (h : NmX.part c = true) (h' : NmX.part d = true) (h2 : cmpS c.id d.id = 0) : compareX c d = cmpS c.kind d.kind := by simp [compareX, h, h', cmpC, orI, h2]

theorem refCompare_any (c d : Comp) (w : World) :
    Calls Try.prog 13 #[.agg #[.string c.id, .string c.kind], .agg #[.string d.id, .string d.kind]] w fun e w' => e = .returned (.int .i64 (compareX c d)) ∧ Below w.heap.size w w' := by
  have p1 := fun W => refPart_any c W
  have p2 := fun W => refPart_any d W
  have c1 := fun W => Try.strings_Compare c.id d.id W
  have c2 := fun W => Try.strings_Compare c.kind d.kind W
  go_enter Try.func13, Try.ntmps13
  obtain ⟨W, hW, k0, k1, k2, k3, hB, hs⟩ : ∃ W : World, W = (w.alloc (.cells #[.string c.id, .string c.kind] 25)).alloc (.cells #[.string d.id, .string d.kind] 25) ∧ W.cell? ⟨w.heap.size, 0, none⟩ = some (.string c.id) ∧ W.cell? ⟨w.heap.size, 1, none⟩ = some (.string c.kind) ∧ W.cell? ⟨w.heap.size + 1, 0, none⟩ = some (.string d.id) ∧ W.cell? ⟨w.heap.size + 1, 1, none⟩ = some (.string d.kind) ∧ Below w.heap.size w W ∧ w.heap.size + 2 ≤ W.heap.size :=
    ⟨_, rfl, by simp, by simp, by simp, by simp, ((Below.refl _ w).alloc (Nat.le_refl _) _).alloc (by simp) _, by simp⟩
  cases hp : NmX.part c with
  | false =>
    rw [hp] at p1
    have Hp := Lib.hid (cx_part0 (d := d) hp)
    clear hp
    go_wp2_with fail
    rw [← hW]
    refine (p1 _).mono ?_; rintro e w1 ⟨rfl, hb1⟩
    go_wp2_with fail
    go_ret
    exact ⟨ret_i Hp.out.symm, hB.trans (hb1.mono (by omega))⟩
  | true =>
    rw [hp] at p1
    have Hp := Lib.hid hp
    clear hp
    go_wp2_with fail
    rw [← hW]
    refine (p1 _).mono ?_; rintro e w1 ⟨rfl, hb1⟩
    obtain ⟨hc, hf⟩ := bcell hb1
    have hz1 := hb1.size
    have k2 := (hc (w.heap.size + 1) 0 (by omega)).trans k2
    have k3 := (hc (w.heap.size + 1) 1 (by omega)).trans k3
    have k0 := (hc (w.heap.size) 0 (by omega)).trans k0
    have k1 := (hc (w.heap.size) 1 (by omega)).trans k1
    have hB1 := hB.trans (hb1.mono (by omega))
    clear hB hc hf
    cases hq : NmX.part d with
    | false =>
      rw [hq] at p2
      have Hq := Lib.hid (cx_part1 (c := c) hq)
      clear hq
      go_wp2_with fail
      refine (p2 _).mono ?_; rintro e w2 ⟨rfl, hb2⟩
      go_wp2_with fail
      go_ret
      exact ⟨ret_i Hq.out.symm, hB1.trans (hb2.mono (by omega))⟩
    | true =>
      rw [hq] at p2
      have Hq := Lib.hid hq
      clear hq
      go_wp2_with fail
      refine (p2 _).mono ?_; rintro e w2 ⟨rfl, hb2⟩
      obtain ⟨hc, hf⟩ := bcell hb2
      have k2 := (hc (w.heap.size + 1) 0 (by omega)).trans k2
      have k3 := (hc (w.heap.size + 1) 1 (by omega)).trans k3
      have k0 := (hc (w.heap.size) 0 (by omega)).trans k0
      have k1 := (hc (w.heap.size) 1 (by omega)).trans k1
      have hB2 := hB1.trans (hb2.mono (by omega))
      clear hB1 hc hf
      go_wp2_with fail
      refine (c1 _).mono ?_; rintro e w3 ⟨rfl, rfl⟩
      by_cases hx : cmpS c.id d.id = 0
      · have Hx := Lib.hid (cx_kind Hp.out Hq.out hx)
        unfold cmpS at hx
        rw [hx]
        go_wp2_with fail
        refine (c2 _).mono ?_; rintro e w3 ⟨rfl, rfl⟩
        go_wp2_with fail
        go_ret
        exact ⟨ret_i Hx.out.symm, hB2⟩
      · have Hx := Lib.hid (cx_id Hp.out Hq.out hx)
        unfold cmpS at Hx
        unfold cmpS at hx
        generalize Lib.compareBytes c.id.data.toList d.id.data.toList = z at *
        have hx' : (z == 0) = false := by simpa using hx
        go_wp2_with fail
        go_ret
        exact ⟨ret_i Hx.out.symm, hB2⟩
end Go.Proofs.Ytmdolkkpoeoomaa
