/- Walks: the law's own example. -/
import Derived.Test.YtmdolkkpoeoomaaNmH
namespace Go.Proofs.Ytmdolkkpoeoomaa
open Go.RowKit NmX

def exS : ByteArray := ⟨#[97, 46, 98, 47, 99, 92, 46, 100]⟩
def exN : List Comp := [⟨⟨#[97]⟩, ⟨#[98]⟩⟩, ⟨⟨#[99, 46, 100]⟩, ⟨#[]⟩⟩]
theorem ex_parse : parseX exS = some exN := by decide +kernel

theorem comps_lit1 (W : World) (c : Comp) : Comps (W.alloc (.cells #[.string c.id, .string c.kind] 25)) (some ⟨W.heap.size, 0, none⟩) 1 [c] := by
  refine ⟨rfl, by omega, fun i d hd => ?_⟩
  match i, hd with
  | 0, hd =>
    obtain rfl : c = d := by simpa using hd
    exact ⟨_, rfl, by simp [Addr.add], by simp [Addr.add]⟩
theorem comps_lit2 (W : World) (c d : Comp) : Comps (W.alloc (.cells #[.string c.id, .string c.kind, .string d.id, .string d.kind] 25)) (some ⟨W.heap.size, 0, none⟩) 2 [c, d] := by
  refine ⟨rfl, by omega, fun i x hx => ?_⟩
  match i, hx with
  | 0, hx =>
    obtain rfl : c = x := by simpa using hx
    exact ⟨_, rfl, by simp [Addr.add], by simp [Addr.add]⟩
  | 1, hx =>
    obtain rfl : d = x := by simpa using hx
    exact ⟨_, rfl, by simp [Addr.add], by simp [Addr.add]⟩
theorem Comps.below' {w w' : World} {A : Option Addr} {n : Nat} {xs : List Comp} {B : Nat} (h : Comps w A n xs) (hA : ∀ ad, A = some ad → ad.block < B) (hb : Below B w w') : Comps w' A n xs :=
  ⟨h.1, h.2.1, fun i c hc => by
    obtain ⟨ad, e, h1, h2⟩ := h.2.2 i c hc
    have hx := hA ad e
    have hy : (ad.add (i * 2)).block = ad.block := by unfold Addr.add; split <;> rfl
    exact ⟨ad, e, (hb.cell (by rw [hy]; exact hx)).trans h1, (hb.cell (p := ⟨(ad.add (i * 2)).block, _, none⟩) (by simp only; rw [hy]; exact hx)).trans h2⟩⟩

theorem eq_comp' (c d : Comp) (W : World) : (binOp .eql 25 (.agg #[.string c.id, .string c.kind]) (.agg #[.string d.id, .string d.kind])).run Try.prog W = .ok (.bool (decide (c = d))) W := by
  have h := eq_comp c d W
  rw [run_eql_struct]
  have h' : (Op.equalIn 10000 25 (.agg #[.string c.id, .string c.kind]) (.agg #[.string d.id, .string d.kind])).run Try.prog W = .ok (decide (c = d)) W := h
  rw [h']
  rfl

set_option maxRecDepth 100000 in
set_option maxHeartbeats 1000000 in
theorem awake_any (w : World) :
    Calls Try.prog 4 #[] w fun e w' => e = .returned (.bool true) ∧ Below w.heap.size w w' := by
  go_enter Try.func4, Try.ntmps4
  go_wp2_with fail
  refine (parse_any exS w (by decide)).mono ?_
  rintro e w1 ⟨v, n, rfl, hb1, hp⟩
  rcases hp with ⟨h, _⟩ | ⟨_, h, _⟩ | ⟨_, xs, A, c, hpx, rfl, hcs, rfl⟩
  · exact absurd h (by decide)
  · rw [ex_parse] at h; cases h
  obtain rfl : exN = xs := by rw [ex_parse] at hpx; exact Option.some.inj hpx
  clear hpx
  obtain ⟨c0, a0, hc, hA, k0, k1⟩ := hcs.at_ (k := 0) (by decide)
  obtain rfl : c0 = ⟨⟨#[97]⟩, ⟨#[98]⟩⟩ := by simpa [exN] using hc.symm
  clear hc
  obtain ⟨c1, a1, hc, hA', k2, k3⟩ := hcs.at_ (k := 1) (by decide)
  obtain rfl : c1 = ⟨⟨#[99, 46, 100]⟩, ⟨#[]⟩⟩ := by simpa [exN] using hc.symm
  subst hA
  obtain rfl : a0 = a1 := Option.some.inj hA'
  clear hc hA' hcs
  have k0 : w1.cell? a0 = some (.string ⟨#[97]⟩) := by simpa [Addr.add] using k0
  have k1 : w1.cell? ⟨a0.block, a0.off + 1, none⟩ = some (.string ⟨#[98]⟩) := by simpa [Addr.add] using k1
  have k2 : w1.cell? ⟨a0.block, a0.off + 2, none⟩ = some (.string ⟨#[99, 46, 100]⟩) := k2
  have k3 : w1.cell? ⟨a0.block, a0.off + 2 + 1, none⟩ = some (.string ⟨#[]⟩) := k3
  have ha : a0.block < w1.heap.size := World.block_lt_of_cell? w1 _ k0
  go_wp2_with fail
  refine (new_ex w1).mono ?_
  rintro e w2 ⟨S, m0, m1, rfl, h2, hS, hm1, hb2⟩
  go_wp2_with fail
  have hmm : m0 ≠ m1 := by
    rintro rfl
    have := h2.root.symm.trans h2.map
    simp at this
  have hb2' : Below w2.heap.size w2 (w2.alloc (.cells #[.string ⟨#[120]⟩, .string ⟨#[]⟩] 25)) := (Below.refl _ w2).alloc (Nat.le_refl _) _
  refine (bindContext_ex _ S m0 m1 (h2.below hb2') ⟨w2.heap.size, 0, none⟩ 1 (comps_lit1 w2 ⟨⟨#[120]⟩, ⟨#[]⟩⟩) hmm).mono ?_
  rintro e w3 ⟨rfl, h3, ho3⟩
  have hz2 := hb2.size
  have hb3 : Below w1.heap.size w1 w3 := (hb2.trans (hb2'.mono hz2)).trans (ho3.below (by simp; omega) (by rintro k (rfl | rfl) <;> omega))
  have hz3 := hb3.size
  clear hb2 hb2' h2 ho3
  go_wp2_with fail
  obtain ⟨W4, hW4, hb4, hs4, hc4⟩ : ∃ W4, W4 = (w3.alloc (.cells #[.int .i64 0, .int .i64 0] 38)).alloc (.cells #[.string ⟨#[120]⟩, .string ⟨#[]⟩, .string ⟨#[120]⟩, .string ⟨#[]⟩] 25) ∧ Below w3.heap.size w3 W4 ∧ W4.heap.size = w3.heap.size + 2 ∧ Comps W4 (some ⟨w3.heap.size + 1, 0, none⟩) 2 [⟨⟨#[120]⟩, ⟨#[]⟩⟩, ⟨⟨#[120]⟩, ⟨#[]⟩⟩] := by
    refine ⟨_, rfl, ((Below.refl _ w3).alloc (Nat.le_refl _) _).alloc (by simp) _, by simp, ?_⟩
    have := comps_lit2 (w3.alloc (.cells #[.int .i64 0, .int .i64 0] 38)) ⟨⟨#[120]⟩, ⟨#[]⟩⟩ ⟨⟨#[120]⟩, ⟨#[]⟩⟩
    rwa [show (w3.alloc (.cells #[.int .i64 0, .int .i64 0] 38)).heap.size = w3.heap.size + 1 by simp] at this
  rw [← hW4]
  clear hW4
  refine (resolve_ex W4 S m0 m1 (h3.below hb4) _ 2 (by omega) hc4).mono ?_
  rintro e w5 ⟨rfl, hb5⟩
  have hb15 : Below w1.heap.size w1 w5 := (hb3.trans (hb4.mono hz3)).trans (hb5.mono (by omega))
  have hz5 := hb15.size
  have l0 := (hb15.cell ha).trans k0
  have l1 := (hb15.cell (p := ⟨a0.block, a0.off + 1, none⟩) ha).trans k1
  have l2 := (hb15.cell (p := ⟨a0.block, a0.off + 2, none⟩) ha).trans k2
  have l3 := (hb15.cell (p := ⟨a0.block, a0.off + 2 + 1, none⟩) ha).trans k3
  have ha5 : a0.block < w5.heap.size := by omega
  have hbw : Below w.heap.size w w5 := hb1.trans (hb15.mono hb1.size)
  have hzw := hbw.size
  have q0 := fun W => eq_comp' ⟨⟨#[97]⟩, ⟨#[98]⟩⟩ ⟨⟨#[97]⟩, ⟨#[98]⟩⟩ W
  have q1 := fun W => eq_comp' ⟨⟨#[99, 46, 100]⟩, ⟨#[]⟩⟩ ⟨⟨#[99, 46, 100]⟩, ⟨#[]⟩⟩ W
  simp only [decide_true] at q0 q1
  clear k0 k1 k2 k3 hb1 hb3 hb4 hb5 hb15 hc4 h3
  go_wp2
  go_ret
  exact ⟨rfl, (hbw.alloc hzw _).alloc (by simp; omega) _⟩
end Go.Proofs.Ytmdolkkpoeoomaa
