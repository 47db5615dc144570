/- Walks: what bytes and components are in a name. -/
import Derived.Test.YtmdolkkpoeoomaaBld
import Derived.Test.YtmdolkkpoeoomaaNm
import Derived.Deep.QuietTactic
import Derived.BigQuiet
import Derived.Lib.Hide
import Derived.Laws.DeepStrings4
namespace Go.Proofs.Ytmdolkkpoeoomaa
open Go.RowKit NmX

theorem ret_b {a b : Bool} (h : a = b) : Ending.returned (.bool a) = .returned (.bool b) := by rw [h]
theorem ret_i {k : IntKind} {a b : Int} (h : a = b) : Ending.returned (.int k a) = .returned (.int k b) := by rw [h]
theorem ret_s {a b : ByteArray} (h : a = b) : Ending.returned (.string a) = .returned (.string b) := by rw [h]

theorem bcell {W w1 : World} (hb : Below W.heap.size W w1) : (∀ b o, b < W.heap.size → w1.cell? ⟨b, o, none⟩ = W.cell? ⟨b, o, none⟩) ∧ (∀ b o, b < W.heap.size → w1.frozen? ⟨b, o, none⟩ = W.frozen? ⟨b, o, none⟩) :=
  ⟨fun b o h => hb.cell (p := ⟨b, o, none⟩) h, fun b o h => hb.frozen (p := ⟨b, o, none⟩) h⟩
theorem pw_drewN {B : Nat} {w W : World} (h : Below B w W) (n : Nat) : Below B w (W.drewN n) := ⟨h.os, h.tape, h.output, h.size, h.block⟩
theorem own_below {w w1 : World} {base : Nat} {e : TypeId} {size n : Nat} {v : Value} {xs : List Value} (h : w.ownsRow base e size v n xs) (hb : Below w.heap.size w w1) : w1.ownsRow base e size v n xs :=
  h.kept (row := none) ⟨hb.os, hb.tape, hb.output, hb.size, fun j hj _ => hb.block j hj⟩ (by cases v.ownBlock <;> simp)
theorem bnt {b : Bool} (h : (!b) = true) : b = false := by simpa using h
theorem bnf {b : Bool} (h : (!b) = false) : b = true := by simpa using h

theorem marked_any (c : Int) (w : World) :
    Calls Try.prog 38 #[.int .u8 c] w fun e w' => e = .returned (.bool (c == 46 || c == 47 || c == 92)) ∧ w = w' := by
  go_enter Try.func38, Try.ntmps38
  go_wp2
  all_goals go_ret
  all_goals exact ⟨by simp [*], rfl⟩

theorem part1_any (c : Int) (w : World) :
    Calls Try.prog 34 #[.int .i32 c] w fun e w' => e = .returned (.bool (decide (c ≤ 32) || decide (126 < c))) ∧ w = w' := by
  go_enter Try.func34, Try.ntmps34
  go_wp2
  all_goals go_ret
  all_goals exact ⟨by simp [*], rfl⟩

theorem part1_gives (w : World) : PredAt Try.prog 34 #[] encR badR w := fun W x _ => by
  unfold FnGives
  exact (part1_any x W).mono fun _ _ ⟨he, hw⟩ => ⟨he, 0, hw.symm⟩

theorem contains1 (s : ByteArray) (w : World) :
    Calls Try.prog 33 #[.string s, .func (.func 34) #[] #[]] w fun e w' => e = .returned (.bool (!(allOk s))) ∧ Below w.heap.size w w' :=
  (Try.strings_ContainsFunc 34 #[] (enters_of Try.func34 (by kernel_rfl) rfl) badR s w (part1_gives w)).mono fun _ _ ⟨he, hb⟩ => ⟨by rw [he, contains_bad], hb⟩

theorem neq_comp (c d : Comp) (W : World) : (binOp .neq 25 (.agg #[.string c.id, .string c.kind]) (.agg #[.string d.id, .string d.kind])).run Try.prog W = .ok (.bool (decide (c ≠ d))) W := by
  simp [go_sem]
  have hd : decide (c = d) = decide (c.id.toList = d.id.toList ∧ c.kind.toList = d.kind.toList) := decide_eq_decide.2 (comp_eq_iff c d)
  rw [hd]
  by_cases h1 : c.id.toList = d.id.toList
  · by_cases h2 : c.kind.toList = d.kind.toList
    · simp [h1, h2]
    · simp [h1, h2]
  · simp [h1]

theorem part_any (c : Comp) (w : World) :
    Calls Try.prog 21 #[c.val] w fun e w' => e = .returned (.bool (NmX.part c)) ∧ Below w.heap.size w w' := by
  unfold Comp.val
  have i0 : ∀ (x y : Value) w, (Instr.index 71 (.agg #[x, y]) (.int .i64 0)).run Try.prog w = .ok x w := fun _ _ _ => by kernel_rfl
  have i1 : ∀ (x y : Value) w, (Instr.index 71 (.agg #[x, y]) (.int .i64 1)).run Try.prog w = .ok y w := fun _ _ _ => by kernel_rfl
  have hn : ∀ W, (binOp .neq 25 (.agg #[.string c.id, .string c.kind]) (.agg #[.string emptyS, .string emptyS])).run Try.prog W = .ok (.bool (decide (c ≠ noComp))) W := fun W => neq_comp c noComp W
  unfold emptyS at hn
  go_enter Try.func21, Try.ntmps21
  go_wp2
  go_loopw [10] (fun t wr => ∃ k : Nat, k ≤ 2 ∧ t = .int .i64 k ∧ (1 ≤ k → okS c.id = true) ∧ (2 ≤ k → okS c.kind = true) ∧ Below (w.heap.size + 1) (w.alloc (.cells #[.string c.id, .string c.kind] 25)) wr) (fun t _ => 2 - (intOf t).toNat)
  case atStart => exact ⟨0, by omega, rfl, by omega, by omega, Below.refl _ _⟩
  case round =>
    obtain ⟨k, hk, rfl, hi, hj, hb⟩ := hrel
    have hsz : w.heap.size < wr.heap.size := by have := hb.size; simp at this; omega
    have hc0 : wr.cell? ⟨w.heap.size, 0, none⟩ = some (.string c.id) := (hb.cell (p := ⟨w.heap.size, 0, none⟩) (by simp)).trans (by simp)
    have hc1 : wr.cell? ⟨w.heap.size, 1, none⟩ = some (.string c.kind) := (hb.cell (p := ⟨w.heap.size, 1, none⟩) (by simp)).trans (by simp)
    have hB : Below w.heap.size w wr := ((Below.refl _ w).alloc (Nat.le_refl _) _).trans (hb.mono (by omega))
    rcases (by omega : k = 0 ∨ k = 1 ∨ k = 2) with rfl | rfl | rfl
    · clear hi hj hn
      go_wp2_with (go_at_call 33; refine (contains1 _ _).mono ?_; rintro e w' ⟨rfl, hb'⟩)
      · go_ret
        exact ⟨ret_b (part_no0 (okS_no ‹_›)).symm, hB.trans (hb'.mono (by omega))⟩
      · go_round
        case rel =>
          rename_i h
          exact ⟨1, by omega, rfl, fun _ => okS_yes h.1 h.2, by omega, hb.trans (hb'.mono (by omega))⟩
        case measure => simp [intOf]
      · go_ret
        exact ⟨ret_b (part_no0 (okS_no (.inl ‹_›))).symm, hB⟩
    · have hi := hi (by omega)
      have Hi := Lib.hid hi
      clear hi hj hn
      go_wp2_with (go_at_call 33; refine (contains1 _ _).mono ?_; rintro e w' ⟨rfl, hb'⟩)
      · go_ret
        exact ⟨ret_b (part_no1 (okS_no ‹_›)).symm, hB.trans (hb'.mono (by omega))⟩
      · go_round
        case rel =>
          rename_i h
          exact ⟨2, by omega, rfl, fun _ => Hi.out, fun _ => okS_yes h.1 h.2, hb.trans (hb'.mono (by omega))⟩
        case measure => simp [intOf]
      · go_ret
        exact ⟨ret_b (part_no1 (okS_no (.inl ‹_›))).symm, hB⟩
    · have hp := part_rest (hi (by omega)) (hj (by omega))
      have Hp := Lib.hid hp
      clear hi hj hp
      go_wp2
      go_ret
      exact ⟨ret_b (by rw [Hp.out]; simp), hB⟩
end Go.Proofs.Ytmdolkkpoeoomaa
