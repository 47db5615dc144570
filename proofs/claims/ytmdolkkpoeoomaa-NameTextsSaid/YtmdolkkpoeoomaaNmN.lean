/- Walk: the law NameTexts. -/
import Derived.Test.YtmdolkkpoeoomaaNmT
import Derived.Test.YtmdolkkpoeoomaaNmG
import Derived.Deep.RegionHeld3
import Derived.WalkSmall
namespace Go.Proofs.Ytmdolkkpoeoomaa
open Go.RowKit NmX

/-- two components, as they lie in memory, and a world that has them still -/
def TwoHeld (w : World) (p q p' q' : Addr) (c d : Comp) (W : World) : Prop :=
  W.cell? p = some (.string c.id) ∧ W.cell? p' = some (.string c.kind) ∧ W.cell? q = some (.string d.id) ∧ W.cell? q' = some (.string d.kind) ∧ Below w.heap.size w W
theorem TwoHeld.below {w : World} {p q p' q' : Addr} {c d : Comp} {W W' : World} (h : TwoHeld w p q p' q' c d W) (hb : Below W.heap.size W W') : TwoHeld w p q p' q' c d W' :=
  ⟨(hb.cell (World.block_lt_of_cell? _ _ h.1)).trans h.1, (hb.cell (World.block_lt_of_cell? _ _ h.2.1)).trans h.2.1, (hb.cell (World.block_lt_of_cell? _ _ h.2.2.1)).trans h.2.2.1, (hb.cell (World.block_lt_of_cell? _ _ h.2.2.2.1)).trans h.2.2.2.1, h.2.2.2.2.trans (hb.mono h.2.2.2.2.size)⟩

theorem TwoHeld.drew {w : World} {p q p' q' : Addr} {c d : Comp} {W : World} (h : TwoHeld w p q p' q' c d W) : TwoHeld w p q p' q' c d W.drew :=
  h.below ⟨rfl, rfl, rfl, Nat.le_refl _, fun _ _ => rfl⟩

theorem compare_held (w : World) (p q p' q' : Addr) (c d : Comp) (W : World) (h : TwoHeld w p q p' q' c d W) :
    Calls Try.prog 12 #[.agg #[.string c.id, .string c.kind], .agg #[.string d.id, .string d.kind]] W fun e w' => e = .returned (.int .i64 (compareX c d)) ∧ TwoHeld w p q p' q' c d w' :=
  (compareX_any c d W).mono fun _ _ h' => ⟨h'.1, h.below h'.2⟩
theorem refCompare_held (w : World) (p q p' q' : Addr) (c d : Comp) (W : World) (h : TwoHeld w p q p' q' c d W) :
    Calls Try.prog 13 #[.agg #[.string c.id, .string c.kind], .agg #[.string d.id, .string d.kind]] W fun e w' => e = .returned (.int .i64 (compareX c d)) ∧ TwoHeld w p q p' q' c d w' :=
  (refCompare_any c d W).mono fun _ _ h' => ⟨h'.1, h.below h'.2⟩

theorem post_none {s : ByteArray} {w : World} {e : Ending} {w' : World} (h : ParsePost s w e w') (hs : s.size ≤ 65536) (hp : parseX s = none) :
    e = .returned (.tuple #[.slice none 0 0, .int .i64 2]) ∧ Below w.heap.size w w' := by
  obtain ⟨v, n, rfl, hb, h⟩ := h
  rcases h with ⟨h, _⟩ | ⟨_, _, rfl, rfl⟩ | ⟨_, xs, A, c, h, _⟩
  · omega
  · exact ⟨rfl, hb⟩
  · rw [hp] at h; cases h
theorem post_some {s : ByteArray} {w : World} {e : Ending} {w' : World} {ys : List Comp} (h : ParsePost s w e w') (hs : s.size ≤ 65536) (hp : parseX s = some ys) :
    ∃ A c, e = .returned (.tuple #[.slice A ys.length c, .int .i64 0]) ∧ Comps w' A ys.length ys ∧ Below w.heap.size w w' := by
  obtain ⟨v, n, rfl, hb, h⟩ := h
  rcases h with ⟨h, _⟩ | ⟨_, h, _, _⟩ | ⟨_, xs, A, c, h, rfl, hc, rfl⟩
  · omega
  · rw [hp] at h; cases h
  · rw [hp] at h
    obtain rfl := Option.some.inj h
    exact ⟨A, c, rfl, hc, hb⟩

set_option maxRecDepth 100000 in
set_option maxHeartbeats 4000000 in
theorem nameTexts_any (A : Option Addr) (n cap : Nat) (xs : List Comp) (text : ByteArray) (w : World) (h : n ≤ 40 → Comps w A n xs) :
    Calls Try.prog 3 #[.slice A n cap, .string text] w fun e w' => e = .returned (.bool true) ∧ Below w.heap.size w w' := by
  have ha := fun W => awake_any W
  by_cases hn : n ≤ 40
  case neg =>
    go_enter Try.func3, Try.ntmps3
    go_wp2_with fail
    refine (ha _).mono ?_
    rintro e w1 ⟨rfl, hb1⟩
    go_wp2_with fail
    go_ret
    exact ⟨rfl, hb1⟩
  by_cases ht : text.size ≤ 2000
  case neg =>
    go_enter Try.func3, Try.ntmps3
    go_wp2_with fail
    refine (ha _).mono ?_
    rintro e w1 ⟨rfl, hb1⟩
    go_wp2_with fail
    go_ret
    exact ⟨rfl, hb1⟩
  replace h := h hn
  have hm : text.size ≤ 140737488355328 := by omega
  go_enter Try.func3, Try.ntmps3
  go_wp2_with fail
  go_loopw [31] (fun t wr => ∃ k : Nat, k ≤ n ∧ t = .int .i64 k ∧ Below w.heap.size w wr) (fun t _ => n - (intOf t).toNat)
  case atStart => exact ⟨0, by omega, rfl, Below.refl _ _⟩
  case round =>
    obtain ⟨k, hk, rfl, hb⟩ := hrel
    by_cases hlt : k < n
    · obtain ⟨c, ad, hc, rfl, h1, h2⟩ := (h.below hb).at_ hlt
      clear hc
      by_cases hs0 : c.id.size ≤ 60
      · by_cases hs1 : c.kind.size ≤ 60
        · go_wp2_with fail
          go_roundw
          case rel => exact ⟨k + 1, by omega, by go_num, hb.alloc hb.size _⟩
          case measure => simp [intOf]; omega
        · go_wp2_with fail
          refine (ha _).mono ?_
          rintro e w1 ⟨rfl, hb1⟩
          go_wp2_with fail
          go_ret
          exact ⟨rfl, (hb.alloc hb.size _).trans (hb1.mono (by have := hb.size; simp; omega))⟩
      · go_wp2_with fail
        refine (ha _).mono ?_
        rintro e w1 ⟨rfl, hb1⟩
        go_wp2_with fail
        go_ret
        exact ⟨rfl, (hb.alloc hb.size _).trans (hb1.mono (by have := hb.size; simp; omega))⟩
    · have hz := hb.size
      obtain ⟨hc0⟩ : Nonempty (Comps wr A n xs) := ⟨h.below hb⟩
      have hkk : k = n := by omega
      have v1 := fun W => fun hC => valid_any A n cap xs W hC
      have v2 := fun W => fun hC => refValid_any A n cap xs W hC
      have e1 := fun W => parse_any text W hm
      have e2 := fun W => refParse_any text W hm
      have hT5 : valid xs = true → (ofL (textL xs)).size ≤ 65536 := text_short
      have hT6 : valid xs = true → parseX (ofL (textL xs)) = some xs := parse_text
      have s1 := fun A' c' ys W hC hC' => sameName_any A' A ys.length n c' cap ys xs W hC hC'
      have hp2 : ∀ ys, parseX text = some ys → valid ys = true ∧ ofL (textL ys) = text := fun ys => parse_yes
      cases hv : valid xs with
      | true =>
        rw [hv] at v1 v2
        replace hT5 := hT5 hv
        replace hT6 := hT6 hv
        have x1 := fun W hC => text_yes A n cap xs W hC hv
        have x2 := fun W hC => refText_yes A n cap xs W hC hv
        have e3 := fun W => parse_any (ofL (textL xs)) W (by omega)
        clear hv
        generalize hT : ofL (textL xs) = T at *
        go_wp2_with fail
        refine (x1 _ hc0).mono ?_
        rintro e W ⟨rfl, hb'⟩
        replace hc0 := hc0.below hb'
        replace hb := hb.trans (hb'.mono hz)
        replace hz := hb.size
        clear hb'
        go_wp2_with fail
        refine (x2 _ hc0).mono ?_
        rintro e W ⟨rfl, hb'⟩
        replace hc0 := hc0.below hb'
        replace hb := hb.trans (hb'.mono hz)
        replace hz := hb.size
        clear hb'
        go_wp2_with fail
        cases hp : parseX text with
        | none =>
          refine (e1 _).mono ?_
          intro e W hE
          obtain ⟨rfl, hb'⟩ := post_none hE (by omega) hp
          clear hE
          replace hc0 := hc0.below hb'
          replace hb := hb.trans (hb'.mono hz)
          replace hz := hb.size
          clear hb'
          go_wp2_with fail
          refine (e2 _).mono ?_
          intro e W hE
          obtain ⟨rfl, hb'⟩ := post_none hE (by omega) hp
          clear hE
          replace hc0 := hc0.below hb'
          replace hb := hb.trans (hb'.mono hz)
          replace hz := hb.size
          clear hb'
          go_wp2_with fail
          refine (v1 _ hc0).mono ?_
          rintro e W ⟨rfl, hb'⟩
          replace hc0 := hc0.below hb'
          replace hb := hb.trans (hb'.mono hz)
          replace hz := hb.size
          clear hb'
          go_wp2_with fail
          refine (v2 _ hc0).mono ?_
          rintro e W ⟨rfl, hb'⟩
          replace hc0 := hc0.below hb'
          replace hb := hb.trans (hb'.mono hz)
          replace hz := hb.size
          clear hb'
          go_wp2_with fail
          refine (sameName_any none none 0 0 0 0 [] [] _ ⟨rfl, by omega, fun i c hc => by simp at hc⟩ ⟨rfl, by omega, fun i c hc => by simp at hc⟩).mono ?_
          rintro e W ⟨rfl, hb'⟩
          replace hc0 := hc0.below hb'
          replace hb := hb.trans (hb'.mono hz)
          replace hz := hb.size
          clear hb'
          go_wp2_with fail
          refine (e3 _).mono ?_
          intro e W hE
          obtain ⟨A3, c3, rfl, hd3, hb'⟩ := post_some hE hT5 hT6
          clear hE
          replace hc0 := hc0.below hb'
          replace hb := hb.trans (hb'.mono hz)
          replace hz := hb.size
          clear hb'
          go_wp2_with fail
          have hs1 := s1 _ c3 _ _ hd3 hc0
          rw [decide_eq_true rfl] at hs1
          refine hs1.mono ?_
          rintro e W ⟨rfl, hb'⟩
          replace hc0 := hc0.below hb'
          replace hd3 := hd3.below hb'
          replace hb := hb.trans (hb'.mono hz)
          replace hz := hb.size
          clear hb'
          go_wp2_with fail
          go_loopw [19] (fun t wr => ∃ k : Nat, 1 ≤ k ∧ t = .int .i64 k ∧ Comps wr A n xs ∧ Below w.heap.size w wr) (fun t _ => n - (intOf t).toNat)
          case atStart => exact ⟨1, by omega, rfl, hc0, hb⟩
          case round =>
            clear hc0 hb hz
            obtain ⟨k, hk1, rfl, hc0, hb⟩ := hrel
            by_cases hlt : k < n
            · obtain ⟨j, rfl⟩ : ∃ j, k = j + 1 := ⟨k - 1, by omega⟩
              obtain ⟨c, ad, hx, rfl, k0, k1⟩ := hc0.at_ (k := j) (by omega)
              obtain ⟨d, ad', hy, hA, k2, k3⟩ := hc0.at_ hlt
              obtain rfl : ad = ad' := Option.some.inj hA
              have hS : TwoHeld w _ _ _ _ c d wr := ⟨k0, k1, k2, k3, hb⟩
              clear hx hy hA
              go_wp2_with fail
              have i1 : IntKind.i64.wrap ((j : Int) + 1 - 1) = (j : Int) := by rw [Int.add_sub_cancel]; exact IntWalk.i64_in _ (by omega)
              have i0 : IntKind.i64.wrap (j : Int) = (j : Int) := IntWalk.i64_in _ (by omega)
              have i2 : ((j : Int) + 1).toNat = j + 1 := by omega
              have i3 : (0 : Int) ≤ (j : Int) + 1 := by omega
              have i4 : (j : Int) < (n : Int) := by omega
              have i5 : (0 : Int) ≤ (j : Int) := by omega
              have i6 : (j : Int) + 1 < (n : Int) := by omega
              have hS0 := hS.drew
              go_region_held3 (fun W => W.cell? (ad.add (j * 2)) = some (.string c.id) ∧ W.cell? ⟨(ad.add (j * 2)).block, (ad.add (j * 2)).off + 1, none⟩ = some (.string c.kind) ∧ W.cell? (ad.add ((j + 1) * 2)) = some (.string d.id) ∧ W.cell? ⟨(ad.add ((j + 1) * 2)).block, (ad.add ((j + 1) * 2)).off + 1, none⟩ = some (.string d.kind) ∧ Below w.heap.size w W)
                (first | exact hS'' | exact hS' | exact hS0 | assumption)
                (first
                  | (go_at_call 12; refine (compare_held w _ _ _ _ c d _ (by first | exact hS0 | assumption)).mono ?_; (rintro e W' ⟨rfl, hS'⟩))
                  | (go_at_call 13; refine (refCompare_held w _ _ _ _ c d _ (by first | exact hS' | assumption)).mono ?_; (rintro e W'' ⟨rfl, hS''⟩)))
              have hb3 := hS''.2.2.2.2
              have hc3 := h.below hb3
              clear i0 i1 i2 i3 i4 i5 i6 hS hS0 hS' hS''
              go_wp2_with fail
              go_roundw
              case rel => exact ⟨j + 1 + 1, by omega, by go_num, hc3, hb3⟩
              case measure => simp [intOf]; omega
            · go_wp2_with fail
              refine (ha _).mono ?_
              rintro e w1 ⟨rfl, hb1⟩
              go_wp2_with fail
              go_ret
              exact ⟨rfl, hb.trans (hb1.mono hb.size)⟩
        | some ys =>
          obtain ⟨hy1, hy2⟩ := hp2 ys hp
          refine (e1 _).mono ?_
          intro e W hE
          obtain ⟨A1, c1, rfl, hd1, hb'⟩ := post_some hE (by omega) hp
          clear hE
          replace hc0 := hc0.below hb'
          replace hb := hb.trans (hb'.mono hz)
          replace hz := hb.size
          clear hb'
          go_wp2_with fail
          refine (e2 _).mono ?_
          intro e W hE
          obtain ⟨A2, c2, rfl, hd2, hb'⟩ := post_some hE (by omega) hp
          clear hE
          replace hc0 := hc0.below hb'
          replace hd1 := hd1.below hb'
          replace hb := hb.trans (hb'.mono hz)
          replace hz := hb.size
          clear hb'
          go_wp2_with fail
          refine (v1 _ hc0).mono ?_
          rintro e W ⟨rfl, hb'⟩
          replace hc0 := hc0.below hb'
          replace hd1 := hd1.below hb'
          replace hd2 := hd2.below hb'
          replace hb := hb.trans (hb'.mono hz)
          replace hz := hb.size
          clear hb'
          go_wp2_with fail
          refine (v2 _ hc0).mono ?_
          rintro e W ⟨rfl, hb'⟩
          replace hc0 := hc0.below hb'
          replace hd1 := hd1.below hb'
          replace hd2 := hd2.below hb'
          replace hb := hb.trans (hb'.mono hz)
          replace hz := hb.size
          clear hb'
          go_wp2_with fail
          have hs1 := sameName_any A1 A2 ys.length ys.length c1 c2 ys ys _ hd1 hd2
          rw [decide_eq_true rfl] at hs1
          refine hs1.mono ?_
          rintro e W ⟨rfl, hb'⟩
          replace hc0 := hc0.below hb'
          replace hd1 := hd1.below hb'
          replace hd2 := hd2.below hb'
          replace hb := hb.trans (hb'.mono hz)
          replace hz := hb.size
          clear hb'
          go_wp2_with fail
          refine (e3 _).mono ?_
          intro e W hE
          obtain ⟨A3, c3, rfl, hd3, hb'⟩ := post_some hE hT5 hT6
          clear hE
          replace hc0 := hc0.below hb'
          replace hd1 := hd1.below hb'
          replace hd2 := hd2.below hb'
          replace hb := hb.trans (hb'.mono hz)
          replace hz := hb.size
          clear hb'
          go_wp2_with fail
          have hs1 := s1 _ c3 _ _ hd3 hc0
          rw [decide_eq_true rfl] at hs1
          refine hs1.mono ?_
          rintro e W ⟨rfl, hb'⟩
          replace hc0 := hc0.below hb'
          replace hd1 := hd1.below hb'
          replace hd2 := hd2.below hb'
          replace hd3 := hd3.below hb'
          replace hb := hb.trans (hb'.mono hz)
          replace hz := hb.size
          clear hb'
          go_wp2_with fail
          have ht1 := text_yes _ _ c1 ys _ hd1 hy1
          rw [hy2] at ht1
          refine ht1.mono ?_
          rintro e W ⟨rfl, hb'⟩
          replace hc0 := hc0.below hb'
          replace hd1 := hd1.below hb'
          replace hd2 := hd2.below hb'
          replace hd3 := hd3.below hb'
          replace hb := hb.trans (hb'.mono hz)
          replace hz := hb.size
          clear hb'
          go_wp2_with fail
          go_loopw [19] (fun t wr => ∃ k : Nat, 1 ≤ k ∧ t = .int .i64 k ∧ Comps wr A n xs ∧ Below w.heap.size w wr) (fun t _ => n - (intOf t).toNat)
          case atStart => exact ⟨1, by omega, rfl, hc0, hb⟩
          case round =>
            clear hc0 hb hz
            obtain ⟨k, hk1, rfl, hc0, hb⟩ := hrel
            by_cases hlt : k < n
            · obtain ⟨j, rfl⟩ : ∃ j, k = j + 1 := ⟨k - 1, by omega⟩
              obtain ⟨c, ad, hx, rfl, k0, k1⟩ := hc0.at_ (k := j) (by omega)
              obtain ⟨d, ad', hy, hA, k2, k3⟩ := hc0.at_ hlt
              obtain rfl : ad = ad' := Option.some.inj hA
              have hS : TwoHeld w _ _ _ _ c d wr := ⟨k0, k1, k2, k3, hb⟩
              clear hx hy hA
              go_wp2_with fail
              have i1 : IntKind.i64.wrap ((j : Int) + 1 - 1) = (j : Int) := by rw [Int.add_sub_cancel]; exact IntWalk.i64_in _ (by omega)
              have i0 : IntKind.i64.wrap (j : Int) = (j : Int) := IntWalk.i64_in _ (by omega)
              have i2 : ((j : Int) + 1).toNat = j + 1 := by omega
              have i3 : (0 : Int) ≤ (j : Int) + 1 := by omega
              have i4 : (j : Int) < (n : Int) := by omega
              have i5 : (0 : Int) ≤ (j : Int) := by omega
              have i6 : (j : Int) + 1 < (n : Int) := by omega
              have hS0 := hS.drew
              go_region_held3 (fun W => W.cell? (ad.add (j * 2)) = some (.string c.id) ∧ W.cell? ⟨(ad.add (j * 2)).block, (ad.add (j * 2)).off + 1, none⟩ = some (.string c.kind) ∧ W.cell? (ad.add ((j + 1) * 2)) = some (.string d.id) ∧ W.cell? ⟨(ad.add ((j + 1) * 2)).block, (ad.add ((j + 1) * 2)).off + 1, none⟩ = some (.string d.kind) ∧ Below w.heap.size w W)
                (first | exact hS'' | exact hS' | exact hS0 | assumption)
                (first
                  | (go_at_call 12; refine (compare_held w _ _ _ _ c d _ (by first | exact hS0 | assumption)).mono ?_; (rintro e W' ⟨rfl, hS'⟩))
                  | (go_at_call 13; refine (refCompare_held w _ _ _ _ c d _ (by first | exact hS' | assumption)).mono ?_; (rintro e W'' ⟨rfl, hS''⟩)))
              have hb3 := hS''.2.2.2.2
              have hc3 := h.below hb3
              clear i0 i1 i2 i3 i4 i5 i6 hS hS0 hS' hS''
              go_wp2_with fail
              go_roundw
              case rel => exact ⟨j + 1 + 1, by omega, by go_num, hc3, hb3⟩
              case measure => simp [intOf]; omega
            · go_wp2_with fail
              refine (ha _).mono ?_
              rintro e w1 ⟨rfl, hb1⟩
              go_wp2_with fail
              go_ret
              exact ⟨rfl, hb.trans (hb1.mono hb.size)⟩
      | false =>
        rw [hv] at v1 v2
        have x1 := fun W hC => text_no A n cap xs W hC hv
        have x2 := fun W hC => refText_no A n cap xs W hC hv
        clear hv hT5 hT6
        go_wp2_with fail
        refine (x1 _ hc0).mono ?_
        rintro e W ⟨rfl, hb'⟩
        replace hc0 := hc0.below hb'
        replace hb := hb.trans (hb'.mono hz)
        replace hz := hb.size
        clear hb'
        go_wp2_with fail
        refine (x2 _ hc0).mono ?_
        rintro e W ⟨rfl, hb'⟩
        replace hc0 := hc0.below hb'
        replace hb := hb.trans (hb'.mono hz)
        replace hz := hb.size
        clear hb'
        go_wp2_with fail
        cases hp : parseX text with
        | none =>
          refine (e1 _).mono ?_
          intro e W hE
          obtain ⟨rfl, hb'⟩ := post_none hE (by omega) hp
          clear hE
          replace hc0 := hc0.below hb'
          replace hb := hb.trans (hb'.mono hz)
          replace hz := hb.size
          clear hb'
          go_wp2_with fail
          refine (e2 _).mono ?_
          intro e W hE
          obtain ⟨rfl, hb'⟩ := post_none hE (by omega) hp
          clear hE
          replace hc0 := hc0.below hb'
          replace hb := hb.trans (hb'.mono hz)
          replace hz := hb.size
          clear hb'
          go_wp2_with fail
          refine (v1 _ hc0).mono ?_
          rintro e W ⟨rfl, hb'⟩
          replace hc0 := hc0.below hb'
          replace hb := hb.trans (hb'.mono hz)
          replace hz := hb.size
          clear hb'
          go_wp2_with fail
          refine (v2 _ hc0).mono ?_
          rintro e W ⟨rfl, hb'⟩
          replace hc0 := hc0.below hb'
          replace hb := hb.trans (hb'.mono hz)
          replace hz := hb.size
          clear hb'
          go_wp2_with fail
          refine (sameName_any none none 0 0 0 0 [] [] _ ⟨rfl, by omega, fun i c hc => by simp at hc⟩ ⟨rfl, by omega, fun i c hc => by simp at hc⟩).mono ?_
          rintro e W ⟨rfl, hb'⟩
          replace hc0 := hc0.below hb'
          replace hb := hb.trans (hb'.mono hz)
          replace hz := hb.size
          clear hb'
          go_wp2_with fail
          go_loopw [19] (fun t wr => ∃ k : Nat, 1 ≤ k ∧ t = .int .i64 k ∧ Comps wr A n xs ∧ Below w.heap.size w wr) (fun t _ => n - (intOf t).toNat)
          case atStart => exact ⟨1, by omega, rfl, hc0, hb⟩
          case round =>
            clear hc0 hb hz
            obtain ⟨k, hk1, rfl, hc0, hb⟩ := hrel
            by_cases hlt : k < n
            · obtain ⟨j, rfl⟩ : ∃ j, k = j + 1 := ⟨k - 1, by omega⟩
              obtain ⟨c, ad, hx, rfl, k0, k1⟩ := hc0.at_ (k := j) (by omega)
              obtain ⟨d, ad', hy, hA, k2, k3⟩ := hc0.at_ hlt
              obtain rfl : ad = ad' := Option.some.inj hA
              have hS : TwoHeld w _ _ _ _ c d wr := ⟨k0, k1, k2, k3, hb⟩
              clear hx hy hA
              go_wp2_with fail
              have i1 : IntKind.i64.wrap ((j : Int) + 1 - 1) = (j : Int) := by rw [Int.add_sub_cancel]; exact IntWalk.i64_in _ (by omega)
              have i0 : IntKind.i64.wrap (j : Int) = (j : Int) := IntWalk.i64_in _ (by omega)
              have i2 : ((j : Int) + 1).toNat = j + 1 := by omega
              have i3 : (0 : Int) ≤ (j : Int) + 1 := by omega
              have i4 : (j : Int) < (n : Int) := by omega
              have i5 : (0 : Int) ≤ (j : Int) := by omega
              have i6 : (j : Int) + 1 < (n : Int) := by omega
              have hS0 := hS.drew
              go_region_held3 (fun W => W.cell? (ad.add (j * 2)) = some (.string c.id) ∧ W.cell? ⟨(ad.add (j * 2)).block, (ad.add (j * 2)).off + 1, none⟩ = some (.string c.kind) ∧ W.cell? (ad.add ((j + 1) * 2)) = some (.string d.id) ∧ W.cell? ⟨(ad.add ((j + 1) * 2)).block, (ad.add ((j + 1) * 2)).off + 1, none⟩ = some (.string d.kind) ∧ Below w.heap.size w W)
                (first | exact hS'' | exact hS' | exact hS0 | assumption)
                (first
                  | (go_at_call 12; refine (compare_held w _ _ _ _ c d _ (by first | exact hS0 | assumption)).mono ?_; (rintro e W' ⟨rfl, hS'⟩))
                  | (go_at_call 13; refine (refCompare_held w _ _ _ _ c d _ (by first | exact hS' | assumption)).mono ?_; (rintro e W'' ⟨rfl, hS''⟩)))
              have hb3 := hS''.2.2.2.2
              have hc3 := h.below hb3
              clear i0 i1 i2 i3 i4 i5 i6 hS hS0 hS' hS''
              go_wp2_with fail
              go_roundw
              case rel => exact ⟨j + 1 + 1, by omega, by go_num, hc3, hb3⟩
              case measure => simp [intOf]; omega
            · go_wp2_with fail
              refine (ha _).mono ?_
              rintro e w1 ⟨rfl, hb1⟩
              go_wp2_with fail
              go_ret
              exact ⟨rfl, hb.trans (hb1.mono hb.size)⟩
        | some ys =>
          obtain ⟨hy1, hy2⟩ := hp2 ys hp
          refine (e1 _).mono ?_
          intro e W hE
          obtain ⟨A1, c1, rfl, hd1, hb'⟩ := post_some hE (by omega) hp
          clear hE
          replace hc0 := hc0.below hb'
          replace hb := hb.trans (hb'.mono hz)
          replace hz := hb.size
          clear hb'
          go_wp2_with fail
          refine (e2 _).mono ?_
          intro e W hE
          obtain ⟨A2, c2, rfl, hd2, hb'⟩ := post_some hE (by omega) hp
          clear hE
          replace hc0 := hc0.below hb'
          replace hd1 := hd1.below hb'
          replace hb := hb.trans (hb'.mono hz)
          replace hz := hb.size
          clear hb'
          go_wp2_with fail
          refine (v1 _ hc0).mono ?_
          rintro e W ⟨rfl, hb'⟩
          replace hc0 := hc0.below hb'
          replace hd1 := hd1.below hb'
          replace hd2 := hd2.below hb'
          replace hb := hb.trans (hb'.mono hz)
          replace hz := hb.size
          clear hb'
          go_wp2_with fail
          refine (v2 _ hc0).mono ?_
          rintro e W ⟨rfl, hb'⟩
          replace hc0 := hc0.below hb'
          replace hd1 := hd1.below hb'
          replace hd2 := hd2.below hb'
          replace hb := hb.trans (hb'.mono hz)
          replace hz := hb.size
          clear hb'
          go_wp2_with fail
          have hs1 := sameName_any A1 A2 ys.length ys.length c1 c2 ys ys _ hd1 hd2
          rw [decide_eq_true rfl] at hs1
          refine hs1.mono ?_
          rintro e W ⟨rfl, hb'⟩
          replace hc0 := hc0.below hb'
          replace hd1 := hd1.below hb'
          replace hd2 := hd2.below hb'
          replace hb := hb.trans (hb'.mono hz)
          replace hz := hb.size
          clear hb'
          go_wp2_with fail
          have ht1 := text_yes _ _ c1 ys _ hd1 hy1
          rw [hy2] at ht1
          refine ht1.mono ?_
          rintro e W ⟨rfl, hb'⟩
          replace hc0 := hc0.below hb'
          replace hd1 := hd1.below hb'
          replace hd2 := hd2.below hb'
          replace hb := hb.trans (hb'.mono hz)
          replace hz := hb.size
          clear hb'
          go_wp2_with fail
          go_loopw [19] (fun t wr => ∃ k : Nat, 1 ≤ k ∧ t = .int .i64 k ∧ Comps wr A n xs ∧ Below w.heap.size w wr) (fun t _ => n - (intOf t).toNat)
          case atStart => exact ⟨1, by omega, rfl, hc0, hb⟩
          case round =>
            clear hc0 hb hz
            obtain ⟨k, hk1, rfl, hc0, hb⟩ := hrel
            by_cases hlt : k < n
            · obtain ⟨j, rfl⟩ : ∃ j, k = j + 1 := ⟨k - 1, by omega⟩
              obtain ⟨c, ad, hx, rfl, k0, k1⟩ := hc0.at_ (k := j) (by omega)
              obtain ⟨d, ad', hy, hA, k2, k3⟩ := hc0.at_ hlt
              obtain rfl : ad = ad' := Option.some.inj hA
              have hS : TwoHeld w _ _ _ _ c d wr := ⟨k0, k1, k2, k3, hb⟩
              clear hx hy hA
              go_wp2_with fail
              have i1 : IntKind.i64.wrap ((j : Int) + 1 - 1) = (j : Int) := by rw [Int.add_sub_cancel]; exact IntWalk.i64_in _ (by omega)
              have i0 : IntKind.i64.wrap (j : Int) = (j : Int) := IntWalk.i64_in _ (by omega)
              have i2 : ((j : Int) + 1).toNat = j + 1 := by omega
              have i3 : (0 : Int) ≤ (j : Int) + 1 := by omega
              have i4 : (j : Int) < (n : Int) := by omega
              have i5 : (0 : Int) ≤ (j : Int) := by omega
              have i6 : (j : Int) + 1 < (n : Int) := by omega
              have hS0 := hS.drew
              go_region_held3 (fun W => W.cell? (ad.add (j * 2)) = some (.string c.id) ∧ W.cell? ⟨(ad.add (j * 2)).block, (ad.add (j * 2)).off + 1, none⟩ = some (.string c.kind) ∧ W.cell? (ad.add ((j + 1) * 2)) = some (.string d.id) ∧ W.cell? ⟨(ad.add ((j + 1) * 2)).block, (ad.add ((j + 1) * 2)).off + 1, none⟩ = some (.string d.kind) ∧ Below w.heap.size w W)
                (first | exact hS'' | exact hS' | exact hS0 | assumption)
                (first
                  | (go_at_call 12; refine (compare_held w _ _ _ _ c d _ (by first | exact hS0 | assumption)).mono ?_; (rintro e W' ⟨rfl, hS'⟩))
                  | (go_at_call 13; refine (refCompare_held w _ _ _ _ c d _ (by first | exact hS' | assumption)).mono ?_; (rintro e W'' ⟨rfl, hS''⟩)))
              have hb3 := hS''.2.2.2.2
              have hc3 := h.below hb3
              clear i0 i1 i2 i3 i4 i5 i6 hS hS0 hS' hS''
              go_wp2_with fail
              go_roundw
              case rel => exact ⟨j + 1 + 1, by omega, by go_num, hc3, hb3⟩
              case measure => simp [intOf]; omega
            · go_wp2_with fail
              refine (ha _).mono ?_
              rintro e w1 ⟨rfl, hb1⟩
              go_wp2_with fail
              go_ret
              exact ⟨rfl, hb.trans (hb1.mono hb.size)⟩
end Go.Proofs.Ytmdolkkpoeoomaa
