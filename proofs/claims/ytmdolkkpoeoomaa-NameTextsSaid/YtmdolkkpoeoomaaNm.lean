/- Plain words on names: components, texts, parsing, without any program. -/
import Derived.Lib.DecodeN
import Derived.Lib.Join
import Derived.Lib.RuneCount
import Derived.Laws.RangeAny
import Derived.Laws.StructEq
import Derived.Shelf.GgClosure.StringsIndexFunc
import Derived.Shelf.Small.Strs
import Derived.Below
import Derived.ProofKit
namespace Go.Proofs.Ytmdolkkpoeoomaa.NmX
open Go Go.RowKit

structure Comp where
  id : ByteArray
  kind : ByteArray
deriving DecidableEq
def emptyS : ByteArray := ⟨#[]⟩
instance : Inhabited Comp := ⟨⟨emptyS, emptyS⟩⟩
def Comp.val (c : Comp) : Value := .agg #[.string c.id, .string c.kind]
def noComp : Comp := ⟨emptyS, emptyS⟩

def okB (c : UInt8) : Bool := decide (33 ≤ c.toNat) && decide (c.toNat ≤ 126)
/-- all bytes are bytes of a name -/
def allOk (s : ByteArray) : Bool := s.data.toList.all okB
def okS (s : ByteArray) : Bool := decide (s.size ≤ 32) && allOk s
def part (c : Comp) : Bool := okS c.id && okS c.kind && decide (c ≠ noComp)
def valid (n : List Comp) : Bool := decide (1 ≤ n.length) && decide (n.length ≤ 20) && n.all part

theorem okS_eq (s : ByteArray) : okS s = (decide (s.size ≤ 32) && allOk s) := rfl
theorem okS_no {s : ByteArray} (h : 32 < (s.size : Int) ∨ (!allOk s) = true) : okS s = false := by
  rw [okS_eq]
  rcases h with h | h
  · rw [decide_eq_false (by omega), Bool.false_and]
  · rw [Bool.not_eq_true'] at h; rw [h, Bool.and_false]
theorem okS_yes {s : ByteArray} (h : (s.size : Int) ≤ 32) (h' : (!allOk s) = false) : okS s = true := by
  rw [okS_eq, decide_eq_true (by omega), Bool.true_and]; simpa using h'
theorem part_no0 {c : Comp} (h : okS c.id = false) : part c = false := by unfold part; rw [h]; rfl
theorem part_no1 {c : Comp} (h : okS c.kind = false) : part c = false := by unfold part; rw [h, Bool.and_false]; rfl
theorem part_rest {c : Comp} (h : okS c.id = true) (h' : okS c.kind = true) : part c = decide (c ≠ noComp) := by unfold part; rw [h, h']; rfl
theorem comp_eq_iff (c d : Comp) : c = d ↔ c.id.toList = d.id.toList ∧ c.kind.toList = d.kind.toList := by
  constructor
  · rintro rfl; exact ⟨rfl, rfl⟩
  · have key : ∀ a b : ByteArray, a.toList = b.toList → a = b := fun a b h => by
      have h1 : a.data.toList = b.data.toList := by rw [← ByteArray.toList_eq, ← ByteArray.toList_eq, h]
      cases a; cases b
      exact congrArg ByteArray.mk (Array.toList_inj.1 h1)
    rintro ⟨h1, h2⟩
    cases c
    cases d
    rw [Comp.mk.injEq]
    exact ⟨key _ _ h1, key _ _ h2⟩

/-- the rune that is no byte of a name -/
def badR (r : Nat) : Bool := decide ((r : Int) ≤ 32) || decide (126 < (r : Int))

theorem idx_bad (s : ByteArray) : ∀ (f pos : Nat), s.size - pos ≤ f →
    (decide (0 ≤ Lib.idxFuncFrom badR true s f pos)) = !((s.data.toList.drop pos).all okB) := by
  intro f
  induction f with
  | zero =>
    intro pos h
    have : s.data.toList.drop pos = [] := List.drop_eq_nil_of_le (by simpa using by omega)
    simp [Lib.idxFuncFrom, this]
  | succ f ih =>
    intro pos h
    unfold Lib.idxFuncFrom
    by_cases hp : pos < s.size
    · rw [if_pos hp]
      have hl : pos < s.data.toList.length := by simpa using hp
      rw [List.drop_eq_getElem_cons hl, List.all_cons]
      have hg : s.data.toList[pos] = s[pos]'hp := rfl
      rw [hg]
      rcases Nat.lt_or_ge (s[pos]'hp).toNat 128 with ha | ha
      · have hd : Utf8.decode s pos = ((s[pos]'hp).toNat, 1) := by
          have h0 : s.get! pos = s[pos]'hp := by
            show s.data[pos]! = _
            rw [getElem!_pos s.data pos hp]; rfl
          unfold Utf8.decode
          simp only [Nat.add_zero, h0]
          rw [if_pos (by omega)]
        rw [hd]
        by_cases hb : okB (s[pos]'hp) = true
        · have : badR (s[pos]'hp).toNat = false := by
            simp only [okB, Bool.and_eq_true, decide_eq_true_eq] at hb
            simp only [badR, Bool.or_eq_false_iff, decide_eq_false_iff_not]
            omega
          rw [this, if_neg (by decide), ih (pos + 1) (by omega), hb, Bool.true_and]
        · have hb' : okB (s[pos]'hp) = false := by simpa using hb
          have : badR (s[pos]'hp).toNat = true := by
            simp only [okB, Bool.and_eq_false_iff, decide_eq_false_iff_not] at hb'
            simp only [badR, Bool.or_eq_true, decide_eq_true_eq]
            omega
          rw [this, if_pos rfl, hb', Bool.false_and]
          simp
      · have h1 := decode_high s pos hp ha
        have : badR (Utf8.decode s pos).1 = true := by
          simp only [badR, Bool.or_eq_true, decide_eq_true_eq]
          omega
        rw [this, if_pos rfl]
        have : okB (s[pos]'hp) = false := by
          simp only [okB, Bool.and_eq_false_iff, decide_eq_false_iff_not]
          omega
        rw [this, Bool.false_and]
        simp
    · rw [if_neg hp]
      have : s.data.toList.drop pos = [] := List.drop_eq_nil_of_le (by simpa using by omega)
      simp [this]
theorem contains_bad (s : ByteArray) : decide (0 ≤ Lib.idxFunc badR true s) = !(allOk s) := by
  unfold allOk
  have := idx_bad s s.size 0 (by omega)
  rw [List.drop_zero] at this
  exact this

/-- a slice of components, read in memory -/
def Comps (w : World) (A : Option Addr) (n : Nat) (xs : List Comp) : Prop :=
  xs.length = n ∧ n ≤ 4611686018427387904 ∧ ∀ i c, xs[i]? = some c → ∃ ad, A = some ad ∧ w.cell? (ad.add (i * 2)) = some (.string c.id) ∧ w.cell? ⟨(ad.add (i * 2)).block, (ad.add (i * 2)).off + 1, none⟩ = some (.string c.kind)
theorem Comps.below {w w' : World} {A : Option Addr} {n : Nat} {xs : List Comp} (h : Comps w A n xs) (hb : Below w.heap.size w w') : Comps w' A n xs :=
  ⟨h.1, h.2.1, fun i c hc => by
    obtain ⟨ad, e, h1, h2⟩ := h.2.2 i c hc
    exact ⟨ad, e, (hb.cell (World.block_lt_of_cell? w _ h1)).trans h1, (hb.cell (World.block_lt_of_cell? w _ h2)).trans h2⟩⟩
theorem Comps.at_ {w : World} {A : Option Addr} {n : Nat} {xs : List Comp} (h : Comps w A n xs) {k : Nat} (hk : k < n) :
    ∃ c ad, xs[k]? = some c ∧ A = some ad ∧ w.cell? (ad.add (k * 2)) = some (.string c.id) ∧ w.cell? ⟨(ad.add (k * 2)).block, (ad.add (k * 2)).off + 1, none⟩ = some (.string c.kind) := by
  have hl : k < xs.length := by rw [h.1]; exact hk
  obtain ⟨ad, e, h1, h2⟩ := h.2.2 k xs[k] (List.getElem?_eq_getElem hl)
  exact ⟨_, ad, List.getElem?_eq_getElem hl, e, h1, h2⟩
def AllPart (xs : List Comp) (k : Nat) : Prop := (xs.take k).all part = true
theorem allPart_zero (xs : List Comp) : AllPart xs 0 := by simp [AllPart]
theorem allPart_succ {xs : List Comp} {k : Nat} {c : Comp} (h : AllPart xs k) (hc : xs[k]? = some c) (hp : part c = true) : AllPart xs (k + 1) := by
  unfold AllPart at *
  rw [List.take_add_one, hc, List.all_append, h]
  simp [hp]
theorem allPart_no {xs : List Comp} {k : Nat} {c : Comp} (hc : xs[k]? = some c) (hp : part c = false) : xs.all part = false := by
  rw [List.all_eq_false]
  exact ⟨c, List.mem_of_getElem? hc, by simp [hp]⟩
theorem allPart_all {xs : List Comp} {k : Nat} (h : AllPart xs k) (hk : xs.length ≤ k) : xs.all part = true := by
  unfold AllPart at h
  rwa [List.take_of_length_le hk] at h
def IdxPost (xs : List Comp) (i : Int) : Prop := decide (0 ≤ i) = !(xs.all part)
theorem valid_eq (n : List Comp) : valid n = (decide (1 ≤ n.length) && decide (n.length ≤ 20) && n.all part) := rfl
def cmpS (a b : ByteArray) : Int := Lib.compareBytes a.data.toList b.data.toList
def orI (x y : Int) : Int := if x ≠ 0 then x else y
theorem orI_pos {x : Int} (y : Int) (h : x ≠ 0) : orI x y = x := if_pos h
theorem orI_zero (y : Int) : orI 0 y = y := by simp [orI]
def cmpC (c d : Comp) : Int := orI (cmpS c.id d.id) (cmpS c.kind d.kind)
def compareX (c d : Comp) : Int := if part c && part d then cmpC c d else 0
def OkTo (s : ByteArray) (j : Nat) : Prop := (s.data.toList.take j).all okB = true
theorem okTo_zero (s : ByteArray) : OkTo s 0 := by simp [OkTo]
theorem okTo_succ {s : ByteArray} {j : Nat} (h : OkTo s j) (hj : j < s.size) (h1 : ¬ ((s[j]'hj).toNat : Int) < 33) (h2 : ¬ 126 < ((s[j]'hj).toNat : Int)) : OkTo s (j + 1) := by
  unfold OkTo at *
  have hl : j < s.data.toList.length := by simpa using hj
  rw [List.take_add_one, List.getElem?_eq_getElem hl, List.all_append, h]
  have : s.data.toList[j] = s[j]'hj := rfl
  simp only [Option.toList_some, List.all_cons, List.all_nil, Bool.and_true, Bool.true_and, this, okB, Bool.and_eq_true, decide_eq_true_eq]
  omega
theorem okTo_no {s : ByteArray} {j : Nat} (hj : j < s.size) (h : ((s[j]'hj).toNat : Int) < 33 ∨ 126 < ((s[j]'hj).toNat : Int)) : okS s = false := by
  rw [okS_eq]
  have hl : j < s.data.toList.length := by simpa using hj
  have : allOk s = false := by
    unfold allOk
    rw [List.all_eq_false]
    refine ⟨s.data.toList[j], List.getElem_mem hl, ?_⟩
    have : s.data.toList[j] = s[j]'hj := rfl
    simp only [this, okB, Bool.and_eq_true, decide_eq_true_eq]
    omega
  rw [this, Bool.and_false]
theorem okTo_all {s : ByteArray} {j : Nat} (h : OkTo s j) (hj : s.size ≤ j) (hm : s.size ≤ 32) : okS s = true := by
  rw [okS_eq, decide_eq_true hm, Bool.true_and]
  unfold OkTo at h
  rwa [List.take_of_length_le (by simpa using hj)] at h
theorem noComp_dec (c : Comp) : decide (c ≠ noComp) = (decide (c.id ≠ emptyS) || decide (c.kind ≠ emptyS)) := by
  cases c with
  | mk i k => by_cases h1 : i = emptyS <;> by_cases h2 : k = emptyS <;> simp [noComp, h1, h2]
def SameTo (xs ys : List Comp) (k : Nat) : Prop := xs.take k = ys.take k
theorem sameTo_zero (xs ys : List Comp) : SameTo xs ys 0 := by simp [SameTo]
theorem sameTo_succ {xs ys : List Comp} {k : Nat} {p q : Comp} (h : SameTo xs ys k) (hp : xs[k]? = some p) (hq : ys[k]? = some q) (e : p = q) : SameTo xs ys (k + 1) := by
  unfold SameTo at *
  rw [List.take_add_one, List.take_add_one, h, hp, hq, e]
theorem sameTo_no {xs ys : List Comp} {k : Nat} {p q : Comp} (hp : xs[k]? = some p) (hq : ys[k]? = some q) (e : p ≠ q) : decide (xs = ys) = false := by
  rw [decide_eq_false_iff_not]
  rintro rfl
  rw [hp] at hq
  exact e (Option.some.inj hq)
theorem sameTo_all {xs ys : List Comp} {k : Nat} (h : SameTo xs ys k) (h1 : xs.length ≤ k) (h2 : ys.length ≤ k) : decide (xs = ys) = true := by
  unfold SameTo at h
  rw [List.take_of_length_le h1, List.take_of_length_le h2] at h
  rw [h, decide_eq_true_eq]
theorem emptyS_dec (s : ByteArray) : (!s.toList.isEmpty) = decide (s ≠ emptyS) := by
  rw [ByteArray.toList_eq]
  cases s with
  | mk d => cases d with
    | mk l => cases l <;> simp [emptyS]

/-! texts -/
def mkB (c : UInt8) : Bool := c == 46 || c == 47 || c == 92
def escL (l : List UInt8) : List UInt8 := l.flatMap fun c => if mkB c then [92, c] else [c]
def ofL (l : List UInt8) : ByteArray := ⟨l.toArray⟩
theorem ofL_data (l : List UInt8) : (ofL l).data.toList = l := rfl
theorem ofL_toL (s : ByteArray) : ofL s.data.toList = s := rfl
theorem ofL_size (l : List UInt8) : (ofL l).size = l.length := rfl
def writtenL (c : Comp) : List UInt8 := escL c.id.data.toList ++ (if c.kind = emptyS then [] else 46 :: escL c.kind.data.toList)
def textL (n : List Comp) : List UInt8 := Lib.join (n.map writtenL) [47]
theorem escL_append (a b : List UInt8) : escL (a ++ b) = escL a ++ escL b := by simp [escL]
theorem escL_length (l : List UInt8) : (escL l).length ≤ 2 * l.length := by
  induction l with
  | nil => simp [escL]
  | cons c l ih =>
    have : escL (c :: l) = (if mkB c then [92, c] else [c]) ++ escL l := by simp [escL]
    rw [this, List.length_append, List.length_cons]
    split <;> simp <;> omega
theorem mkB_int (c : UInt8) : ((c.toNat : Int) == 46 || (c.toNat : Int) == 47 || (c.toNat : Int) == 92) = mkB c := by
  have key : ∀ n : Nat, n < 256 → ((c.toNat : Int) == (n : Int)) = (c == UInt8.ofNat n) := by
    intro n hn
    rw [Bool.eq_iff_iff, beq_iff_eq, beq_iff_eq]
    constructor
    · intro h
      have h : c.toNat = n := by omega
      rw [← h, UInt8.ofNat_toNat]
    · rintro rfl
      simp [UInt8.toNat_ofNat, Nat.mod_eq_of_lt hn]
  have h1 := key 46 (by omega)
  have h2 := key 47 (by omega)
  have h3 := key 92 (by omega)
  unfold mkB
  rw [show ((46 : Int) = ((46 : Nat) : Int)) from rfl, show ((47 : Int) = ((47 : Nat) : Int)) from rfl, show ((92 : Int) = ((92 : Nat) : Int)) from rfl, h1, h2, h3]
  rfl
theorem escL_snoc (s : ByteArray) (k : Nat) (hk : k < s.size) : escL (s.data.toList.take (k + 1)) = escL (s.data.toList.take k) ++ (if mkB (s[k]'hk) then [92, s[k]'hk] else [s[k]'hk]) := by
  have hl : k < s.data.toList.length := by simpa using hk
  rw [List.take_add_one, List.getElem?_eq_getElem hl, escL_append]
  have : s.data.toList[k] = s[k]'hk := rfl
  rw [this]
  simp [escL]
theorem ofL_append (x y : List UInt8) : ofL x ++ ofL y = ofL (x ++ y) := by
  have h : (ofL x ++ ofL y).data = (ofL (x ++ y)).data := by
    rw [ByteArray.data_append]
    simp [ofL]
  exact congrArg ByteArray.mk h
theorem extract_one (s : ByteArray) (k : Nat) (hk : k < s.size) : s.extract k (k + 1) = ofL [s[k]'hk] := by
  have hl : k < s.data.toList.length := by simpa using hk
  have h := Lib.extract_data s k (k + 1)
  have : s.extract k (k + 1) = ofL (s.extract k (k + 1)).data.toList := rfl
  rw [this, h]
  congr 1
  rw [show k + 1 - k = 1 by omega, List.drop_eq_getElem_cons hl]
  rfl
def wstrs (xs : List Comp) : List Value := xs.map fun c => .string (ofL (writtenL c))
theorem wstrs_succ {xs : List Comp} {k : Nat} {c : Comp} (h : xs[k]? = some c) : wstrs (xs.take (k + 1)) = wstrs (xs.take k) ++ [.string (ofL (writtenL c))] := by
  unfold wstrs
  rw [List.take_add_one, h]
  simp
theorem writtenL_length {c : Comp} (h : c.id.size ≤ 100 ∧ c.kind.size ≤ 100) : (writtenL c).length ≤ 500 := by
  have h1 := escL_length c.id.data.toList
  have h2 := escL_length c.kind.data.toList
  unfold writtenL
  split <;> simp at * <;> omega
theorem lens_le (l : List (List UInt8)) (m : Nat) (h : ∀ x ∈ l, x.length ≤ m) : Lib.lens l ≤ m * l.length := by
  induction l with
  | nil => simp [Lib.lens]
  | cons x l ih =>
    have h1 := h x (by simp)
    have h2 := ih fun y hy => h y (by simp [hy])
    unfold Lib.lens at *
    rw [List.map_cons, List.sum_cons, List.length_cons, Nat.mul_succ]
    omega
theorem textL_length {xs : List Comp} (h : ∀ c ∈ xs, c.id.size ≤ 100 ∧ c.kind.size ≤ 100) : (textL xs).length ≤ 501 * xs.length := by
  unfold textL
  cases xs with
  | nil => simp [Lib.join_nil]
  | cons x r =>
    rw [List.map_cons, Lib.join_length, ← List.map_cons]
    have h2 := lens_le ((x :: r).map writtenL) 500 (by
      intro y hy
      obtain ⟨c, hc, rfl⟩ := List.mem_map.1 hy
      exact writtenL_length (h c hc))
    simp only [List.length_map, List.length_cons, List.length_nil] at *
    omega
theorem joinW (xs : List Comp) : Lib.join ((xs.map fun c => ofL (writtenL c)).map (·.data.toList)) (ofL [47]).data.toList = textL xs := by
  unfold textL
  rw [List.map_map]
  rfl
theorem part_sizes {c : Comp} (h : part c = true) : c.id.size ≤ 32 ∧ c.kind.size ≤ 32 := by
  unfold part at h
  simp only [Bool.and_eq_true, okS_eq, decide_eq_true_eq] at h
  omega
theorem valid_sizes {n : List Comp} (h : valid n = true) : n.length ≤ 20 ∧ ∀ c ∈ n, c.id.size ≤ 32 ∧ c.kind.size ≤ 32 := by
  rw [valid_eq] at h
  simp only [Bool.and_eq_true, decide_eq_true_eq] at h
  exact ⟨h.1.2, fun c hc => part_sizes (List.all_eq_true.1 h.2 c hc)⟩
theorem str_ne {a b : ByteArray} (h : a ≠ b) : (a.toList == b.toList) = false := by
  rw [ByteArray.toList_eq, ByteArray.toList_eq]
  simp only [beq_eq_false_iff_ne]
  intro h'
  apply h
  cases a; cases b
  exact congrArg ByteArray.mk (Array.toList_inj.1 h')
end Go.Proofs.Ytmdolkkpoeoomaa.NmX
