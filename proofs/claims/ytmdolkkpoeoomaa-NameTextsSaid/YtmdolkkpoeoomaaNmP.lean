/- Plain words: reading a name's text, without any program. -/
import Derived.Test.YtmdolkkpoeoomaaNm
namespace Go.Proofs.Ytmdolkkpoeoomaa.NmX
open Go Go.RowKit

/-- what has been read: the components before the last one, the last one, and whether its kind is being read -/
structure PS where
  done : List Comp
  cur : Comp
  kind : Bool
def PS.all (st : PS) : List Comp := st.done ++ [st.cur]
def PS.init : PS := ⟨[], noComp, false⟩
def PS.slash (st : PS) : PS := ⟨st.done ++ [st.cur], noComp, false⟩
def PS.dot (st : PS) : PS := { st with kind := true }
def PS.add (st : PS) (c : UInt8) : PS :=
  if st.kind then { st with cur := ⟨st.cur.id, st.cur.kind ++ ofL [c]⟩ } else { st with cur := ⟨st.cur.id ++ ofL [c], st.cur.kind⟩ }
def run : List UInt8 → PS → PS
  | [], st => st
  | [c], st => if c = 47 then st.slash else if c = 46 ∧ st.kind = false then st.dot else st.add c
  | c :: d :: r, st =>
    if c = 47 then run (d :: r) st.slash
    else if c = 46 ∧ st.kind = false then run (d :: r) st.dot
    else if c = 92 then run r (st.add d)
    else run (d :: r) (st.add c)
/-- a name's text, read: none if it is none -/
def parseX (s : ByteArray) : Option (List Comp) :=
  let n := (run s.data.toList PS.init).all
  if valid n && decide (ofL (textL n) = s) then some n else none

theorem run_nil (st : PS) : run [] st = st := by rw [run]
theorem run_slash (r : List UInt8) (st : PS) : run (47 :: r) st = run r st.slash := by
  cases r with
  | nil => rw [run_nil, run, if_pos rfl]
  | cons d r => rw [run, if_pos rfl]
theorem run_dot (r : List UInt8) (st : PS) (h : st.kind = false) : run (46 :: r) st = run r st.dot := by
  cases r with
  | nil => rw [run_nil, run, if_neg (by decide), if_pos ⟨rfl, h⟩]
  | cons d r => rw [run, if_neg (by decide), if_pos ⟨rfl, h⟩]
theorem run_back (d : UInt8) (r : List UInt8) (st : PS) : run (92 :: d :: r) st = run r (st.add d) := by
  rw [run, if_neg (by decide), if_neg (fun h => absurd h.1 (by decide)), if_pos rfl]
theorem run_other (c : UInt8) (r : List UInt8) (st : PS) (h1 : c ≠ 47) (h2 : ¬ (c = 46 ∧ st.kind = false)) (h3 : c = 92 → r = []) : run (c :: r) st = run r (st.add c) := by
  cases r with
  | nil => rw [run_nil, run, if_neg h1, if_neg h2]
  | cons d r => rw [run, if_neg h1, if_neg h2, if_neg (fun h => absurd (h3 h) (by simp))]

def PS.bad (st : PS) : Prop := 20 < st.all.length ∨ ∃ c ∈ st.all, 32 < c.id.size ∨ 32 < c.kind.size
theorem bad_no {st : PS} (h : st.bad) : valid st.all = false := by
  rw [valid_eq]
  rcases h with h | ⟨c, hc, h⟩
  · rw [decide_eq_false (p := st.all.length ≤ 20) (by omega), Bool.and_false, Bool.false_and]
  · have hp : part c = false := by
      rcases h with h | h
      · exact part_no0 (okS_no (.inl (by omega)))
      · exact part_no1 (okS_no (.inl (by omega)))
    have : st.all.all part = false := by
      rw [List.all_eq_false]
      exact ⟨c, hc, by simp [hp]⟩
    rw [this, Bool.and_false]
theorem bad_slash {st : PS} (h : st.bad) : st.slash.bad := by
  rcases h with h | ⟨c, hc, h⟩
  · left
    simp [PS.slash, PS.all] at *
    omega
  · right
    refine ⟨c, ?_, h⟩
    simp [PS.slash, PS.all] at *
    rcases hc with hc | hc
    · exact .inl hc
    · exact .inr (.inl hc)
theorem bad_dot {st : PS} (h : st.bad) : st.dot.bad := h
theorem bad_add {st : PS} (c : UInt8) (h : st.bad) : (st.add c).bad := by
  rcases h with h | ⟨x, hx, h⟩
  · left
    unfold PS.add
    split <;> simpa [PS.all] using h
  · right
    simp [PS.all] at hx
    rcases hx with hx | rfl
    · exact ⟨x, by unfold PS.add; split <;> simp [PS.all, hx], h⟩
    · refine ⟨(st.add c).cur, by simp [PS.all], ?_⟩
      unfold PS.add
      split
      · rcases h with h | h
        · exact .inl h
        · exact .inr (by simp only [ByteArray.size_append]; omega)
      · rcases h with h | h
        · exact .inl (by simp only [ByteArray.size_append]; omega)
        · exact .inr h
theorem bad_run : ∀ (n : Nat) (l : List UInt8) (st : PS), l.length ≤ n → st.bad → (run l st).bad := by
  intro n
  induction n with
  | zero =>
    intro l st hl h
    have : l = [] := List.eq_nil_of_length_eq_zero (by omega)
    rw [this, run_nil]; exact h
  | succ n ih =>
    intro l st hl h
    cases l with
    | nil => rw [run_nil]; exact h
    | cons c r =>
      simp at hl
      by_cases h1 : c = 47
      · rw [h1, run_slash]; exact ih _ _ hl (bad_slash h)
      · by_cases h2 : c = 46 ∧ st.kind = false
        · rw [h2.1, run_dot _ _ h2.2]; exact ih _ _ hl (bad_dot h)
        · by_cases h3 : c = 92 → r = []
          · rw [run_other c r st h1 h2 h3]; exact ih _ _ hl (bad_add _ h)
          · cases r with
            | nil => exact absurd (fun _ => rfl) h3
            | cons d r' =>
              have h4 : c = 92 := Classical.byContradiction fun hne => h3 fun h => absurd h hne
              rw [h4, run_back]
              simp at hl
              exact ih _ _ (by omega) (bad_add _ h)
/-- what is read so far leads to the whole: state st before byte i -/
def Leads (s : ByteArray) (i : Nat) (st : PS) : Prop := run (s.data.toList.drop i) st = run s.data.toList PS.init
theorem leads_init (s : ByteArray) : Leads s 0 PS.init := by simp [Leads]
theorem drop_at (s : ByteArray) {i : Nat} (hi : i < s.size) : s.data.toList.drop i = s[i]'hi :: s.data.toList.drop (i + 1) := by
  rw [List.drop_eq_getElem_cons (by simpa using hi)]
  rfl
theorem leads_slash {s : ByteArray} {i : Nat} {st : PS} (h : Leads s i st) (hi : i < s.size) (hc : s[i]'hi = 47) : Leads s (i + 1) st.slash := by
  unfold Leads at *
  rwa [drop_at s hi, hc, run_slash] at h
theorem leads_dot {s : ByteArray} {i : Nat} {st : PS} (h : Leads s i st) (hi : i < s.size) (hc : s[i]'hi = 46) (hk : st.kind = false) : Leads s (i + 1) st.dot := by
  unfold Leads at *
  rwa [drop_at s hi, hc, run_dot _ _ hk] at h
theorem leads_back {s : ByteArray} {i : Nat} {st : PS} (h : Leads s i st) (hi : i + 1 < s.size) (hc : s[i]'(by omega) = 92) : Leads s (i + 1 + 1) (st.add (s[i + 1]'hi)) := by
  unfold Leads at *
  rwa [drop_at s (show i < s.size by omega), hc, drop_at s hi, run_back] at h
theorem leads_other {s : ByteArray} {i : Nat} {st : PS} (h : Leads s i st) (hi : i < s.size) (h1 : s[i]'hi ≠ 47) (h2 : ¬ (s[i]'hi = 46 ∧ st.kind = false)) (h3 : s[i]'hi = 92 → s.size ≤ i + 1) : Leads s (i + 1) (st.add (s[i]'hi)) := by
  unfold Leads at *
  rw [drop_at s hi, run_other _ _ _ h1 h2 (fun e => List.drop_eq_nil_of_le (by have := h3 e; simpa using this))] at h
  exact h
theorem leads_end {s : ByteArray} {i : Nat} {st : PS} (h : Leads s i st) (hi : s.size ≤ i) : (run s.data.toList PS.init).all = st.all := by
  unfold Leads at h
  rw [List.drop_eq_nil_of_le (by simpa using hi), run_nil] at h
  rw [← h]
theorem leads_bad {s : ByteArray} {i : Nat} {st : PS} (h : Leads s i st) (hb : st.bad) : parseX s = none := by
  unfold Leads at h
  have := bad_no (bad_run _ (s.data.toList.drop i) st (Nat.le_refl _) hb)
  rw [h] at this
  unfold parseX
  simp only [this, Bool.false_and]
  rfl
theorem leads_no {s : ByteArray} {i : Nat} {st : PS} (h : Leads s i st) (hi : s.size ≤ i) (hv : valid st.all = false) : parseX s = none := by
  unfold parseX
  simp only [leads_end h hi, hv, Bool.false_and]
  rfl
theorem leads_ne {s : ByteArray} {i : Nat} {st : PS} (h : Leads s i st) (hi : s.size ≤ i) (hv : ofL (textL st.all) ≠ s) : parseX s = none := by
  unfold parseX
  simp only [leads_end h hi, decide_eq_false hv, Bool.and_false]
  rfl
theorem leads_yes {s : ByteArray} {i : Nat} {st : PS} (h : Leads s i st) (hi : s.size ≤ i) (hv : valid st.all = true) (ht : ofL (textL st.all) = s) : parseX s = some st.all := by
  unfold parseX
  simp only [leads_end h hi, hv, decide_eq_true ht]
  rfl

/-- how far a reader has come, and how much it holds -/
def PGood (s : ByteArray) (i : Nat) (st : PS) : Prop := Leads s i st ∧ st.done.length ≤ i ∧ st.cur.id.size ≤ i ∧ st.cur.kind.size ≤ i
theorem pgood_init (s : ByteArray) : PGood s 0 PS.init := ⟨leads_init s, Nat.le_refl _, Nat.le_refl _, Nat.le_refl _⟩
theorem pgood_slash {s : ByteArray} {i : Nat} {st : PS} (h : PGood s i st) (hi : i < s.size) (hc : s[i]'hi = 47) : PGood s (i + 1) st.slash :=
  ⟨leads_slash h.1 hi hc, by have := h.2.1; simp [PS.slash]; omega, Nat.zero_le _, Nat.zero_le _⟩
theorem pgood_dot {s : ByteArray} {i : Nat} {st : PS} (h : PGood s i st) (hi : i < s.size) (hc : s[i]'hi = 46) (hk : st.kind = false) : PGood s (i + 1) st.dot :=
  ⟨leads_dot h.1 hi hc hk, by have := h.2.1; simp [PS.dot]; omega, by have := h.2.2.1; simp [PS.dot]; omega, by have := h.2.2.2; simp [PS.dot]; omega⟩
theorem add_sizes (st : PS) (c : UInt8) : (st.add c).done = st.done ∧ (st.add c).cur.id.size ≤ st.cur.id.size + 1 ∧ (st.add c).cur.kind.size ≤ st.cur.kind.size + 1 := by
  unfold PS.add
  split
  · exact ⟨rfl, by simp, by rw [ByteArray.size_append]; exact Nat.le_refl _⟩
  · exact ⟨rfl, by rw [ByteArray.size_append]; exact Nat.le_refl _, by simp⟩
theorem pgood_back {s : ByteArray} {i : Nat} {st : PS} (h : PGood s i st) (hi : i + 1 < s.size) (hc : s[i]'(by omega) = 92) : PGood s (i + 1 + 1) (st.add (s[i + 1]'hi)) := by
  obtain ⟨h1, h2, h3⟩ := add_sizes st (s[i + 1]'hi)
  obtain ⟨g0, g1, g2, g3⟩ := h
  exact ⟨leads_back g0 hi hc, by rw [h1]; omega, by omega, by omega⟩
theorem pgood_other {s : ByteArray} {i : Nat} {st : PS} (h : PGood s i st) (hi : i < s.size) (h1 : s[i]'hi ≠ 47) (h2 : ¬ (s[i]'hi = 46 ∧ st.kind = false)) (h3 : s[i]'hi = 92 → s.size ≤ i + 1) : PGood s (i + 1) (st.add (s[i]'hi)) := by
  obtain ⟨k1, k2, k3⟩ := add_sizes st (s[i]'hi)
  obtain ⟨g0, g1, g2, g3⟩ := h
  exact ⟨leads_other g0 hi h1 h2 h3, by rw [k1]; omega, by omega, by omega⟩

/-! the cells of components, one behind the other -/
def compCells (xs : List Comp) : List Value := xs.flatMap fun c => [.string c.id, .string c.kind]
theorem compCells_length (xs : List Comp) : (compCells xs).length = xs.length * 2 := by
  induction xs with
  | nil => rfl
  | cons c xs ih => simp [compCells] at *; omega
theorem compCells_append (xs ys : List Comp) : compCells (xs ++ ys) = compCells xs ++ compCells ys := by simp [compCells]
theorem compCells_last0 (xs : List Comp) (c : Comp) : (compCells (xs ++ [c]))[xs.length * 2]? = some (.string c.id) := by
  rw [compCells_append, List.getElem?_append_right (by rw [compCells_length]; omega), compCells_length]
  simp [compCells]
theorem compCells_last1 (xs : List Comp) (c : Comp) : (compCells (xs ++ [c]))[xs.length * 2 + 1]? = some (.string c.kind) := by
  rw [compCells_append, List.getElem?_append_right (by rw [compCells_length]; omega), compCells_length]
  simp [compCells]
theorem compCells_set0 (xs : List Comp) (c : Comp) (s : ByteArray) : (compCells (xs ++ [c])).set (xs.length * 2) (.string s) = compCells (xs ++ [⟨s, c.kind⟩]) := by
  rw [compCells_append, List.set_append_right _ _ (by rw [compCells_length]; omega), compCells_length, compCells_append]
  simp [compCells]
theorem compCells_set1 (xs : List Comp) (c : Comp) (s : ByteArray) : (compCells (xs ++ [c])).set (xs.length * 2 + 1) (.string s) = compCells (xs ++ [⟨c.id, s⟩]) := by
  rw [compCells_append, List.set_append_right _ _ (by rw [compCells_length]; omega), compCells_length, compCells_append]
  simp [compCells]
theorem add_cells_kind {st : PS} (c : UInt8) (h : st.kind = true) : compCells (st.add c).all = (compCells st.all).set (st.done.length * 2 + 1) (.string (st.cur.kind ++ ⟨#[c]⟩)) := by
  unfold PS.add PS.all
  rw [if_pos h, compCells_set1]
  rfl
theorem add_cells_id {st : PS} (c : UInt8) (h : st.kind = false) : compCells (st.add c).all = (compCells st.all).set (st.done.length * 2) (.string (st.cur.id ++ ⟨#[c]⟩)) := by
  unfold PS.add PS.all
  rw [if_neg (by rw [h]; decide), compCells_set0]
  rfl
theorem add_all_length (st : PS) (c : UInt8) : (st.add c).all.length = st.done.length + 1 := by
  unfold PS.add PS.all
  split <;> simp
theorem add_kind (st : PS) (c : UInt8) : (st.add c).kind = st.kind := by
  unfold PS.add
  split <;> rfl
theorem u8_ne {a b : UInt8} (h : a ≠ b) : ((a.toNat : Int) == (b.toNat : Int)) = false := by
  rw [beq_eq_false_iff_ne]
  intro h'
  exact h (UInt8.toNat_inj.1 (by omega))
theorem bad_field1 {st : PS} (c : UInt8) (h : st.kind = true) (hs : 32 < st.cur.kind.size + 1) : (st.add c).bad := by
  right
  refine ⟨(st.add c).cur, by simp [PS.all], .inr ?_⟩
  unfold PS.add
  rw [if_pos h]
  show 32 < (st.cur.kind ++ ofL [c]).size
  rw [ByteArray.size_append]
  exact hs
theorem bad_field0 {st : PS} (c : UInt8) (h : st.kind = false) (hs : 32 < st.cur.id.size + 1) : (st.add c).bad := by
  right
  refine ⟨(st.add c).cur, by simp [PS.all], .inl ?_⟩
  unfold PS.add
  rw [if_neg (by rw [h]; decide)]
  show 32 < (st.cur.id ++ ofL [c]).size
  rw [ByteArray.size_append]
  exact hs
theorem comps_of_own {w : World} {B e : Nat} {v : Value} {n : Nat} {xs : List Comp} (h : w.ownsRow B e 2 v n (compCells xs)) (hn : n ≤ 4611686018427387904) :
    ∃ A c, v = .slice A n c ∧ Comps w A n xs := by
  have hl : xs.length = n := by have := h.1; rw [compCells_length] at this; omega
  rcases h.2 with ⟨rfl, rfl⟩ | ⟨g, cap, cur, rfl, _⟩
  · refine ⟨none, 0, rfl, hl, by omega, fun i c hc => ?_⟩
    have : xs = [] := List.eq_nil_of_length_eq_zero hl
    rw [this] at hc
    simp at hc
  · refine ⟨_, _, rfl, hl, hn, fun i c hc => ⟨_, rfl, ?_, ?_⟩⟩
    all_goals
      obtain ⟨a1, a2, rfl, rfl⟩ : ∃ a1 a2, xs = a1 ++ c :: a2 ∧ a1.length = i := by
        refine ⟨xs.take i, xs.drop (i + 1), ?_, ?_⟩
        · have hi : i < xs.length := (List.getElem?_eq_some_iff.1 hc).1
          have h1 := List.getElem?_eq_getElem hi
          rw [h1] at hc
          have h2 := Option.some.inj hc
          rw [← h2, List.getElem_cons_drop hi, List.take_append_drop]
        · have hi : i < xs.length := (List.getElem?_eq_some_iff.1 hc).1
          simp; omega
    · have := h.cells (g := g) rfl (a1.length * 2) (.string c.id) (by
        rw [compCells_append, List.getElem?_append_right (by rw [compCells_length]; omega), compCells_length]
        simp [compCells])
      exact this
    · have := h.cells (g := g) rfl (a1.length * 2 + 1) (.string c.kind) (by
        rw [compCells_append, List.getElem?_append_right (by rw [compCells_length]; omega), compCells_length]
        simp [compCells])
      rw [← this]
      by_cases h0 : a1.length = 0
      · simp [Addr.add, h0]
      · have hne : ¬ a1.length * 2 = 0 := by omega
        simp [Addr.add, hne]
end Go.Proofs.Ytmdolkkpoeoomaa.NmX
