/- Plain words: what a name is written as is read as the name. -/
import Derived.Test.YtmdolkkpoeoomaaNmP
namespace Go.Proofs.Ytmdolkkpoeoomaa.NmX
open Go Go.RowKit

def PS.addL (st : PS) (l : List UInt8) : PS :=
  if st.kind then { st with cur := ⟨st.cur.id, st.cur.kind ++ ofL l⟩ } else { st with cur := ⟨st.cur.id ++ ofL l, st.cur.kind⟩ }
theorem ofL_nil_append (s : ByteArray) : s ++ ofL [] = s := by
  have : s = ofL s.data.toList := rfl
  rw [this, ofL_append, List.append_nil]
theorem emptyS_append (l : List UInt8) : emptyS ++ ofL l = ofL l := by
  have : emptyS = ofL [] := rfl
  rw [this, ofL_append, List.nil_append]
theorem ba_assoc (a b c : List UInt8) (s : ByteArray) : s ++ ofL a ++ ofL b = s ++ ofL (a ++ b) := by
  have : s = ofL s.data.toList := rfl
  rw [this, ofL_append, ofL_append, ofL_append, List.append_assoc]
theorem addL_nil (st : PS) : st.addL [] = st := by
  unfold PS.addL
  rw [ofL_nil_append, ofL_nil_append]
  split <;> rfl
theorem addL_cons (st : PS) (c : UInt8) (l : List UInt8) : (st.add c).addL l = st.addL (c :: l) := by
  have h : ∀ s : ByteArray, s ++ ofL [c] ++ ofL l = s ++ ofL (c :: l) := fun s => ba_assoc [c] l [] s
  unfold PS.add PS.addL
  by_cases hk : st.kind = true
  · simp [hk, h]
  · simp [hk, h]
theorem run_esc (l r : List UInt8) : ∀ st : PS, run (escL l ++ r) st = run r (st.addL l) := by
  induction l with
  | nil => intro st; rw [addL_nil]; rfl
  | cons c l ih =>
    intro st
    have he : escL (c :: l) ++ r = (if mkB c then [92, c] else [c]) ++ (escL l ++ r) := by simp [escL]
    rw [he]
    cases hm : mkB c with
    | true =>
      simp only [if_true, List.cons_append, List.nil_append]
      rw [run_back, ih, addL_cons]
    | false =>
      simp only [Bool.false_eq_true, if_false, List.cons_append, List.nil_append]
      have h3 : c ≠ 46 ∧ c ≠ 47 ∧ c ≠ 92 := by
        simp only [mkB, Bool.or_eq_false_iff, beq_eq_false_iff_ne] at hm
        exact ⟨hm.1.1, hm.1.2, hm.2⟩
      rw [run_other c _ st h3.2.1 (fun h => h3.1 h.1) (fun h => absurd h h3.2.2), ih, addL_cons]
theorem run_written (c : Comp) (done : List Comp) (r : List UInt8) :
    ∃ k, run (writtenL c ++ r) ⟨done, noComp, false⟩ = run r ⟨done, c, k⟩ := by
  have h0 : (⟨done, noComp, false⟩ : PS).addL c.id.data.toList = ⟨done, ⟨c.id, emptyS⟩, false⟩ := by
    unfold PS.addL
    simp only [Bool.false_eq_true, if_false, noComp]
    rw [emptyS_append, ofL_toL]
  by_cases hk : c.kind = emptyS
  · refine ⟨false, ?_⟩
    have hw : writtenL c = escL c.id.data.toList := by simp [writtenL, hk]
    rw [hw, run_esc, h0, ← hk]
  · refine ⟨true, ?_⟩
    have hw : writtenL c ++ r = escL c.id.data.toList ++ (46 :: (escL c.kind.data.toList ++ r)) := by simp [writtenL, hk]
    rw [hw, run_esc, h0, run_dot _ _ rfl, run_esc]
    have h1 : (PS.dot ⟨done, ⟨c.id, emptyS⟩, false⟩).addL c.kind.data.toList = ⟨done, c, true⟩ := by
      unfold PS.addL PS.dot
      simp only [if_true]
      rw [emptyS_append, ofL_toL]
    rw [h1]
theorem run_names : ∀ (cs : List Comp) (c : Comp) (done : List Comp), (run (Lib.join ((c :: cs).map writtenL) [47]) ⟨done, noComp, false⟩).all = done ++ c :: cs := by
  intro cs
  induction cs with
  | nil =>
    intro c done
    obtain ⟨k, h⟩ := run_written c done []
    rw [List.append_nil, run_nil] at h
    rw [List.map_cons, List.map_nil, Lib.join_one, h]
    rfl
  | cons d cs ih =>
    intro c done
    obtain ⟨k, h⟩ := run_written c done (47 :: Lib.join ((d :: cs).map writtenL) [47])
    have hj : Lib.join ((c :: d :: cs).map writtenL) [47] = writtenL c ++ (47 :: Lib.join ((d :: cs).map writtenL) [47]) := by
      rw [List.map_cons, Lib.join_cons, List.map_cons, Lib.join_cons]
      simp [Lib.joinTail]
    rw [hj, h, run_slash]
    have hs : (PS.slash ⟨done, c, k⟩) = ⟨done ++ [c], noComp, false⟩ := rfl
    rw [hs, ih d (done ++ [c])]
    simp
theorem parse_text {n : List Comp} (h : valid n = true) : parseX (ofL (textL n)) = some n := by
  have h1 : 1 ≤ n.length := by
    rw [valid_eq] at h
    simp only [Bool.and_eq_true, decide_eq_true_eq] at h
    exact h.1.1
  cases n with
  | nil => simp at h1
  | cons c cs =>
    have hr := run_names cs c []
    rw [List.nil_append] at hr
    have hr' : (run (ofL (textL (c :: cs))).data.toList PS.init).all = c :: cs := hr
    unfold parseX
    simp only [hr', h, decide_true, Bool.and_self, if_true]
theorem parse_yes {s : ByteArray} {n : List Comp} (h : parseX s = some n) : valid n = true ∧ ofL (textL n) = s := by
  unfold parseX at h
  simp only at h
  split at h
  · rename_i hc
    simp only [Bool.and_eq_true, decide_eq_true_eq] at hc
    have := Option.some.inj h
    rw [this] at hc
    exact hc
  · cases h
theorem text_short {n : List Comp} (h : valid n = true) : (ofL (textL n)).size ≤ 65536 := by
  have hv := valid_sizes h
  have := textL_length (xs := n) (fun c hc => ⟨by have := (hv.2 c hc).1; omega, by have := (hv.2 c hc).2; omega⟩)
  rw [ofL_size]
  have := hv.1
  omega
end Go.Proofs.Ytmdolkkpoeoomaa.NmX
