/- The store of the law's own example: one context bound into itself. -/
import Derived.Test.YtmdolkkpoeoomaaNmG
import Derived.MapKept
import Derived.WideKeyRuns
import Derived.DeepKeys3
namespace Go.Proofs.Ytmdolkkpoeoomaa
open Go.RowKit NmX

/-- an object put in the place of another one -/
def putM (w : World) (r : Nat) (o : Obj) : World := { w with heap := w.heap.setIfInBounds r o }
theorem putM_size (w : World) (r : Nat) (o : Obj) : (putM w r o).heap.size = w.heap.size := by simp [putM]
theorem putM_same {w : World} {r : Nat} (o : Obj) (h : r < w.heap.size) : (putM w r o).heap[r]? = some o := by simp [putM, Array.getElem?_setIfInBounds, h]
theorem putM_other (w : World) {r k : Nat} (o : Obj) (h : k ≠ r) : (putM w r o).heap[k]? = w.heap[k]? := by
  simp only [putM, Array.getElem?_setIfInBounds]
  rw [if_neg (fun e => h e.symm)]
theorem below_putM {B : Nat} {a W : World} (h : Below B a W) (r : Nat) (o : Obj) (hr : B ≤ r) : Below B a (putM W r o) :=
  ⟨h.os, h.tape, h.output, by rw [putM_size]; exact h.size, fun k hk => by rw [putM_other W o (by omega)]; exact h.block k hk⟩

/-- what may have turned of what lay there: the blocks of M alone -/
structure Only (w w' : World) (M : Nat → Prop) : Prop where
  os : w'.os = w.os
  tape : w'.tape = w.tape
  output : w'.output = w.output
  size : w.heap.size ≤ w'.heap.size
  block : ∀ k, k < w.heap.size → ¬ M k → w'.heap[k]? = w.heap[k]?
theorem Only.refl (w : World) (M : Nat → Prop) : Only w w M := ⟨rfl, rfl, rfl, Nat.le_refl _, fun _ _ _ => rfl⟩
theorem Only.of_below {w w' : World} (M : Nat → Prop) (h : Below w.heap.size w w') : Only w w' M := ⟨h.os, h.tape, h.output, h.size, fun k hk _ => h.block k hk⟩
theorem Only.trans {a b c : World} {M : Nat → Prop} (h : Only a b M) (k : Only b c M) : Only a c M :=
  ⟨k.os.trans h.os, k.tape.trans h.tape, k.output.trans h.output, Nat.le_trans h.size k.size, fun i hi hm => (k.block i (Nat.lt_of_lt_of_le hi h.size) hm).trans (h.block i hi hm)⟩
theorem Only.then {a b c : World} {M : Nat → Prop} (h : Only a b M) (k : Below b.heap.size b c) : Only a c M := h.trans (Only.of_below M k)
theorem Only.setCell {a w : World} {M : Nat → Prop} (h : Only a w M) {p : Addr} (hp : M p.block ∨ a.heap.size ≤ p.block) (u : Value) : Only a (w.setCell p u) M :=
  ⟨h.os, h.tape, h.output, by simpa [World.setCell] using h.size, fun k hk hm => (Below.heap_setCell w p u k (by rintro rfl; rcases hp with hp | hp; exact hm hp; omega)).trans (h.block k hk hm)⟩
theorem Only.put {a w : World} {M : Nat → Prop} (h : Only a w M) {r : Nat} (o : Obj) (hr : M r ∨ a.heap.size ≤ r) : Only a (putM w r o) M :=
  ⟨h.os, h.tape, h.output, by rw [putM_size]; exact h.size, fun k hk hm => (putM_other w o (by rintro rfl; rcases hr with hr | hr; exact hm hr; omega)).trans (h.block k hk hm)⟩
theorem Only.below {a w : World} {M : Nat → Prop} (h : Only a w M) {B : Nat} (hB : B ≤ a.heap.size) (hM : ∀ k, M k → B ≤ k) : Below B a w :=
  ⟨h.os, h.tape, h.output, h.size, fun k hk => h.block k (by omega) (fun hm => by have := hM k hm; omega)⟩
theorem Only.cell {a w : World} {M : Nat → Prop} (h : Only a w M) {p : Addr} (hp : p.block < a.heap.size) (hm : ¬ M p.block) : w.cell? p = a.cell? p := World.cell?_of_block (h.block _ hp hm)

def kx : Value := .agg #[.string ⟨#[120]⟩, .string ⟨#[]⟩]
theorem eq_comp (c d : Comp) (W : World) : (Op.equal 25 c.val d.val).run Try.prog W = .ok (decide (c = d)) W := by
  show (Op.equalIn 10000 25 (.agg #[.string c.id, .string c.kind]) (.agg #[.string d.id, .string d.kind])).run Try.prog W = _
  simp [go_sem]
  have hd : decide (c = d) = decide (c.id.toList = d.id.toList ∧ c.kind.toList = d.kind.toList) := decide_eq_decide.2 (comp_eq_iff c d)
  rw [hd]
  by_cases h1 : c.id.toList = d.id.toList
  · by_cases h2 : c.kind.toList = d.kind.toList
    · simp [h1, h2]
    · simp [h1, h2]
  · simp [h1]
theorem eq_kx (W : World) : (Op.equal 25 kx kx).run Try.prog W = .ok true W := by
  have h := eq_comp ⟨⟨#[120]⟩, ⟨#[]⟩⟩ ⟨⟨#[120]⟩, ⟨#[]⟩⟩ W
  rw [decide_eq_true rfl] at h
  exact h
theorem ck_kx (W : World) (e : Bool) : (Instr.checkKey e 10000 25 kx).run Try.prog W = .ok () W :=
  run_checkKey_deep (P := Try.prog) e 9990 10 25 (by kernel_rfl) W 10 kx [.string [120], .string []] (by kernel_rfl) (by kernel_rfl)
theorem ck_0 (W : World) (e : Bool) : (Instr.checkKey e 10000 3 (.int .i64 0)).run Try.prog W = .ok () W :=
  MapKept.run_checkKey (P := Try.prog) (n := 9999) Try.underlying3 (by simp [MapKept.IsKey]) e
theorem lk0 (W : World) (r : Nat) (v : Value) (b c : Nat) (ok : Bool) (h : W.heap[r]? = some (.map #[{ key := .int .i64 0, val := v, born := b }] c)) :
    (Instr.lookup 53 (.map (some r)) (.int .i64 0) ok).run Try.prog W = .ok (if ok then .tuple #[v, .bool true] else v) W := by
  unfold Instr.lookup
  simp [run_underlying Try.underlying53, getObj, h, Sem.run, ck_0, run_underlying Try.underlying3, Instr.findKey, Instr.findNow, Instr.sameNow]
theorem lkx (W : World) (r : Nat) (v : Value) (b c : Nat) (ok : Bool) (h : W.heap[r]? = some (.map #[{ key := kx, val := v, born := b }] c)) :
    (Instr.lookup 52 (.map (some r)) kx ok).run Try.prog W = .ok (if ok then .tuple #[v, .bool true] else v) W := by
  have h1 : Instr.sameNow (.struct (Try.prog.fieldsOf 25)) kx kx = none := rfl
  unfold Instr.lookup
  simp [run_underlying Try.underlying52, getObj, h, Sem.run, ck_kx, run_underlying Try.underlying25, Instr.findKey, Instr.findNow, Instr.sameNow, Instr.findAsking, eq_kx]
theorem lke (W : World) (r c : Nat) (ok : Bool) (h : W.heap[r]? = some (.map #[] c)) :
    (Instr.lookup 52 (.map (some r)) kx ok).run Try.prog W = .ok (if ok then .tuple #[.nilIface, .bool false] else .nilIface) W := by
  unfold Instr.lookup
  simp [run_underlying Try.underlying52, getObj, h, Sem.run, ck_kx, run_underlying Try.underlying25, Instr.findKey, Instr.findNow, Try.zeroValue62]
theorem upx (W : World) (r c : Nat) (v : Value) (h : W.heap[r]? = some (.map #[] c)) :
    (Instr.mapUpdate 52 (.map (some r)) kx v).run Try.prog W = .ok () (putM W r (.map #[{ key := kx, val := v, born := c }] (c + 1))) := by
  unfold Instr.mapUpdate putM
  simp [run_underlying Try.underlying52, getObj, setObj, h, Sem.run, ck_kx, run_underlying Try.underlying25, Instr.findKey, Instr.findNow]

/-- the example's store: the root alone, its bindings in the block m1 -/
structure Ex (W : World) (S m0 m1 : Nat) (n : Int) (es : Array MapEntry) (ck : Nat) : Prop where
  store : W.heap[S]? = some (.cells #[.map (some m0), .int .i64 1, .int .i64 n] 55 (0, 0))
  root : W.heap[m0]? = some (.map #[{ key := .int .i64 0, val := .map (some m1), born := 0 }] 1)
  map : W.heap[m1]? = some (.map es ck)
theorem Ex.cell0 {W : World} {S m0 m1 : Nat} {n : Int} {es : Array MapEntry} {ck : Nat} (h : Ex W S m0 m1 n es ck) : W.cell? ⟨S, 0, none⟩ = some (.map (some m0)) := by rw [Lib.cell_of_heap h.store]; rfl
theorem Ex.cell2 {W : World} {S m0 m1 : Nat} {n : Int} {es : Array MapEntry} {ck : Nat} (h : Ex W S m0 m1 n es ck) : W.cell? ⟨S, 2, none⟩ = some (.int .i64 n) := by rw [Lib.cell_of_heap h.store]; rfl
theorem Ex.below {W W' : World} {S m0 m1 : Nat} {n : Int} {es : Array MapEntry} {ck : Nat} (h : Ex W S m0 m1 n es ck) (hb : Below W.heap.size W W') : Ex W' S m0 m1 n es ck :=
  ⟨(hb.block _ (lt_of_block h.store)).trans h.store, (hb.block _ (lt_of_block h.root)).trans h.root, (hb.block _ (lt_of_block h.map)).trans h.map⟩

theorem Ex.far {W : World} {S m0 m1 : Nat} {n : Int} {es : Array MapEntry} {ck : Nat} (h : Ex W S m0 m1 n es ck) {p : Addr} (h0 : S ≠ p.block) (h1 : m0 ≠ p.block) (h2 : m1 ≠ p.block) (u : Value) : Ex (W.setCell p u) S m0 m1 n es ck :=
  ⟨(Below.heap_setCell W p u S h0).trans h.store, (Below.heap_setCell W p u m0 h1).trans h.root, (Below.heap_setCell W p u m1 h2).trans h.map⟩
theorem Ex.count {W : World} {S m0 m1 : Nat} {n : Int} {es : Array MapEntry} {ck : Nat} (h : Ex W S m0 m1 n es ck) (k : Int) : Ex (W.setCell ⟨S, 2, none⟩ (.int .i64 k)) S m0 m1 k es ck := by
  have h0 : m0 ≠ S := by rintro rfl; have := h.store.symm.trans h.root; cases this
  have h1 : m1 ≠ S := by rintro rfl; have := h.store.symm.trans h.map; cases this
  refine ⟨?_, (Below.heap_setCell W _ _ m0 h0).trans h.root, (Below.heap_setCell W _ _ m1 h1).trans h.map⟩
  have hs := h.store
  simp [World.setCell, Array.getElem?_modify, hs]
theorem Ex.put {W : World} {S m0 m1 : Nat} {n : Int} {es : Array MapEntry} {ck : Nat} (h : Ex W S m0 m1 n es ck) (es' : Array MapEntry) (ck' : Nat) (hne : m0 ≠ m1) : Ex (putM W m1 (.map es' ck')) S m0 m1 n es' ck' := by
  have h1 : S ≠ m1 := by rintro rfl; have := h.store.symm.trans h.map; cases this
  exact ⟨(putM_other W _ h1).trans h.store, (putM_other W _ hne).trans h.root, putM_same _ (lt_of_block h.map)⟩

theorem setCell_block {w : World} {b : Nat} {cs : Array Value} {t : TypeId} (h : w.heap[b]? = some (.cells cs t (0, 0))) (i : Nat) (u : Value) : (w.setCell ⟨b, i, none⟩ u).heap[b]? = some (.cells (cs.setIfInBounds i u) t (0, 0)) := by
  simp [World.setCell, Array.getElem?_modify, h]

theorem asked_ex (W : World) (S m0 m1 : Nat) (n : Int) (es : Array MapEntry) (ck : Nat) (h : Ex W S m0 m1 n es ck) (A : Option Addr) (l cap : Nat) (xs : List Comp) (hx : Comps W A l xs) (hv : valid xs = true) :
    Calls Try.prog 26 #[.pointer (some ⟨S, 0, none⟩), .int .i64 0, .slice A l cap] W fun e w' => e = .returned (.int .i64 0) ∧ Below W.heap.size W w' := by
  have cv := fun w h => valid_any A l cap xs w h
  rw [hv] at cv
  clear hv
  go_enter Try.func26, Try.ntmps26
  go_wp2_with fail
  refine (cv _ hx).mono ?_
  rintro e w1 ⟨rfl, hb1⟩
  have h1 := h.below hb1
  have c0 := h1.cell0
  have L0 := fun ok => lk0 w1 m0 (.map (some m1)) 0 1 ok h1.root
  have L1 := L0 true
  simp only [if_true] at L1
  clear L0 h cv hx h1
  go_wp2
  go_ret
  exact ⟨rfl, hb1⟩

theorem up0 (W : World) (r c : Nat) (v : Value) (h : W.heap[r]? = some (.map #[] c)) :
    (Instr.mapUpdate 53 (.map (some r)) (.int .i64 0) v).run Try.prog W = .ok () (putM W r (.map #[{ key := .int .i64 0, val := v, born := c }] (c + 1))) := by
  unfold Instr.mapUpdate putM
  simp [run_underlying Try.underlying53, getObj, setObj, h, Sem.run, ck_0, run_underlying Try.underlying3, Instr.findKey, Instr.findNow]
set_option maxRecDepth 100000 in
theorem new_ex (W : World) :
    Calls Try.prog 14 #[] W fun e w' => ∃ S m0 m1, e = .returned (.pointer (some ⟨S, 0, none⟩)) ∧ Ex w' S m0 m1 0 #[] 0 ∧ W.heap.size ≤ S ∧ W.heap.size ≤ m1 ∧ Below W.heap.size W w' := by
  have hmm := @run_makeMap Try.prog
  have hup := up0 ((W.alloc (.map #[] 0)).alloc (.map #[] 0)) W.heap.size 0 (.map (some (W.heap.size + 1))) (by rw [Below.heap_alloc _ _ _ (by simp)]; exact heap_alloc_new W _)
  have Hmm := Lib.hid hmm
  clear hmm
  go_enter Try.func14, Try.ntmps14
  have hmm := Hmm.out
  go_wp2
  go_ret
  have z2 : ((W.alloc (.map #[] 0)).alloc (.map #[] 0)).heap.size = W.heap.size + 1 + 1 := by simp
  refine ⟨_, W.heap.size, W.heap.size + 1, rfl, ⟨heap_alloc_new _ _, ?_, ?_⟩, by rw [putM_size, z2]; omega, by omega, ?_⟩
  · rw [Below.heap_alloc _ _ _ (by rw [putM_size, z2]; omega)]
    exact putM_same _ (by rw [z2]; omega)
  · rw [Below.heap_alloc _ _ _ (by rw [putM_size, z2]; omega), putM_other _ _ (by omega)]
    have h1 := heap_alloc_new (W.alloc (.map #[] 0)) (.map #[] 0)
    rwa [show (W.alloc (.map #[] 0)).heap.size = W.heap.size + 1 by simp] at h1
  · exact (below_putM (((Below.refl _ W).alloc (Nat.le_refl _) _).alloc (by simp) _) _ _ (Nat.le_refl _)).alloc (by rw [putM_size, z2]; omega) _

set_option maxRecDepth 100000 in
theorem follow1_ex (W : World) (S m0 m1 : Nat) (n : Int) (es : Array MapEntry) (ck : Nat) (h : Ex W S m0 m1 n es ck) (a : Addr) (cap : Nat) :
    Calls Try.prog 27 #[.pointer (some ⟨S, 0, none⟩), .int .i64 0, .slice (some a) 1 cap] W fun e w' => e = .returned (.tuple #[.map (some m1), .agg #[.int .i64 0, .int .i64 0], .int .i64 0]) ∧ Below W.heap.size W w' := by
  have L0 := fun w (hb : Below W.heap.size W w) => lk0 w m0 (.map (some m1)) 0 1 false (h.below hb).root
  simp only [Bool.false_eq_true, if_false] at L0
  have c0 := h.cell0
  have hS : S < W.heap.size := lt_of_block h.store
  have hB := (Below.refl W.heap.size W).alloc (Nat.le_refl _) (.cells #[.int .i64 0, .int .i64 0] 38)
  have L1 := L0 _ hB
  clear L0 h
  go_enter Try.func27, Try.ntmps27
  go_wp2
  refine wp_loop_once ?_
  go_wp2
  refine bodyPost_ret (v := .tuple #[.map (some m1), .agg #[.int .i64 0, .int .i64 0], .int .i64 0]) (by simp [results, Try.results27, go_sem]) rfl ⟨rfl, ?_⟩
  exact hB

theorem ta_obj (n : Int) (W : World) : (Instr.typeAssert (.iface 57 (.int .i64 n)) 62 75 true).run Try.prog W = .ok (.tuple #[.string ⟨#[]⟩, .bool false]) W := by kernel_rfl
theorem ta_ctx (n : Int) (W : World) : (Instr.typeAssert (.iface 57 (.int .i64 n)) 62 57 true).run Try.prog W = .ok (.tuple #[.int .i64 n, .bool true]) W := by kernel_rfl

set_option maxRecDepth 100000 in
theorem follow2_ex (W : World) (S m0 m1 : Nat) (n : Int) (b ck : Nat) (h : Ex W S m0 m1 n #[{ key := kx, val := .iface 57 (.int .i64 0), born := b }] ck) (a : Addr) (cap : Nat) (hcap : 2 ≤ cap)
    (k0 : W.cell? a = some (.string ⟨#[120]⟩)) (k1 : W.cell? ⟨a.block, a.off + 1, none⟩ = some (.string ⟨#[]⟩)) :
    Calls Try.prog 27 #[.pointer (some ⟨S, 0, none⟩), .int .i64 0, .slice (some a) 2 cap] W fun e w' => e = .returned (.tuple #[.map (some m1), .agg #[.int .i64 0, .int .i64 0], .int .i64 0]) ∧ Below W.heap.size W w' := by
  have L0 := fun w (hb : Below W.heap.size W w) ok => lk0 w m0 (.map (some m1)) 0 1 ok (h.below hb).root
  have LX := fun w (hb : Below W.heap.size W w) => lkx w m1 (.iface 57 (.int .i64 0)) b ck false (h.below hb).map
  simp only [Bool.false_eq_true, if_false] at LX
  have c0 := h.cell0
  have hS : S < W.heap.size := lt_of_block h.store
  have ha : a.block < W.heap.size := World.block_lt_of_cell? W _ k0
  have hB := (Below.refl W.heap.size W).alloc (Nat.le_refl _) (.cells #[.int .i64 0, .int .i64 0] 38)
  have L1 := L0 _ hB false
  simp only [Bool.false_eq_true, if_false] at L1
  have H0 := Lib.hid L0
  have HX := Lib.hid LX
  clear L0 LX
  go_enter Try.func27, Try.ntmps27
  go_wp2
  clear L1
  go_loopw [9, 29] (fun m t wr => ∃ k : Nat, k ≤ 1 ∧ t = .int .i64 k ∧ m = .map (some m1) ∧ Below W.heap.size W wr ∧ W.heap.size + 1 ≤ wr.heap.size ∧ wr.heap[W.heap.size]? = some (.cells #[.int .i64 0, .int .i64 0] 38 (0, 0))) (fun _ t _ => 1 - (intOf t).toNat)
  case atStart => exact ⟨0, by omega, rfl, rfl, hB, by simp, heap_alloc_new W _⟩
  case round =>
    obtain ⟨k, hk, rfl, rfl, hb, hz, hblk⟩ := hrel
    rcases (by omega : k = 0 ∨ k = 1) with rfl | rfl
    · have hcm := h.below hb
      have d0 := hcm.cell0
      have j0 := (hb.cell ha).trans k0
      have j1 := (hb.cell (p := ⟨a.block, a.off + 1, none⟩) ha).trans k1
      have hb1 : Below W.heap.size W (wr.alloc (.cells #[.string ⟨#[120]⟩, .string ⟨#[]⟩] 25)) := hb.alloc (by omega) _
      have LX := HX.out _ hb1
      have L1 := H0.out _ hb1 true
      simp only [if_true] at L1
      unfold kx at LX
      have T0 := ta_obj 0
      have T1 := ta_ctx 0
      have Hb := Lib.hid hblk
      have hSw : S < wr.heap.size := by omega
      clear hcm c0 k0 k1 h hblk
      go_wp2
      go_roundw
      case rel => exact ⟨1, by omega, rfl, rfl, hb1, by simp; omega, (Below.heap_alloc _ _ _ (by omega)).trans Hb.out⟩
      case measure => simp [intOf]
    · have r0 : wr.cell? ⟨W.heap.size, 0, none⟩ = some (.int .i64 0) := by rw [Lib.cell_of_heap hblk]; rfl
      have r1 : wr.cell? ⟨W.heap.size, 1, none⟩ = some (.int .i64 0) := by rw [Lib.cell_of_heap hblk]; rfl
      have g0 := Lib.frozen_of_heap hblk 0
      have g1 := Lib.frozen_of_heap hblk 1
      clear c0 k0 k1 h hblk
      go_wp2
      obtain ⟨V, hV, v0, v1, hbV⟩ : ∃ V, V = (wr.setCell ⟨W.heap.size, 0, none⟩ (.int .i64 0)).setCell ⟨W.heap.size, 1, none⟩ (.int .i64 0) ∧ V.cell? ⟨W.heap.size, 0, none⟩ = some (.int .i64 0) ∧ V.cell? ⟨W.heap.size, 1, none⟩ = some (.int .i64 0) ∧ Below W.heap.size W V := by
        refine ⟨_, rfl, ?_, ?_, (hb.setCell (p := ⟨W.heap.size, 0, none⟩) (Nat.le_refl _) _).setCell (p := ⟨W.heap.size, 1, none⟩) (Nat.le_refl _) _⟩
        · rw [World.cell?_setCell_other _ _ _ _ (by simp)]
          exact World.cell?_setCell_same _ _ _ (by rw [r0])
        · exact World.cell?_setCell_same _ _ _ (by rw [World.cell?_setCell_other _ _ _ _ (by simp), r1])
      rw [← hV]
      clear hV
      refine bodyPost_ret (v := .tuple #[.map (some m1), .agg #[.int .i64 0, .int .i64 0], .int .i64 0]) (by simp [results, Try.results27, go_sem, v0, v1]) rfl ⟨rfl, hbV⟩

/-- the example's one binding -/
def bx : MapEntry := { key := kx, val := .iface 57 (.int .i64 0), born := 0 }

set_option maxRecDepth 100000 in
set_option maxHeartbeats 1000000 in
theorem bind_ex (W : World) (S m0 m1 : Nat) (h : Ex W S m0 m1 0 #[] 0) (a : Addr) (cap : Nat) (hx : Comps W (some a) 1 [⟨⟨#[120]⟩, ⟨#[]⟩⟩]) (hmm : m0 ≠ m1) :
    Calls Try.prog 25 #[.pointer (some ⟨S, 0, none⟩), .int .i64 0, .slice (some a) 1 cap, .iface 57 (.int .i64 0), .bool false] W fun e w' => e = .returned (.tuple #[.agg #[.int .i64 0, .int .i64 0], .int .i64 0]) ∧ Ex w' S m0 m1 1 #[bx] 1 ∧ Only W w' (fun k => k = S ∨ k = m1) := by
  have hv : valid [⟨⟨#[120]⟩, ⟨#[]⟩⟩] = true := by decide +kernel
  obtain ⟨c, ad, hc, hA, k0, k1⟩ := hx.at_ (k := 0) (by omega)
  obtain rfl : ad = a := (Option.some.inj hA).symm
  obtain rfl : c = ⟨⟨#[120]⟩, ⟨#[]⟩⟩ := by simpa using hc.symm
  clear hc hA
  have ha : ad.block < W.heap.size := World.block_lt_of_cell? W _ k0
  go_enter Try.func25, Try.ntmps25
  go_wp2_with fail
  obtain ⟨W1, hW1, hb1, hz1⟩ : ∃ W1, W1 = W.alloc (.cells #[.int .i64 0, .int .i64 0] 38) ∧ Below W.heap.size W W1 ∧ W1.heap[W.heap.size]? = some (.cells #[.int .i64 0, .int .i64 0] 38 (0, 0)) := ⟨_, rfl, (Below.refl _ W).alloc (Nat.le_refl _) _, heap_alloc_new W _⟩
  rw [← hW1]
  clear hW1
  refine (asked_ex W1 S m0 m1 0 #[] 0 (h.below hb1) _ _ _ _ (hx.below hb1) hv).mono ?_
  rintro e w2 ⟨rfl, hb2⟩
  have h2 := (h.below hb1).below hb2
  have L1 := lk0 w2 m0 (.map (some m1)) 0 1 true h2.root
  simp only [if_true] at L1
  have T0 := ta_obj 0
  have T1 := ta_ctx 0
  have c0 := h2.cell0
  go_wp2_with fail
  clear L1 T0 T1 c0
  refine (follow1_ex w2 S m0 m1 0 #[] 0 h2 ad cap).mono ?_
  rintro e w3 ⟨rfl, hb3⟩
  have h3 := h2.below hb3
  have hbW3 : Below W.heap.size W w3 := (hb1.trans (hb2.mono hb1.size)).trans (hb3.mono (by have := hb2.size; have := hb1.size; omega))
  have hs1 : W.heap.size < W1.heap.size := lt_of_block hz1
  have hz3 : w3.heap[W.heap.size]? = some (.cells #[.int .i64 0, .int .i64 0] 38 (0, 0)) := (hb3.block _ (by have := hb2.size; omega)).trans ((hb2.block _ hs1).trans hz1)
  have j0 := (hbW3.cell ha).trans k0
  have j1 := (hbW3.cell (p := ⟨(ad.add (0 * 2)).block, (ad.add (0 * 2)).off + 1, none⟩) ha).trans k1
  have e0 : ad.add (0 * 2) = ad := by simp [Addr.add]
  rw [e0] at j1
  obtain ⟨W4, hW4, hb4, hsz4⟩ : ∃ W4, W4 = (w3.alloc (.cells #[.int .i64 0, .int .i64 0] 38)).alloc (.cells #[.string ⟨#[120]⟩, .string ⟨#[]⟩] 25) ∧ Below w3.heap.size w3 W4 ∧ w3.heap.size ≤ W4.heap.size := ⟨_, rfl, ((Below.refl _ w3).alloc (Nat.le_refl _) _).alloc (by simp) _, by simp; omega⟩
  have h4 := h3.below hb4
  have L1 := lke W4 m1 0 true h4.map
  simp only [if_true] at L1
  unfold kx at L1
  have c2 := h4.cell2
  have fr2 := Lib.frozen_of_heap h4.store 2
  rw [hW4] at L1 c2 fr2
  have hSW : S < W.heap.size := lt_of_block h.store
  have hm0W : m0 < W.heap.size := lt_of_block h.root
  have hm1W : m1 < W.heap.size := lt_of_block h.map
  clear hb1 hb2 hb3 hz1 h h2 k0 k1 hx
  have hS3 : S < w3.heap.size := lt_of_block h3.store
  have ha3 : ad.block < w3.heap.size := by have := hbW3.size; omega
  have HW4 := Lib.hid hW4
  clear hW4
  go_wp2
  have h3c := h3.count 1
  have hz3c : (w3.setCell ⟨S, 2, none⟩ (.int .i64 1)).heap[W.heap.size]? = some (.cells #[.int .i64 0, .int .i64 0] 38 (0, 0)) := (Below.heap_setCell w3 _ _ _ (by simp; omega)).trans hz3
  have hB3c : Only W (w3.setCell ⟨S, 2, none⟩ (.int .i64 1)) (fun k => k = S ∨ k = m1) := (Only.of_below _ hbW3).setCell (p := ⟨S, 2, none⟩) (.inl (.inl rfl)) _
  have hs3c : W.heap.size ≤ (w3.setCell ⟨S, 2, none⟩ (.int .i64 1)).heap.size := by have := hB3c.size; omega
  clear L1 c2 fr2 HW4 hz3 h3 hb4 j0 j1 h4
  generalize w3.setCell ⟨S, 2, none⟩ (.int .i64 1) = V at *
  obtain ⟨W5, hW5, hb5⟩ : ∃ W5, W5 = (V.alloc (.cells #[.int .i64 0, .int .i64 0] 38)).alloc (.cells #[.string ⟨#[120]⟩, .string ⟨#[]⟩] 25) ∧ Below V.heap.size V W5 := ⟨_, rfl, ((Below.refl _ V).alloc (Nat.le_refl _) _).alloc (by simp) _⟩
  rw [← hW5]
  clear hW5
  have h5 := h3c.below hb5
  have hz5 : W5.heap[W.heap.size]? = some (.cells #[.int .i64 0, .int .i64 0] 38 (0, 0)) := (hb5.block _ (lt_of_block hz3c)).trans hz3c
  have hB5 : Only W W5 (fun k => k = S ∨ k = m1) := hB3c.then hb5
  clear h3c hz3c hB3c hb5
  have UP := upx W5 m1 0 (.iface 57 (.int .i64 0)) h5.map
  unfold kx at UP
  have h6 := h5.put #[bx] 1 hmm
  have hz6 : (putM W5 m1 (.map #[bx] 1)).heap[W.heap.size]? = some (.cells #[.int .i64 0, .int .i64 0] 38 (0, 0)) := (putM_other _ _ (by omega)).trans hz5
  have hB6 : Only W (putM W5 m1 (.map #[bx] 1)) (fun k => k = S ∨ k = m1) := hB5.put _ (.inl (.inr rfl))
  have UP' : (Instr.mapUpdate 52 (.map (some m1)) (.agg #[.string ⟨#[120]⟩, .string ⟨#[]⟩]) (.iface 57 (.int .i64 0))).run Try.prog W5 = .ok () (putM W5 m1 (.map #[bx] 1)) := UP
  clear UP h5 hz5 hB5
  generalize putM W5 m1 (.map #[bx] 1) = W6 at *
  have r0 : W6.cell? ⟨W.heap.size, 0, none⟩ = some (.int .i64 0) := by rw [Lib.cell_of_heap hz6]; rfl
  have r1 : W6.cell? ⟨W.heap.size, 1, none⟩ = some (.int .i64 0) := by rw [Lib.cell_of_heap hz6]; rfl
  have g0 := Lib.frozen_of_heap hz6 0
  have g1 := Lib.frozen_of_heap hz6 1
  rw [UP']
  simp only [Result.andThen]
  rw [Oper.upon_skip]
  clear UP'
  go_wp2
  obtain ⟨V6, hV6, v0, v1, hb6, h7⟩ : ∃ V6, V6 = (W6.setCell ⟨W.heap.size, 0, none⟩ (.int .i64 0)).setCell ⟨W.heap.size, 1, none⟩ (.int .i64 0) ∧ V6.cell? ⟨W.heap.size, 0, none⟩ = some (.int .i64 0) ∧ V6.cell? ⟨W.heap.size, 1, none⟩ = some (.int .i64 0) ∧ Only W V6 (fun k => k = S ∨ k = m1) ∧ Ex V6 S m0 m1 1 #[bx] 1 := by
    refine ⟨_, rfl, ?_, ?_, (hB6.setCell (p := ⟨W.heap.size, 0, none⟩) (.inr (Nat.le_refl _)) _).setCell (p := ⟨W.heap.size, 1, none⟩) (.inr (Nat.le_refl _)) _, (h6.far (p := ⟨W.heap.size, 0, none⟩) (by simp; omega) (by simp; omega) (by simp; omega) _).far (p := ⟨W.heap.size, 1, none⟩) (by simp; omega) (by simp; omega) (by simp; omega) _⟩
    · rw [World.cell?_setCell_other _ _ _ _ (by simp)]
      exact World.cell?_setCell_same _ _ _ (by rw [r0])
    · exact World.cell?_setCell_same _ _ _ (by rw [World.cell?_setCell_other _ _ _ _ (by simp), r1])
  rw [← hV6]
  clear hV6
  refine bodyPost_ret (v := .tuple #[.agg #[.int .i64 0, .int .i64 0], .int .i64 0]) (by simp [results, Try.results25, go_sem, v0, v1]) rfl ⟨rfl, h7, hb6⟩

set_option maxRecDepth 100000 in
theorem bindContext_ex (W : World) (S m0 m1 : Nat) (h : Ex W S m0 m1 0 #[] 0) (a : Addr) (cap : Nat) (hx : Comps W (some a) 1 [⟨⟨#[120]⟩, ⟨#[]⟩⟩]) (hmm : m0 ≠ m1) :
    Calls Try.prog 15 #[.pointer (some ⟨S, 0, none⟩), .int .i64 0, .slice (some a) 1 cap, .int .i64 0] W fun e w' => e = .returned (.tuple #[.agg #[.int .i64 0, .int .i64 0], .int .i64 0]) ∧ Ex w' S m0 m1 1 #[bx] 1 ∧ Only W w' (fun k => k = S ∨ k = m1) := by
  have hb1 : Below W.heap.size W (W.alloc (.cells #[.int .i64 0, .int .i64 0] 38)) := (Below.refl _ W).alloc (Nat.le_refl _) _
  have hz1 := heap_alloc_new W (.cells #[.int .i64 0, .int .i64 0] 38)
  have hs1 : (W.alloc (.cells #[.int .i64 0, .int .i64 0] 38)).heap.size = W.heap.size + 1 := by simp
  go_enter Try.func15, Try.ntmps15
  go_wp2_with fail
  refine (bind_ex _ S m0 m1 (h.below hb1) a cap (hx.below hb1) hmm).mono ?_
  rintro e w2 ⟨rfl, h2, ho⟩
  have hSW : S < W.heap.size := lt_of_block h.store
  have hm0W : m0 < W.heap.size := lt_of_block h.root
  have hm1W : m1 < W.heap.size := lt_of_block h.map
  have hz2 : w2.heap[W.heap.size]? = some (.cells #[.int .i64 0, .int .i64 0] 38 (0, 0)) := (ho.block _ (by omega) (by omega)).trans hz1
  have hB6 : Only W w2 (fun k => k = S ∨ k = m1) := (Only.of_below _ hb1).trans ho
  have r0 : w2.cell? ⟨W.heap.size, 0, none⟩ = some (.int .i64 0) := by rw [Lib.cell_of_heap hz2]; rfl
  have r1 : w2.cell? ⟨W.heap.size, 1, none⟩ = some (.int .i64 0) := by rw [Lib.cell_of_heap hz2]; rfl
  have g0 := Lib.frozen_of_heap hz2 0
  have g1 := Lib.frozen_of_heap hz2 1
  clear h hx hb1 hz1 ho
  go_wp2
  obtain ⟨V6, hV6, v0, v1, hb6, h7⟩ : ∃ V6, V6 = (w2.setCell ⟨W.heap.size, 0, none⟩ (.int .i64 0)).setCell ⟨W.heap.size, 1, none⟩ (.int .i64 0) ∧ V6.cell? ⟨W.heap.size, 0, none⟩ = some (.int .i64 0) ∧ V6.cell? ⟨W.heap.size, 1, none⟩ = some (.int .i64 0) ∧ Only W V6 (fun k => k = S ∨ k = m1) ∧ Ex V6 S m0 m1 1 #[bx] 1 := by
    refine ⟨_, rfl, ?_, ?_, (hB6.setCell (p := ⟨W.heap.size, 0, none⟩) (.inr (Nat.le_refl _)) _).setCell (p := ⟨W.heap.size, 1, none⟩) (.inr (Nat.le_refl _)) _, (h2.far (p := ⟨W.heap.size, 0, none⟩) (by simp; omega) (by simp; omega) (by simp; omega) _).far (p := ⟨W.heap.size, 1, none⟩) (by simp; omega) (by simp; omega) (by simp; omega) _⟩
    · rw [World.cell?_setCell_other _ _ _ _ (by simp)]
      exact World.cell?_setCell_same _ _ _ (by rw [r0])
    · exact World.cell?_setCell_same _ _ _ (by rw [World.cell?_setCell_other _ _ _ _ (by simp), r1])
  rw [← hV6]
  clear hV6
  refine bodyPost_ret (v := .tuple #[.agg #[.int .i64 0, .int .i64 0], .int .i64 0]) (by simp [results, Try.results15, go_sem, v0, v1]) rfl ⟨rfl, h7, hb6⟩

theorem binding_ex (W : World) (c : Comp) :
    Calls Try.prog 28 #[.agg #[.string c.id, .string c.kind], .iface 57 (.int .i64 0)] W fun e w' => e = .returned (.agg #[.string c.id, .string c.kind, .string ⟨#[]⟩, .int .i64 0, .bool true]) ∧ Below W.heap.size W w' := by
  have T0 := ta_obj 0
  have T1 := ta_ctx 0
  go_enter Try.func28, Try.ntmps28
  go_wp2
  refine bodyPost_ret (v := .agg #[.string c.id, .string c.kind, .string ⟨#[]⟩, .int .i64 0, .bool true]) (by simp [results, Try.results28, go_sem]) rfl ⟨rfl, ?_⟩
  exact (((Below.refl _ W).alloc (Nat.le_refl _) _).alloc (by simp) _).alloc (by simp; omega) _

set_option maxRecDepth 100000 in
set_option maxHeartbeats 1000000 in
theorem resolve_ex (W : World) (S m0 m1 : Nat) (h : Ex W S m0 m1 1 #[bx] 1) (a : Addr) (cap : Nat) (hcap : 2 ≤ cap) (hx : Comps W (some a) 2 [⟨⟨#[120]⟩, ⟨#[]⟩⟩, ⟨⟨#[120]⟩, ⟨#[]⟩⟩]) :
    Calls Try.prog 16 #[.pointer (some ⟨S, 0, none⟩), .int .i64 0, .slice (some a) 2 cap] W fun e w' => e = .returned (.tuple #[.agg #[.string ⟨#[120]⟩, .string ⟨#[]⟩, .string ⟨#[]⟩, .int .i64 0, .bool true], .agg #[.int .i64 0, .int .i64 0], .int .i64 0]) ∧ Below W.heap.size W w' := by
  have hv : valid [⟨⟨#[120]⟩, ⟨#[]⟩⟩, ⟨⟨#[120]⟩, ⟨#[]⟩⟩] = true := by decide +kernel
  obtain ⟨W1, hW1, hb1, hz1, hz2, hs1⟩ : ∃ W1, W1 = (W.alloc (.cells #[.string ⟨#[]⟩, .string ⟨#[]⟩, .string ⟨#[]⟩, .int .i64 0, .bool false] 42)).alloc (.cells #[.int .i64 0, .int .i64 0] 38) ∧ Below W.heap.size W W1 ∧ W1.heap[W.heap.size]? = some (.cells #[.string ⟨#[]⟩, .string ⟨#[]⟩, .string ⟨#[]⟩, .int .i64 0, .bool false] 42 (0, 0)) ∧ W1.heap[W.heap.size + 1]? = some (.cells #[.int .i64 0, .int .i64 0] 38 (0, 0)) ∧ W1.heap.size = W.heap.size + 2 := by
    refine ⟨_, rfl, ((Below.refl _ W).alloc (Nat.le_refl _) _).alloc (by simp) _, ?_, ?_, by simp⟩
    · rw [Below.heap_alloc _ _ _ (by simp)]; exact heap_alloc_new W _
    · have := heap_alloc_new (W.alloc (.cells #[.string ⟨#[]⟩, .string ⟨#[]⟩, .string ⟨#[]⟩, .int .i64 0, .bool false] 42)) (.cells #[.int .i64 0, .int .i64 0] 38)
      rwa [show (W.alloc (.cells #[.string ⟨#[]⟩, .string ⟨#[]⟩, .string ⟨#[]⟩, .int .i64 0, .bool false] 42)).heap.size = W.heap.size + 1 by simp] at this
  have HW1 := Lib.hid hW1
  clear hW1
  go_enter Try.func16, Try.ntmps16
  go_wp2_with fail
  rw [← HW1.out]
  clear HW1
  refine (asked_ex W1 S m0 m1 1 #[bx] 1 (h.below hb1) _ _ _ _ (hx.below hb1) hv).mono ?_
  rintro e w2 ⟨rfl, hb2⟩
  have h2 := (h.below hb1).below hb2
  have hx2 := (hx.below hb1).below hb2
  obtain ⟨c, ad, hc, hA, k0, k1⟩ := hx2.at_ (k := 0) (by omega)
  obtain rfl : ad = a := (Option.some.inj hA).symm
  obtain rfl : c = ⟨⟨#[120]⟩, ⟨#[]⟩⟩ := by simpa using hc.symm
  have e0 : ad.add (0 * 2) = ad := by simp [Addr.add]
  rw [e0] at k0 k1
  clear hc hA e0
  go_wp2_with fail
  refine (follow2_ex w2 S m0 m1 1 0 1 h2 ad cap hcap k0 k1).mono ?_
  rintro e w3 ⟨rfl, hb3⟩
  have h3 := h2.below hb3
  have hx3 := hx2.below hb3
  have hb13 : Below W1.heap.size W1 w3 := hb2.trans (hb3.mono hb2.size)
  have hbW3 : Below W.heap.size W w3 := hb1.trans (hb13.mono (by omega))
  have y1 : w3.heap[W.heap.size]? = some (.cells #[.string ⟨#[]⟩, .string ⟨#[]⟩, .string ⟨#[]⟩, .int .i64 0, .bool false] 42 (0, 0)) := (hb13.block _ (by omega)).trans hz1
  have y2 : w3.heap[W.heap.size + 1]? = some (.cells #[.int .i64 0, .int .i64 0] 38 (0, 0)) := (hb13.block _ (by omega)).trans hz2
  obtain ⟨c, ad', hc, hA, j0, j1⟩ := hx3.at_ (k := 1) (by omega)
  obtain rfl : ad' = ad := (Option.some.inj hA).symm
  obtain rfl : c = ⟨⟨#[120]⟩, ⟨#[]⟩⟩ := by simpa using hc.symm
  have j0 : w3.cell? ⟨ad'.block, ad'.off + 2, none⟩ = some (.string ⟨#[120]⟩) := j0
  have j1 : w3.cell? ⟨ad'.block, ad'.off + 2 + 1, none⟩ = some (.string ⟨#[]⟩) := j1
  have ha3 : (⟨ad'.block, ad'.off + 2, none⟩ : Addr).block < w3.heap.size := World.block_lt_of_cell? w3 _ j0
  change ad'.block < w3.heap.size at ha3
  clear hc hA k0 k1 hx3 hx2 hb2 hb3 hb1 hz1 hz2 h2
  obtain ⟨W4, hW4, hb4, hs4⟩ : ∃ W4, W4 = (w3.alloc (.cells #[.int .i64 0, .int .i64 0] 38)).alloc (.cells #[.string ⟨#[120]⟩, .string ⟨#[]⟩] 25) ∧ Below w3.heap.size w3 W4 ∧ W4.heap.size = w3.heap.size + 2 := ⟨_, rfl, ((Below.refl _ w3).alloc (Nat.le_refl _) _).alloc (by simp) _, by simp⟩
  have h4 := h3.below hb4
  have LX := lkx W4 m1 (.iface 57 (.int .i64 0)) 0 1 true h4.map
  have L0 := lk0 W4 m0 (.map (some m1)) 0 1 true h4.root
  simp only [if_true] at LX L0
  unfold kx at LX
  have c0 := h4.cell0
  rw [hW4] at LX L0 c0
  have T0 := ta_obj 0
  have T1 := ta_ctx 0
  have hS3 : S < w3.heap.size := lt_of_block h3.store
  have HW4 := Lib.hid hW4
  clear hW4 h h3
  go_wp2_with fail
  rw [← HW4.out]
  clear LX L0 c0 T0 T1 HW4 j0 j1
  refine (binding_ex W4 ⟨⟨#[120]⟩, ⟨#[]⟩⟩).mono ?_
  rintro e w5 ⟨rfl, hb5⟩
  have hb35 : Below w3.heap.size w3 w5 := hb4.trans (hb5.mono (by omega))
  have x1 : w5.heap[W.heap.size]? = some (.cells #[.string ⟨#[]⟩, .string ⟨#[]⟩, .string ⟨#[]⟩, .int .i64 0, .bool false] 42 (0, 0)) := (hb35.block _ (lt_of_block y1)).trans y1
  have x2 : w5.heap[W.heap.size + 1]? = some (.cells #[.int .i64 0, .int .i64 0] 38 (0, 0)) := (hb35.block _ (lt_of_block y2)).trans y2
  have hbW5 : Below W.heap.size W w5 := hbW3.trans (hb35.mono (by have := hbW3.size; omega))
  clear y1 y2 hb35 hb4 hb5 hbW3 hb13 h4
  have p0 : w5.cell? ⟨W.heap.size, 0, none⟩ = some (.string ⟨#[]⟩) := by rw [Lib.cell_of_heap x1]; rfl
  have p1 : w5.cell? ⟨W.heap.size, 1, none⟩ = some (.string ⟨#[]⟩) := by rw [Lib.cell_of_heap x1]; rfl
  have p2 : w5.cell? ⟨W.heap.size, 2, none⟩ = some (.string ⟨#[]⟩) := by rw [Lib.cell_of_heap x1]; rfl
  have p3 : w5.cell? ⟨W.heap.size, 3, none⟩ = some (.int .i64 0) := by rw [Lib.cell_of_heap x1]; rfl
  have p4 : w5.cell? ⟨W.heap.size, 4, none⟩ = some (.bool false) := by rw [Lib.cell_of_heap x1]; rfl
  have q0 : w5.cell? ⟨W.heap.size + 1, 0, none⟩ = some (.int .i64 0) := by rw [Lib.cell_of_heap x2]; rfl
  have q1 : w5.cell? ⟨W.heap.size + 1, 1, none⟩ = some (.int .i64 0) := by rw [Lib.cell_of_heap x2]; rfl
  have fz0 := Lib.frozen_of_heap x1
  have fz1 := Lib.frozen_of_heap x2
  go_wp2
  obtain ⟨V, hV, b1, b2, hbV⟩ : ∃ V, V = ((((((w5.setCell ⟨W.heap.size, 0, none⟩ (.string ⟨#[120]⟩)).setCell ⟨W.heap.size, 1, none⟩ (.string ⟨#[]⟩)).setCell ⟨W.heap.size, 2, none⟩ (.string ⟨#[]⟩)).setCell ⟨W.heap.size, 3, none⟩ (.int .i64 0)).setCell ⟨W.heap.size, 4, none⟩ (.bool true)).setCell ⟨W.heap.size + 1, 0, none⟩ (.int .i64 0)).setCell ⟨W.heap.size + 1, 1, none⟩ (.int .i64 0) ∧ V.heap[W.heap.size]? = some (.cells #[.string ⟨#[120]⟩, .string ⟨#[]⟩, .string ⟨#[]⟩, .int .i64 0, .bool true] 42 (0, 0)) ∧ V.heap[W.heap.size + 1]? = some (.cells #[.int .i64 0, .int .i64 0] 38 (0, 0)) ∧ Below W.heap.size W V := by
    refine ⟨_, rfl, ?_, ?_, ?_⟩
    · rw [Below.heap_setCell _ _ _ _ (by simp), Below.heap_setCell _ _ _ _ (by simp)]
      have := setCell_block (setCell_block (setCell_block (setCell_block (setCell_block x1 0 (.string ⟨#[120]⟩)) 1 (.string ⟨#[]⟩)) 2 (.string ⟨#[]⟩)) 3 (.int .i64 0)) 4 (.bool true)
      simpa using this
    · have y := x2
      rw [← Below.heap_setCell w5 ⟨W.heap.size, 0, none⟩ (.string ⟨#[120]⟩) _ (by simp), ← Below.heap_setCell _ ⟨W.heap.size, 1, none⟩ (.string ⟨#[]⟩) _ (by simp), ← Below.heap_setCell _ ⟨W.heap.size, 2, none⟩ (.string ⟨#[]⟩) _ (by simp), ← Below.heap_setCell _ ⟨W.heap.size, 3, none⟩ (.int .i64 0) _ (by simp), ← Below.heap_setCell _ ⟨W.heap.size, 4, none⟩ (.bool true) _ (by simp)] at y
      have := setCell_block (setCell_block y 0 (.int .i64 0)) 1 (.int .i64 0)
      simpa using this
    · exact ((((((hbW5.setCell (p := ⟨W.heap.size, 0, none⟩) (Nat.le_refl _) _).setCell (p := ⟨W.heap.size, 1, none⟩) (Nat.le_refl _) _).setCell (p := ⟨W.heap.size, 2, none⟩) (Nat.le_refl _) _).setCell (p := ⟨W.heap.size, 3, none⟩) (Nat.le_refl _) _).setCell (p := ⟨W.heap.size, 4, none⟩) (Nat.le_refl _) _).setCell (p := ⟨W.heap.size + 1, 0, none⟩) (Nat.le_succ _) _).setCell (p := ⟨W.heap.size + 1, 1, none⟩) (Nat.le_succ _) _
  rw [← hV]
  clear hV
  have v := fun j => Lib.cell_of_heap b1 j
  have u := fun j => Lib.cell_of_heap b2 j
  refine bodyPost_ret (v := .tuple #[.agg #[.string ⟨#[120]⟩, .string ⟨#[]⟩, .string ⟨#[]⟩, .int .i64 0, .bool true], .agg #[.int .i64 0, .int .i64 0], .int .i64 0]) (by simp [results, Try.results16, go_sem, v, u]) rfl ⟨rfl, hbV⟩
end Go.Proofs.Ytmdolkkpoeoomaa
