/- What is of no program: the frame of a call ('Keeps'), small facts on blocks. -/
import Derived.WalkKit
import Derived.WalkSpells
import Derived.WalkLawsBesides
import Derived.Deep.QuietTactic
import Derived.BigQuiet
import Derived.Lib.Hide
import Derived.Lib.OthersKept
namespace Go.Proofs.YtonjhdmnndffkaaDoor
open Go.RowKit
set_option maxRecDepth 100000
set_option linter.unusedSimpArgs false
set_option linter.unusedVariables false

theorem ret_bool {a b : Bool} (h : a = b) : Ending.returned (.bool a) = .returned (.bool b) := by rw [h]
theorem ret_int {k : IntKind} {a b : Int} (h : a = b) : Ending.returned (.int k a) = .returned (.int k b) := by rw [h]
theorem ret_str {a b : ByteArray} (h : a = b) : Ending.returned (.string a) = .returned (.string b) := by rw [h]

/-- Of the blocks that were there only those of D may have turned; the streams are as they were. -/
structure Keeps (D : Nat → Prop) (w w' : World) : Prop where
  os : w'.os = w.os
  tape : w'.tape = w.tape
  output : w'.output = w.output
  size : w.heap.size ≤ w'.heap.size
  block : ∀ k, k < w.heap.size → ¬ D k → w'.heap[k]? = w.heap[k]?

def noB : Nat → Prop := fun _ => False

theorem Keeps.refl (D : Nat → Prop) (w : World) : Keeps D w w := ⟨rfl, rfl, rfl, Nat.le_refl _, fun _ _ _ => rfl⟩
theorem Keeps.step {D D' : Nat → Prop} {w0 w w' : World} (h : Keeps D w0 w) (k : Keeps D' w w') (hd : ∀ i, i < w0.heap.size → D' i → D i) : Keeps D w0 w' :=
  ⟨k.os.trans h.os, k.tape.trans h.tape, k.output.trans h.output, Nat.le_trans h.size k.size, fun i hi hn =>
    (k.block i (Nat.lt_of_lt_of_le hi h.size) (fun hx => hn (hd i hi hx))).trans (h.block i hi hn)⟩
theorem Keeps.trans {D : Nat → Prop} {w0 w w' : World} (h : Keeps D w0 w) (k : Keeps D w w') : Keeps D w0 w' := h.step k fun _ _ h => h
theorem Keeps.quiet {D : Nat → Prop} {w0 w w' : World} (h : Keeps D w0 w) (k : Keeps noB w w') : Keeps D w0 w' := h.step k fun _ _ h => h.elim
theorem Keeps.mono {D D' : Nat → Prop} {w w' : World} (h : Keeps D w w') (hd : ∀ i, i < w.heap.size → D i → D' i) : Keeps D' w w' := (Keeps.refl D' w).step h hd
theorem Keeps.alloc {D : Nat → Prop} {w0 w : World} (h : Keeps D w0 w) (o : Obj) : Keeps D w0 (w.alloc o) :=
  h.quiet ⟨rfl, rfl, rfl, by simp, fun k hk _ => Below.heap_alloc _ _ _ hk⟩
theorem Keeps.setCell {D : Nat → Prop} {w0 w : World} (h : Keeps D w0 w) (p : Addr) (u : Value) (hp : D p.block ∨ w0.heap.size ≤ p.block) : Keeps D w0 (w.setCell p u) := by
  refine h.step (D' := fun i => i = p.block) ⟨rfl, rfl, rfl, by simp, fun k _ hn => Below.heap_setCell _ _ _ _ hn⟩ fun i hi he => ?_
  subst he
  rcases hp with hp | hp
  · exact hp
  · omega
theorem Keeps.drew {D : Nat → Prop} {w0 w : World} (h : Keeps D w0 w) : Keeps D w0 w.drew := ⟨h.os, h.tape, h.output, h.size, h.block⟩
theorem Keeps.drewN {D : Nat → Prop} {w0 w : World} (h : Keeps D w0 w) (n : Nat) : Keeps D w0 (w.drewN n) := ⟨h.os, h.tape, h.output, h.size, h.block⟩
theorem Keeps.grown {D : Nat → Prop} {w0 w w' : World} {row : Option Nat} (h : Keeps D w0 w) (hg : w.grownBy w' row) (hr : ∀ k, row = some k → k < w0.heap.size → D k) : Keeps D w0 w' :=
  h.step (D' := fun i => row = some i) ⟨hg.os, hg.tape, hg.output, hg.size, fun k hk hn => hg.block k hk (fun e => hn e.symm)⟩ fun i hi he => hr i he hi
theorem Keeps.of_below {w w' : World} (h : Below w.heap.size w w') : Keeps noB w w' := ⟨h.os, h.tape, h.output, h.size, fun k hk _ => h.block k hk⟩
theorem Keeps.below {D : Nat → Prop} {B : Nat} {w w' : World} (h : Keeps D w w') (hd : ∀ i, i < B → ¬ D i) (hB : B ≤ w.heap.size) : Below B w w' :=
  ⟨h.os, h.tape, h.output, h.size, fun k hk => h.block k (Nat.lt_of_lt_of_le hk hB) (hd k hk)⟩
theorem Keeps.below0 {w w' : World} (h : Keeps noB w w') : Below w.heap.size w w' := h.below (fun _ _ hx => hx) (Nat.le_refl _)
theorem Keeps.obj {D : Nat → Prop} {w w' : World} (h : Keeps D w w') {k : Nat} {o : Obj} (ho : w.heap[k]? = some o) (hn : ¬ D k) : w'.heap[k]? = some o :=
  (h.block k (Array.getElem?_eq_some_iff.1 ho).1 hn).trans ho
theorem Keeps.cell {D : Nat → Prop} {w w' : World} (h : Keeps D w w') {a : Addr} {v : Value} (hc : w.cell? a = some v) (hn : ¬ D a.block) : w'.cell? a = some v :=
  (World.cell?_of_block (h.block a.block (World.block_lt_of_cell? w a hc) hn)).trans hc
theorem Keeps.someInt {D : Nat → Prop} {w w' : World} (h : Keeps D w w') {a : Addr} {k : IntKind} (hc : ∃ m, w.cell? a = some (.int k m)) (hn : ¬ D a.block) : ∃ m, w'.cell? a = some (.int k m) :=
  hc.elim fun m hm => ⟨m, h.cell hm hn⟩

theorem blk_cell {w : World} {g : Nat} {t : TypeId} {cs : Array Value} (h : w.heap[g]? = some (.cells cs t (0, 0))) (i : Nat) : w.cell? ⟨g, i, none⟩ = cs[i]? := by simp [World.cell?, h]
theorem blk_at {w : World} {g : Nat} {t : TypeId} {cs : Array Value} (h : w.heap[g]? = some (.cells cs t (0, 0))) (i : Nat) {v : Value} (hv : cs[i]? = some v) : w.cell? ⟨g, i, none⟩ = some v := (blk_cell h i).trans hv
theorem blk_frozen {w : World} {g : Nat} {t : TypeId} {cs : Array Value} (h : w.heap[g]? = some (.cells cs t (0, 0))) (i : Nat) : w.frozen? ⟨g, i, none⟩ = false := by simp [World.frozen?, h]
theorem blk_lt {w : World} {g : Nat} {o : Obj} (h : w.heap[g]? = some o) : g < w.heap.size := (Array.getElem?_eq_some_iff.1 h).1
theorem blk_set {w : World} {g : Nat} {t : TypeId} {cs : Array Value} (h : w.heap[g]? = some (.cells cs t (0, 0))) (i : Nat) (u : Value) : (w.setCell ⟨g, i, none⟩ u).heap[g]? = some (.cells (cs.setIfInBounds i u) t (0, 0)) := by
  simp [World.setCell, Array.getElem?_modify, h]
theorem blk_far {w : World} {g : Nat} {o : Obj} (h : w.heap[g]? = some o) {p : Addr} (hp : g ≠ p.block) (u : Value) : (w.setCell p u).heap[g]? = some o := (Below.heap_setCell w p u g hp).trans h
theorem blk_alloc {w : World} {g : Nat} {o : Obj} (h : w.heap[g]? = some o) (x : Obj) : (w.alloc x).heap[g]? = some o := (Below.heap_alloc w x g (blk_lt h)).trans h
theorem blk_new (w : World) (x : Obj) : (w.alloc x).heap[w.heap.size]? = some x := heap_alloc_new w x
theorem add_plain (g o j : Nat) : (⟨g, o, none⟩ : Addr).add j = ⟨g, o + j, none⟩ := by unfold Addr.add; split <;> simp_all
theorem cs_same {w : World} {a : Addr} {u : Value} (h : w.cell? a = some u) (v : Value) : (w.setCell a v).cell? a = some v := World.cell?_setCell_same w a v h
theorem cs_far {w : World} {a b : Addr} {u : Value} (h : w.cell? b = some u) (hne : b.block ≠ a.block) (v : Value) : (w.setCell a v).cell? b = some u := by
  rw [World.cell?_setCell_other w a b v (fun e => hne (by rw [e]))]; exact h
theorem mk_size (l : List UInt8) : (⟨l.toArray⟩ : ByteArray).size = l.length := List.size_toArray
end Go.Proofs.YtonjhdmnndffkaaDoor
