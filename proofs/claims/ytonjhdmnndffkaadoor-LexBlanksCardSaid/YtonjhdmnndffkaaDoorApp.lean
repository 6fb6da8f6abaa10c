/- append of one element to a row of the call's own, in the walk's form. -/
import Derived.Test.YtonjhdmnndffkaaDoorBase
import Derived.Maps.AppendAt
import Derived.Deep.AppendLies
import Derived.OwnWalk
namespace Go.Proofs.YtonjhdmnndffkaaDoor
open Go.RowKit
set_option maxRecDepth 100000
set_option linter.unusedSimpArgs false
set_option linter.unusedVariables false

theorem blk_at' {w : World} {g : Nat} {t : TypeId} {cs : Array Value} {fr : Nat × Nat} (h : w.heap[g]? = some (.cells cs t fr)) {i : Nat} : w.cell? ⟨g, 0 + i, none⟩ = cs[i]? := by simp [World.cell?, h]
section
variable {P : Program} {ops : Array Oper} {rest : List Oper} {o : Oper} {a : Act} {Q : Exit → Act → World → Prop}
/-- append(v, x), x of 'size' cells 'ys': behind 'at_builtin'. -/
theorem app1 {W : World} (B : Nat) (hgd : o.guard = none) (s x : Operand) (t e : TypeId) (z : Value) (size bytes : Nat)
    (ho : o.op = .call { callee := .builtin .append, args := #[s, x], argTypes := #[t, t] })
    (ht : P.underlying t = some (.slice e)) (hinfo : (P.info? e).map (fun i => (i.zero, i.size, i.bytes)) = some (some z, size, bytes)) (hz : z.cells.size = size) (hs0 : 0 < size) (hb0 : 0 < bytes)
    (v : Value) (n : Nat) (xs ys : List Value) (hs : a.eval s = v) (hx : a.eval x = .slice (some ⟨W.heap.size, 0, none⟩) 1 1) (h1 : ∀ y ∈ ys, y.oneCell' = true) (hy : ys.length = size)
    (HO : W.ownsRow B e size v n xs) (hbase : B ≤ W.heap.size) (hl : (n + 1) * bytes ≤ 140737488355328)
    (h : ∀ v1 w1, w1.ownsRow B e size v1 (n + 1) (xs ++ ys) → W.grownBy w1 v.ownBlock → wpList P ops Q rest (a.put o.dst v1) w1) :
    wpList P ops Q (o :: rest) a (W.alloc (.cells ys.toArray e)) := by
  obtain ⟨i0, hi, hzz⟩ := Option.map_eq_some_iff.1 hinfo
  simp only [Prod.mk.injEq] at hzz
  obtain ⟨hz0, hz1, hz2⟩ := hzz
  have hlen : n + 1 ≤ 140737488355328 := Nat.le_trans (Nat.le_mul_of_pos_right _ hb0) hl
  refine wpList_append_own_at (W.alloc (.cells ys.toArray e)) hgd s x t ho B e i0 z size bytes ht hi hz0 hz1 hz2 hz hs0 v n xs hs (HO.alloc _) ⟨W.heap.size, 0, none⟩ 1 1 ys hx (by omega)
    ?_ h1 (by simp only [maxLen]; omega) hl (by simp; omega) ?_
  · intro j u hu
    rw [add_plain, blk_cell (blk_new _ _)]
    simpa using hu
  intro v1 w1 hown hg _ hat
  exact h v1 w1 hown (World.grownBy.trans (World.grownBy_alloc W _ _) hg)
end

section
variable {P : Program} {ops : Array Oper} {o : Oper} {a : Act} {K : Act → World → Prop} {Q : Exit → Act → World → Prop} {E : Prop}
/-- 'app1' at a step of a region that draws its order: handed to 'go_region_held3'. -/
theorem app1R {W : World} (B G : Nat) (hgd : o.guard = none) (s x : Operand) (t e : TypeId) (z : Value) (size bytes : Nat)
    (ho : o.op = .call { callee := .builtin .append, args := #[s, x], argTypes := #[t, t] })
    (ht : P.underlying t = some (.slice e)) (hinfo : (P.info? e).map (fun i => (i.zero, i.size, i.bytes)) = some (some z, size, bytes)) (hz : z.cells.size = size) (hs0 : 0 < size) (hb0 : 0 < bytes)
    (v : Value) (n : Nat) (xs ys : List Value) (fr : Nat × Nat) (hs : a.eval s = v) (hx : a.eval x = .slice (some ⟨G, 0, none⟩) 1 1) (h1 : ys.all (fun y => y.oneCell') = true) (hy : ys.length = size)
    (HO : W.ownsRow B e size v n xs) (hG : W.heap[G]? = some (.cells ys.toArray e fr)) (hbase : B ≤ G) (hl : (n + 1) * bytes ≤ 140737488355328)
    (h : ∀ g cap w1, w1.ownsRow B e size (.slice (some ⟨g, 0, none⟩) (n + 1) cap) (n + 1) (xs ++ ys) → W.grownBy w1 v.ownBlock → K (a.put o.dst (.slice (some ⟨g, 0, none⟩) (n + 1) cap)) w1) :
    if Region.wanted o (yielded ops a.tmps) = true then Oper.wp P o a W K Q else E := by
  obtain ⟨i0, hi, hzz⟩ := Option.map_eq_some_iff.1 hinfo
  simp only [Prod.mk.injEq] at hzz
  obtain ⟨hz0, hz1, hz2⟩ := hzz
  have hlen : n + 1 ≤ 140737488355328 := Nat.le_trans (Nat.le_mul_of_pos_right _ hb0) hl
  have hGl := blk_lt hG
  refine step_append_lies W hgd s x t ho B e i0 z size bytes ht hi hz0 hz1 hz2 hz hs0 v n xs hs HO ⟨G, 0, none⟩ 1 1 ys hx (by omega) ?_ (fun u hu => List.all_eq_true.1 h1 u hu) (by omega) (by simp only [maxLen]; omega) hl (by omega) W.heap.size rfl ?_
  · intro j u hu
    rw [add_plain, blk_at' hG]
    simpa using hu
  · intro g cap w1 hown hg _ _
    exact h _ _ w1 hown hg
end

theorem frz_alloc {w : World} {a : Addr} {o : Obj} (h : w.frozen? a = false) (hl : a.block < w.heap.size) : (w.alloc o).drew.frozen? a = false := by
  have hb : (w.alloc o).drew.heap[a.block]? = w.heap[a.block]? := Below.heap_alloc w o a.block hl
  exact (World.frozen?_of_block hb).trans h

theorem keepG {w w3 : World} {o : Obj} {g : Nat} {cs : Array Value} {t : TypeId} {row : Option Nat} (h : w.heap[g]? = some (.cells cs t (0, 0))) (hg : (w.alloc o).drew.grownBy w3 row) (hne : row ≠ some g) : w3.heap[g]? = some (.cells cs t (0, 0)) :=
  (hg.block g (by have := blk_lt h; simp; omega) (Ne.symm hne)).trans ((Below.heap_alloc w o g (blk_lt h)).trans h)

theorem own_ty {w : World} {B n size : Nat} {e : TypeId} {v : Value} {xs : List Value} (h : w.ownsRow B e size v n xs) : ∀ k, v.ownBlock = some k → B ≤ k ∧ ∃ c, w.heap[k]? = some (.cells c e (0, 0)) := by
  intro k hk
  rcases h.2 with ⟨rfl, _⟩ | ⟨g, cap, cur, rfl, hb, hg, _⟩
  · simp [Value.ownBlock] at hk
  · simp [Value.ownBlock] at hk
    subst hk
    exact ⟨hb, cur, hg⟩
/-- A row lives on while others are turned. -/
theorem own_keep {w w' : World} {D : Nat → Prop} {B n size : Nat} {e : TypeId} {v : Value} {xs : List Value} (h : w.ownsRow B e size v n xs) (k : Keeps D w w') (hd : ∀ g, v.ownBlock = some g → ¬ D g) : w'.ownsRow B e size v n xs := by
  refine ⟨h.1, ?_⟩
  rcases h.2 with hn | ⟨g, cap, cur, rfl, hb, hgg, rest⟩
  · exact .inl hn
  · exact .inr ⟨g, cap, cur, rfl, hb, k.obj hgg (hd g rfl), rest⟩
theorem own_apart {w w' : World} {B B' n n' size size' : Nat} {e e' : TypeId} {v v' : Value} {xs xs' : List Value} (h : w.ownsRow B e size v n xs) (h' : w.ownsRow B' e' size' v' n' xs') (hne : e ≠ e') (hg : w.grownBy w' v'.ownBlock) : w'.ownsRow B e size v n xs := by
  refine own_keep h ((Keeps.refl (fun k => v'.ownBlock = some k) w).grown hg fun k hk _ => hk) fun g hg' hx => ?_
  obtain ⟨_, c, hc⟩ := own_ty h g hg'
  obtain ⟨_, c', hc'⟩ := own_ty h' g hx
  rw [hc] at hc'
  simp at hc'
  exact hne hc'.2
theorem own_lower {w : World} {B B' n size : Nat} {e : TypeId} {v : Value} {xs : List Value} (h : w.ownsRow B e size v n xs) (hB : B' ≤ B) : w.ownsRow B' e size v n xs :=
  ⟨h.1, h.2.imp id fun ⟨g, cap, cur, hv, hg, r⟩ => ⟨g, cap, cur, hv, by omega, r⟩⟩
theorem own_slice {w : World} {B n : Nat} {e : TypeId} {size : Nat} {v : Value} {xs : List Value} (h : w.ownsRow B e size v n xs) : ∃ A c, v = .slice A n c := by
  rcases h.2 with ⟨rfl, rfl⟩ | ⟨g, cap, cur, rfl, _⟩
  · exact ⟨none, 0, rfl⟩
  · exact ⟨_, cap, rfl⟩
theorem own_form {w : World} {B n : Nat} {e : TypeId} {size : Nat} {v : Value} {xs : List Value} (h : w.ownsRow B e size v n xs) (hn : 0 < n) : ∃ g cap, v = .slice (some ⟨g, 0, none⟩) n cap ∧ B ≤ g ∧ g < w.heap.size ∧ n ≤ cap ∧ cap ≤ maxLen := by
  rcases h.2 with ⟨rfl, h0⟩ | ⟨g, cap, cur, rfl, hb, hg, h1, h2, _⟩
  · omega
  · exact ⟨g, cap, rfl, hb, blk_lt hg, h1, h2⟩
theorem own_cell {w : World} {B n cap g : Nat} {e : TypeId} {size : Nat} {xs : List Value} (h : w.ownsRow B e size (.slice (some ⟨g, 0, none⟩) n cap) n xs) (j : Nat) {u : Value} (hj : xs[j]? = some u) : w.cell? ⟨g, j, none⟩ = some u := by
  have := h.cells (g := g) rfl j u hj
  rwa [add_plain, Nat.zero_add] at this
/-- A block that is no row of e's is kept where a row of e's grows. -/
theorem grown_obj {w w' : World} {B n size : Nat} {e t : TypeId} {v : Value} {xs : List Value} {cs : Array Value} {k : Nat} (h : w.ownsRow B e size v n xs) (hg : w.grownBy w' v.ownBlock) (ho : w.heap[k]? = some (.cells cs t (0, 0))) (hk : k < B ∨ t ≠ e) : w'.heap[k]? = some (.cells cs t (0, 0)) := by
  refine (hg.block k (blk_lt ho) fun hx => ?_).trans ho
  obtain ⟨h1, c, hc⟩ := own_ty h k hx.symm
  rw [ho] at hc
  simp at hc
  rcases hk with hk | hk
  · omega
  · exact hk hc.2
theorem grown_keeps {w0 w w' : World} {D : Nat → Prop} {B n size : Nat} {e : TypeId} {v : Value} {xs : List Value} (h : Keeps D w0 w) (ho : w.ownsRow B e size v n xs) (hg : w.grownBy w' v.ownBlock) (hB : w0.heap.size ≤ B) : Keeps D w0 w' :=
  h.grown hg fun k hk hlt => by have := (own_ty ho k hk).1; omega
end Go.Proofs.YtonjhdmnndffkaaDoor
