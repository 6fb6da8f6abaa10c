/- What comes in, read by its kind: numbers, strings, structs, slices of any of these. -/
import Derived.Test.YtonjhdmnndffkaaDoorWWords
import Derived.Deep.Slices
import Derived.SizedLaws
import Derived.WalkKit
namespace Go.Proofs.YtonjhdmnndffkaaDoor
open Go.RowKit Go.WideShapes Go.ChangeShapes Go.Proofs.YtonjhdmnndffkaaDoorW.PrintWords
set_option linter.unusedSimpArgs false
set_option linter.unusedVariables false

/-- What reads as of type t is of kind d, and within the bound B. -/
structure Opens {α : Type} (P : Program) (t : TypeId) (d : Kd α) (B : α → Prop) : Prop where
  get : ∀ {H : Type} (enc : TypeId × Value → H) (w : World) (fuel : Nat) (cs : List Value) (y : DataW H × List MemPlace), DataW.trod enc P w 0 (fun _ => true) true fuel t cs = some y → (∀ n ∈ y.1.weights P t, n ≤ reachBytes) → ∃ x, d.K w x cs ∧ B x
section
variable {α β : Type} {P : Program} {t e : TypeId}
theorem Opens.mono {d : Kd α} {B B' : α → Prop} (h : Opens P t d B) (hb : ∀ x, B x → B' x) : Opens P t d B' := ⟨fun enc w fuel cs y h1 h2 => by
  obtain ⟨x, hx, hB⟩  := h.get enc w fuel cs y h1 h2
  exact ⟨x, hx, hb x hB⟩⟩
theorem opens_int {k : IntKind} (ht : P.underlying t = some (.int k)) : Opens P t (Kd.int k) (fun n => (Lit.int k n).wf = true) := ⟨fun enc w fuel cs y h _ => by
  obtain ⟨n, rfl, _, hw⟩ := DataW.trod_int ht h
  exact ⟨n, rfl, hw⟩⟩
theorem opens_bool (ht : P.underlying t = some .bool) : Opens P t Kd.bool (fun _ => True) := ⟨fun enc w fuel cs y h _ => by
  obtain ⟨n, rfl, _⟩ := DataW.trod_bool ht h
  exact ⟨n, rfl, trivial⟩⟩
theorem opens_string (ht : P.underlying t = some .string) : Opens P t Kd.string (fun s => s.size ≤ reachBytes) := ⟨fun enc w fuel cs y h hw => by
  obtain ⟨s, rfl, rfl, _⟩ := DataW.trod_string ht h
  exact ⟨s, rfl, by have := hw s.data.toList.length (by simp [DataW.weights]); rwa [Array.length_toList] at this⟩⟩
theorem weightsAll_mem {H : Type} : ∀ {l : List (DataW H)} {x : DataW H}, x ∈ l → ∀ n ∈ x.weights P e, n ∈ DataW.weightsAll P e l
  | a :: r, x, hx, n, hn => by
    simp only [DataW.weightsAll, List.mem_append]
    rcases List.mem_cons.1 hx with rfl | hx
    · exact .inl hn
    · exact .inr (weightsAll_mem hx n hn)
theorem cells_at {w : World} {base n : Nat} {a : Addr} {cs : List Value} (h : w.cells? base a n = some cs) : cs.length = n ∧ ∀ i u, cs[i]? = some u → w.cell? (a.add i) = some u := by
  obtain ⟨_, hl, hc⟩ := World.cells?_some h
  refine ⟨hl, fun i u hu => ?_⟩
  have hi : i < n := by have := (List.getElem?_eq_some_iff.1 hu).1; omega
  rw [hc i hi]; exact hu
theorem opens_slice {d : Kd α} {B : α → Prop} (ht : P.underlying t = some (.slice e)) (hc : P.cellsOf e = d.sz) (h : Opens P e d B) :
    Opens P t (Kd.slice e d) (fun xs => xs.length * P.bytesOf e ≤ reachBytes ∧ ∀ x ∈ xs, B x) := ⟨fun enc w fuel cs y hy hw => by
  rcases Deep.open_slice ht hy with ⟨rfl, rfl⟩ | ⟨a, len, cap, m, n, D, Pl, rfl, _, hl, hm, hmm, rfl, hx⟩
  · exact ⟨[], ⟨none, 0, rfl, Nat.le_refl _, Kd.C_nil d w⟩, by simp, by simp⟩
  · simp only [if_true] at hmm
    subst hmm
    have hwt : ∀ i, i < m → ∀ q ∈ (D i).weights P e, q ≤ reachBytes := by
      intro i hi q hq
      apply hw
      simp only [DataW.weights, ht, List.mem_cons, List.mem_append]
      right
      by_cases hil : i < len
      · exact .inl (weightsAll_mem (List.mem_map.2 ⟨i, List.mem_range.2 hil, rfl⟩) q hq)
      · refine .inr (weightsAll_mem (List.mem_map.2 ⟨i - len, List.mem_range.2 (by omega), ?_⟩) q hq)
        rw [show len + (i - len) = i by omega]
    have hel : ∀ i, i < len → ∃ x, B x ∧ ∃ c, c.length = d.sz ∧ d.K w x c ∧ ∀ j u, c[j]? = some u → w.cell? (a.add (i * d.sz + j)) = some u := by
      intro i hi
      obtain ⟨cs', h1, h2⟩ := hx i (by omega)
      rw [hc] at h1
      obtain ⟨x, hK, hB⟩  := h.get enc w n cs' (D i, Pl i) h2 (hwt i (by omega))
      obtain ⟨g1, g2⟩ := cells_at h1
      refine ⟨x, hB, cs', g1, hK, fun j u hu => ?_⟩
      rw [← Deep.add_add]
      exact g2 j u hu
    have hxs : ∃ xs : List α, xs.length = len ∧ (∀ x ∈ xs, B x) ∧ ∀ j p, xs[j]? = some p → ∃ c, c.length = d.sz ∧ d.K w p c ∧ ∀ i u, c[i]? = some u → w.cell? (a.add (j * d.sz + i)) = some u := by
      clear hx hwt hw hy hl
      induction len with
      | zero => exact ⟨[], rfl, by simp, by simp⟩
      | succ k ih =>
        obtain ⟨xs, e1, e2, e3⟩ := ih (fun i hi => hel i (by omega))
        obtain ⟨x, hB, hx⟩ := hel k (by omega)
        refine ⟨xs ++ [x], by simp [e1], fun y hy => ?_, fun j p hp => ?_⟩
        · rcases List.mem_append.1 hy with hy | hy
          · exact e2 y hy
          · rw [List.mem_singleton.1 hy]; exact hB
        · rcases Nat.lt_or_ge j xs.length with hj | hj
          · rw [List.getElem?_append_left hj] at hp
            exact e3 j p hp
          · rw [List.getElem?_append_right hj] at hp
            have hj0 : j - xs.length = 0 := by
              have := (List.getElem?_eq_some_iff.1 hp).1
              simp at this
              omega
            rw [hj0] at hp
            simp at hp
            subst hp
            obtain rfl : j = k := by omega
            exact hx
    obtain ⟨xs, e1, e2, e3⟩ := hxs
    refine ⟨xs, ⟨some a, m, by rw [e1], by omega, ⟨rfl, by rw [e1]; simp only [maxLen] at hm; omega, fun _ => ⟨a, rfl, e3⟩⟩⟩, ?_, e2⟩
    have := hw ((len + (m - len)) * P.bytesOf e) (by simp [DataW.weights, ht])
    rw [e1]
    exact Nat.le_trans (Nat.mul_le_mul_right _ (by omega)) this⟩
/-- Fields in line, from cell o on. -/
structure OpensF (P : Program) (fs : List Field) (o : Nat) (d : Kd α) (B : α → Prop) : Prop where
  get : ∀ {H : Type} (enc : TypeId × Value → H) (w : World) (n : Nat) (cs : List Value), cs.length = o + d.sz →
    (∀ f ∈ fs, ∃ y : DataW H × List MemPlace, DataW.trod enc P w 0 (fun _ => true) true n f.type ((cs.drop f.offset).take (P.cellsOf f.type)) = some y ∧ ∀ n ∈ y.1.weights P f.type, n ≤ reachBytes) → ∃ x, d.K w x (cs.drop o) ∧ B x
theorem opensF_one {f : Field} {o : Nat} {d : Kd α} {B : α → Prop} (ho : f.offset = o) (hs : P.cellsOf f.type = d.sz) (h : Opens P f.type d B) : OpensF P [f] o d B := ⟨fun enc w n cs hl hf => by
  obtain ⟨y, h1, h2⟩ := hf f (by simp)
  have  := h.get enc w n _ y h1 h2
  rw [ho, hs, List.take_of_length_le (by rw [List.length_drop]; omega)] at this
  exact this⟩
theorem opensF_cons {f : Field} {fs : List Field} {o : Nat} {d : Kd α} {d2 : Kd β} {B : α → Prop} {B2 : β → Prop} (ho : f.offset = o) (hs : P.cellsOf f.type = d.sz) (h : Opens P f.type d B) (hr : OpensF P fs (o + d.sz) d2 B2) :
    OpensF P (f :: fs) o (Kd.pair d d2) (fun x => B x.1 ∧ B2 x.2) := ⟨fun enc w n cs hl hf => by
  obtain ⟨y, h1, h2⟩ := hf f (by simp)
  obtain ⟨x, hx, hB⟩  := h.get enc w n _ y h1 h2
  obtain ⟨x2, hx2, hB2⟩ := hr.get enc w n cs (by have : (Kd.pair d d2).sz = d.sz + d2.sz := rfl; omega) (fun g hg => hf g (by simp [hg]))
  rw [ho, hs] at hx
  refine ⟨(x, x2), ⟨_, _, ?_, hx, hx2⟩, hB, hB2⟩
  rw [← List.drop_drop, List.take_append_drop]⟩
theorem weightsEach_mem {H : Type} : ∀ {ts : List TypeId} {ds : List (DataW H)} {j : Nat} {t : TypeId} {d : DataW H}, ts[j]? = some t → ds[j]? = some d → ∀ n ∈ d.weights P t, n ∈ DataW.weightsEach P ts ds := fun ht hd n hn => DataW.weights_mem_each ht hd n hn
theorem opens_struct {fs : Array Field} {d : Kd α} {B : α → Prop} (ht : P.underlying t = some (.struct fs)) (hC : P.cellsOf t = d.sz) (h : OpensF P fs.toList 0 d B) (g : β → α) (gi : α → β) (hg : ∀ a, g (gi a) = a) :
    Opens P t (Kd.iso d g) (fun b => B (g b)) := ⟨fun enc w fuel cs y hy hw => by
  obtain ⟨xs, n, _, rfl, hl, hxl, hf⟩ := DataW.trod_struct ht hy
  obtain ⟨x, hx, hB⟩  := h.get enc w n cs (by omega) (fun f hfm => by
    obtain ⟨i, hi⟩ := List.getElem?_of_mem hfm
    have hi' : fs[i]? = some f := by rw [← Array.getElem?_toList]; exact hi
    have hlt : i < xs.length := by have := (Array.getElem?_eq_some_iff.1 hi').1; omega
    have h1 := hf i f hi'
    rw [List.getElem?_eq_getElem hlt] at h1
    refine ⟨_, h1, fun q hq => hw q ?_⟩
    simp only [DataW.weights, ht]
    refine weightsEach_mem (j := i) (t := f.type) (d := xs[i].1) ?_ ?_ q hq
    · rw [List.getElem?_map, hi]; rfl
    · rw [List.getElem?_map, List.getElem?_eq_getElem hlt]; rfl)
  exact ⟨gi x, by show d.K w (g (gi x)) cs; rw [hg]; simpa using hx, by show B (g (gi x)); rw [hg]; exact hB⟩⟩
end
end Go.Proofs.YtonjhdmnndffkaaDoor
