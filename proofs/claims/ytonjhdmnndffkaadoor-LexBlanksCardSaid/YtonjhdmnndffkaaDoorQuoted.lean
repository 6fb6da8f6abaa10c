/- pattern.Quoted and its deferred closure. -/
import Derived.Test.YtonjhdmnndffkaaDoorScan
import Derived.Recover
import Derived.IntWalk
import Derived.Deep.RegionHeld3
namespace Go.Proofs.YtonjhdmnndffkaaDoor
open Go.RowKit
set_option maxRecDepth 100000
set_option linter.unusedSimpArgs false
set_option linter.unusedVariables false

theorem ta_ww (p : Int) (w : World) : (Instr.typeAssert (.iface 138 (.int .i64 p)) 20 138 true).run Tryd.prog w = .ok (.tuple #[.int .i64 p, .bool true]) w := by kernel_rfl
theorem ta_lw (p : Int) (w : World) : (Instr.typeAssert (.iface 139 (.int .i64 p)) 20 138 true).run Tryd.prog w = .ok (.tuple #[.int .i64 0, .bool false]) w := by kernel_rfl
theorem ta_ll (p : Int) (w : World) : (Instr.typeAssert (.iface 139 (.int .i64 p)) 20 139 true).run Tryd.prog w = .ok (.tuple #[.int .i64 p, .bool true]) w := by kernel_rfl
theorem ta_nw (w : World) : (Instr.typeAssert .nilIface 20 138 true).run Tryd.prog w = .ok (.tuple #[.int .i64 0, .bool false]) w := by kernel_rfl
theorem ta_nl (w : World) : (Instr.typeAssert .nilIface 20 139 true).run Tryd.prog w = .ok (.tuple #[.int .i64 0, .bool false]) w := by kernel_rfl

theorem catch_wrong (a b c : Nat) (p x3 x4 x5 : Int) (s : ByteArray) (w : World) (hab : a ≠ b) (hac : a ≠ c) (hbc : b ≠ c)
    (ha : w.heap[a]? = some (.cells #[.string s] 9 (0, 0))) (hb : w.heap[b]? = some (.cells #[.int .i64 x3] 3 (0, 0))) (hc : w.heap[c]? = some (.cells #[.int .i64 x4, .int .i64 x5] 27 (0, 0))) :
    CallsD Tryd.prog 76 #[.pointer (some ⟨a, 0, none⟩), .pointer (some ⟨b, 0, none⟩), .pointer (some ⟨c, 0, none⟩)] (.panicking [{ v := .iface 138 (.int .i64 p), recovered := false }]) w fun e u' w' =>
      e = .returned (.tuple #[]) ∧ u' = .panicking [{ v := .iface 138 (.int .i64 p), recovered := true }] ∧ w'.heap[a]? = some (.cells #[.string ⟨#[]⟩] 9 (0, 0)) ∧ w'.heap[b]? = some (.cells #[.int .i64 0] 3 (0, 0)) ∧ w'.heap[c]? = some (.cells #[.int .i64 6, .int .i64 p] 27 (0, 0)) ∧ Keeps (fun k => k = a ∨ k = b ∨ k = c) w w' := by
  have ca := blk_at ha 0 rfl
  have cb := blk_at hb 0 rfl
  have cc0 := blk_at hc 0 rfl
  have cc1 := blk_at hc 1 rfl
  have fa := blk_frozen ha 0
  have fb := blk_frozen hb 0
  have fc0 := blk_frozen hc 0
  have fc1 := blk_frozen hc 1
  have hba : ¬ b = a := fun e => hab e.symm
  have hca : ¬ c = a := fun e => hac e.symm
  have hcb : ¬ c = b := fun e => hbc e.symm
  refine callsD_of_wpS Tryd.func76 rfl fun c₀ cs hu => ?_
  simp only [Tryd.ntmps76, List.size_toArray, List.length_cons, List.length_nil, Nat.reduceAdd, Nat.reduceSub, Array.replicate_succ, Array.replicate_zero, List.push_toArray, List.append_toArray, List.nil_append, List.cons_append]
  apply wpS_seq
  apply wpS_region
  simp [wpOpsS, go_sem, recoverD, hu, Exit.thenS]
  refine wpS_of_wp ?_
  have hta := ta_ww p
  go_wp2
  refine ⟨rfl, _, rfl, _, results_none rfl _ _ _, rfl, rfl, ?_, ?_, ?_, ?_⟩
  · exact blk_far (blk_far (blk_far (by simpa using blk_set ha 0 _) hab _) hac _) hac _
  · exact blk_far (blk_far (by simpa using blk_set (blk_far hb hba _) 0 _) hbc _) hbc _
  · simpa using blk_set (blk_set (blk_far (blk_far hc hca _) hcb _) 0 _) 1 _
  · exact ((((Keeps.refl _ w).setCell _ _ (.inl (.inl rfl))).setCell _ _ (.inl (.inr (.inl rfl)))).setCell _ _ (.inl (.inr (.inr rfl)))).setCell _ _ (.inl (.inr (.inr rfl)))

theorem catch_long (a b c : Nat) (p x3 x4 x5 : Int) (s : ByteArray) (w : World) (hab : a ≠ b) (hac : a ≠ c) (hbc : b ≠ c)
    (ha : w.heap[a]? = some (.cells #[.string s] 9 (0, 0))) (hb : w.heap[b]? = some (.cells #[.int .i64 x3] 3 (0, 0))) (hc : w.heap[c]? = some (.cells #[.int .i64 x4, .int .i64 x5] 27 (0, 0))) :
    CallsD Tryd.prog 76 #[.pointer (some ⟨a, 0, none⟩), .pointer (some ⟨b, 0, none⟩), .pointer (some ⟨c, 0, none⟩)] (.panicking [{ v := .iface 139 (.int .i64 p), recovered := false }]) w fun e u' w' =>
      e = .returned (.tuple #[]) ∧ u' = .panicking [{ v := .iface 139 (.int .i64 p), recovered := true }] ∧ w'.heap[a]? = some (.cells #[.string ⟨#[]⟩] 9 (0, 0)) ∧ w'.heap[b]? = some (.cells #[.int .i64 0] 3 (0, 0)) ∧ w'.heap[c]? = some (.cells #[.int .i64 3, .int .i64 p] 27 (0, 0)) ∧ Keeps (fun k => k = a ∨ k = b ∨ k = c) w w' := by
  have ca := blk_at ha 0 rfl
  have cb := blk_at hb 0 rfl
  have cc0 := blk_at hc 0 rfl
  have cc1 := blk_at hc 1 rfl
  have fa := blk_frozen ha 0
  have fb := blk_frozen hb 0
  have fc0 := blk_frozen hc 0
  have fc1 := blk_frozen hc 1
  have hba : ¬ b = a := fun e => hab e.symm
  have hca : ¬ c = a := fun e => hac e.symm
  have hcb : ¬ c = b := fun e => hbc e.symm
  refine callsD_of_wpS Tryd.func76 rfl fun c₀ cs hu => ?_
  simp only [Tryd.ntmps76, List.size_toArray, List.length_cons, List.length_nil, Nat.reduceAdd, Nat.reduceSub, Array.replicate_succ, Array.replicate_zero, List.push_toArray, List.append_toArray, List.nil_append, List.cons_append]
  apply wpS_seq
  apply wpS_region
  simp [wpOpsS, go_sem, recoverD, hu, Exit.thenS]
  refine wpS_of_wp ?_
  have hta := ta_lw p
  have htb := ta_ll p
  go_wp2
  refine ⟨rfl, _, rfl, _, results_none rfl _ _ _, rfl, rfl, ?_, ?_, ?_, ?_⟩
  · exact blk_far (blk_far (blk_far (by simpa using blk_set ha 0 _) hab _) hac _) hac _
  · exact blk_far (blk_far (by simpa using blk_set (blk_far hb hba _) 0 _) hbc _) hbc _
  · simpa using blk_set (blk_set (blk_far (blk_far hc hca _) hcb _) 0 _) 1 _
  · exact ((((Keeps.refl _ w).setCell _ _ (.inl (.inl rfl))).setCell _ _ (.inl (.inr (.inl rfl)))).setCell _ _ (.inl (.inr (.inr rfl)))).setCell _ _ (.inl (.inr (.inr rfl)))

theorem catch_idle (a b c : Addr) (w : World) :
    CallsD Tryd.prog 76 #[.pointer (some a), .pointer (some b), .pointer (some c)] .returning w fun e u' w' => e = .returned (.tuple #[]) ∧ u' = .returning ∧ w = w' := by
  refine callsD_of_wpS Tryd.func76 rfl fun c₀ cs hu => ?_
  simp only [Tryd.ntmps76, List.size_toArray, List.length_cons, List.length_nil, Nat.reduceAdd, Nat.reduceSub, Array.replicate_succ, Array.replicate_zero, List.push_toArray, List.append_toArray, List.nil_append, List.cons_append]
  apply wpS_seq
  apply wpS_region
  simp [wpOpsS, go_sem, recoverD, hu, Exit.thenS]
  refine wpS_of_wp ?_
  have hta := ta_nw
  have htb := ta_nl
  go_wp2
  exact ⟨rfl, _, by cases c₀; simp at hu; rw [hu], _, results_none rfl _ _ _, rfl, rfl, rfl⟩

def quotedV (r : List UInt8 × Int × Int × Int) : Value := .tuple #[.string ⟨r.1.toArray⟩, .int .i64 r.2.1, .agg #[.int .i64 r.2.2.1, .int .i64 r.2.2.2]]

theorem leaves_quoted {a b c : Nat} {R : Ending → World → Prop} {w : World} {s : ByteArray} {x y z : Int} {v0 v1 v2 v3 v7 v8 v9 v10 v11 v12 v13 v14 v15 v16 v17 v18 v19 v20 v21 v22 v23 v24 : Value}
    (ha : w.heap[a]? = some (.cells #[.string s] 9 (0, 0))) (hb : w.heap[b]? = some (.cells #[.int .i64 x] 3 (0, 0))) (hc : w.heap[c]? = some (.cells #[.int .i64 y, .int .i64 z] 27 (0, 0)))
    (h : R (.returned (.tuple #[.string s, .int .i64 x, .agg #[.int .i64 y, .int .i64 z]])) w) :
    Leaves Tryd.prog Tryd.f59 #[v0, v1, v2, v3, .pointer (some ⟨a, 0, none⟩), .pointer (some ⟨b, 0, none⟩), .pointer (some ⟨c, 0, none⟩), v7, v8, v9, v10, v11, v12, v13, v14, v15, v16, v17, v18, v19, v20, v21, v22, v23, v24] R [] .returning w := by
  have ca := blk_at ha 0 rfl
  have cb := blk_at hb 0 rfl
  have cc0 := blk_at hc 0 rfl
  have cc1 := blk_at hc 1 rfl
  refine ⟨_, ?_, h⟩
  simp [results, Tryd.results59, go_sem, ca, cb, cc0, cc1]

theorem Quoted_c (s : ByteArray) (most : Int) (w : World) (hs : s.size ≤ 1000000) (hm0 : -1 ≤ most) (hm1 : most ≤ 1000000) :
    Calls Tryd.prog 59 #[.string s, .int .i64 most] w fun e w' => e = .returned (quotedV (quotedR s.data.toList most)) ∧ Keeps noB w w' := by
  have hmf : ∀ (fn : Fn) (first cap : Array Value) (w : World), (Instr.makeFunc fn first cap).run Tryd.prog w = .ok (.func fn first cap) w := fun _ _ _ _ => rfl
  obtain ⟨R, hR⟩ : ∃ R, scanR s.data.toList (max most (-1)) = R := ⟨_, rfl⟩
  rw [show quotedR s.data.toList most = quotedOf R by rw [← hR]; rfl]
  have HS := Lib.hid hR
  clear hR
  have hb0 := blk_alloc (blk_alloc (blk_new w (.cells #[.string ⟨#[]⟩] 9)) (.cells #[.int .i64 0] 3)) (.cells #[.int .i64 0, .int .i64 0] 27)
  have hb1 := blk_alloc (blk_new (w.alloc (.cells #[.string ⟨#[]⟩] 9)) (.cells #[.int .i64 0] 3)) (.cells #[.int .i64 0, .int .i64 0] 27)
  have hb2 := blk_new ((w.alloc (.cells #[.string ⟨#[]⟩] 9)).alloc (.cells #[.int .i64 0] 3)) (.cells #[.int .i64 0, .int .i64 0] 27)
  have hk0 := (((Keeps.refl noB w).alloc (.cells #[.string ⟨#[]⟩] 9)).alloc (.cells #[.int .i64 0] 3)).alloc (.cells #[.int .i64 0, .int .i64 0] 27)
  simp only [World.size_alloc] at hb1 hb2
  go_enter_defers Tryd.func59, Tryd.ntmps59
  go_wp2_with fail
  generalize (((w.alloc (Obj.cells #[Value.string { data := #[] }] 9)).alloc (Obj.cells #[Value.int IntKind.i64 0] 3)).alloc (Obj.cells #[Value.int IntKind.i64 0, Value.int IntKind.i64 0] 27)) = w3 at hb0 hb1 hb2 hk0 ⊢
  refine (scan_c s (max most (-1)) w3 hs).mono ?_
  rw [HS.out]
  rintro e w4 ⟨hk, hp⟩
  have hb0' := hk.obj hb0 id
  have hb1' := hk.obj hb1 id
  have hb2' := hk.obj hb2 id
  have hk4 := hk0.quiet hk
  cases R with
  | ok out last =>
    obtain ⟨v, ps, rfl, how, hl, hlast⟩ := hp
    obtain ⟨g, cap, rfl, hgb, hgl, _, _⟩ := own_form how (by omega)
    have hcell := own_cell how ps.length (u := .int .i64 last) (by simp [ints])
    have ca := blk_at hb0' 0 rfl
    have cb := blk_at hb1' 0 rfl
    have cc0 := blk_at hb2' 0 rfl
    have cc1 := blk_at hb2' 1 rfl
    have fa := blk_frozen hb0' 0
    have fb := blk_frozen hb1' 0
    have fc0 := blk_frozen hb2' 0
    have fc1 := blk_frozen hb2' 1
    have hlt := blk_lt hb2
    have h1 : w.heap.size ≠ g := by omega
    go_wp2_with fail
    have hb05 := blk_set hb0' 0 (.string ⟨out.toArray⟩)
    have hb15 := blk_far hb1' (p := ⟨w.heap.size, 0, none⟩) (by simp) (.string ⟨out.toArray⟩)
    have hb25 := blk_far hb2' (p := ⟨w.heap.size, 0, none⟩) (by simp; omega) (.string ⟨out.toArray⟩)
    have hk5 := hk4.setCell ⟨w.heap.size, 0, none⟩ (.string ⟨out.toArray⟩) (.inr (by simp))
    have hcell5 := cs_far hcell (a := ⟨w.heap.size, 0, none⟩) (by show g ≠ w.heap.size; omega) (.string ⟨out.toArray⟩)
    clear ca cb cc0 cc1 fa fb fc0 fc1 hb0' hb1' hb2' hk4 hk how hcell hb0 hb1 hb2 hk0
    generalize (w4.setCell ⟨w.heap.size, 0, none⟩ (Value.string ⟨out.toArray⟩)) = w5 at hb05 hb15 hb25 hk5 hcell5 ⊢
    have ca := blk_at hb05 0 (v := .string ⟨out.toArray⟩) (by simp)
    have cb := blk_at hb15 0 rfl
    have cc0 := blk_at hb25 0 rfl
    have cc1 := blk_at hb25 1 rfl
    have fa := blk_frozen hb05 0
    have fb := blk_frozen hb15 0
    have fc0 := blk_frozen hb25 0
    have fc1 := blk_frozen hb25 1
    have hi1 : IntKind.i64.wrap (ps.length : Int) = (ps.length : Int) := IntWalk.i64_in _ (by omega)
    have hi2 : IntKind.i64.wrap ((last : Int) + 1) = (last : Int) + 1 := IntWalk.i64_in _ (by omega)
    have hi3 : 0 ≤ (ps.length : Int) ∧ (ps.length : Int) < (ps.length : Int) + 1 := by omega
    have hsame := cs_same ca (.string ⟨out.toArray⟩)
    have hga : ¬ g = w.heap.size := by omega
    have hgb1 : ¬ w.heap.size + 1 = g := by omega
    have hgc1 : ¬ w.heap.size + 1 + 1 = g := by omega
    have hz2 : ¬ w.heap.size + 1 + 1 = w.heap.size := by omega
    have hz3 : ¬ w.heap.size = w.heap.size + 1 + 1 := by omega
    go_region_held3 (fun W => W.cell? ⟨g, ps.length, none⟩ = some (.int .i64 last) ∧ W.cell? ⟨w.heap.size, 0, none⟩ = some (.string ⟨out.toArray⟩)) (go_keep) (fail)
    have hb06 := blk_far (blk_far (blk_far (blk_set hb05 0 (.string ⟨out.toArray⟩)) (p := ⟨w.heap.size + 1, 0, none⟩) (by simp) (.int .i64 ((last : Int) + 1))) (p := ⟨w.heap.size + 1 + 1, 0, none⟩) (by simp; omega) (.int .i64 0)) (p := ⟨w.heap.size + 1 + 1, 1, none⟩) (by simp; omega) (.int .i64 0)
    have hb16 := blk_far (blk_far (blk_set (blk_far hb15 (p := ⟨w.heap.size, 0, none⟩) (by simp) (.string ⟨out.toArray⟩)) 0 (.int .i64 ((last : Int) + 1))) (p := ⟨w.heap.size + 1 + 1, 0, none⟩) (by simp) (.int .i64 0)) (p := ⟨w.heap.size + 1 + 1, 1, none⟩) (by simp) (.int .i64 0)
    have hb26 := blk_set (blk_set (blk_far (blk_far hb25 (p := ⟨w.heap.size, 0, none⟩) (by simp; omega) (.string ⟨out.toArray⟩)) (p := ⟨w.heap.size + 1, 0, none⟩) (by simp) (.int .i64 ((last : Int) + 1))) 0 (.int .i64 0)) 1 (.int .i64 0)
    have hk6 := (((hk5.setCell ⟨w.heap.size, 0, none⟩ (.string ⟨out.toArray⟩) (.inr (by simp))).setCell ⟨w.heap.size + 1, 0, none⟩ (.int .i64 ((last : Int) + 1)) (.inr (by simp))).setCell ⟨w.heap.size + 1 + 1, 0, none⟩ (.int .i64 0) (.inr (by simp; omega))).setCell ⟨w.heap.size + 1 + 1, 1, none⟩ (.int .i64 0) (.inr (by simp; omega))
    have hk6 := hk6.drew
    clear ca cb cc0 cc1 fa fb fc0 fc1 hb05 hb15 hb25 hk5 hcell5 hsame hi1 hi2 hi3
    generalize (((w5.setCell ⟨w.heap.size, 0, none⟩ (Value.string ⟨out.toArray⟩)).setCell ⟨w.heap.size + 1, 0, none⟩ (Value.int IntKind.i64 ((last : Int) + 1))).setCell ⟨w.heap.size + 1 + 1, 0, none⟩ (Value.int IntKind.i64 0)).setCell ⟨w.heap.size + 1 + 1, 1, none⟩ (Value.int IntKind.i64 0) = w6 at hb06 hb16 hb26 hk6 ⊢
    go_wp2
    refine leaves_cons (f := 76) (args := #[.pointer (some ⟨w.heap.size, 0, none⟩), .pointer (some ⟨w.heap.size + 1, 0, none⟩), .pointer (some ⟨w.heap.size + 1 + 1, 0, none⟩)]) (by simp) (by simp [go_sem]) ?_
    refine (catch_idle _ _ _ _).mono ?_
    rintro e u' w7 ⟨rfl, rfl, hw7⟩
    subst hw7
    exact leaves_quoted hb06 hb16 hb26 ⟨rfl, hk6⟩
  | wrong p =>
    subst hp
    go_wp2_with fail
    refine leaves_cons (f := 76) (args := #[.pointer (some ⟨w.heap.size, 0, none⟩), .pointer (some ⟨w.heap.size + 1, 0, none⟩), .pointer (some ⟨w.heap.size + 1 + 1, 0, none⟩)]) (by simp) (by simp [go_sem]) ?_
    refine (catch_wrong w.heap.size (w.heap.size + 1) (w.heap.size + 1 + 1) p 0 0 0 ⟨#[]⟩ _ (by omega) (by omega) (by omega) hb0' hb1' hb2').mono ?_
    rintro e u' w7 ⟨rfl, rfl, h1, h2, h3, hk7⟩
    exact leaves_quoted h1 h2 h3 ⟨rfl, hk4.step hk7 fun i hi hx => by omega⟩
  | long p =>
    subst hp
    go_wp2_with fail
    refine leaves_cons (f := 76) (args := #[.pointer (some ⟨w.heap.size, 0, none⟩), .pointer (some ⟨w.heap.size + 1, 0, none⟩), .pointer (some ⟨w.heap.size + 1 + 1, 0, none⟩)]) (by simp) (by simp [go_sem]) ?_
    refine (catch_long w.heap.size (w.heap.size + 1) (w.heap.size + 1 + 1) p 0 0 0 ⟨#[]⟩ _ (by omega) (by omega) (by omega) hb0' hb1' hb2').mono ?_
    rintro e u' w7 ⟨rfl, rfl, h1, h2, h3, hk7⟩
    exact leaves_quoted h1 h2 h3 ⟨rfl, hk4.step hk7 fun i hi hx => by omega⟩
end Go.Proofs.YtonjhdmnndffkaaDoor
