/- strings.Builder's methods, of a builder alone in its block or at the head of a parse.writer. -/
import Derived.Test.YtonjhdmnndffkaaDoorBase
import Derived.Test.YtonjhdmnndffkaaDoorProg
import Derived.Lib.Builder
import Derived.Lib.AppendStr
import Derived.Lib.UnsafeStr
import Derived.Shelf.Strings.BuilderX
namespace Go.Proofs.YtonjhdmnndffkaaDoor
open Go.RowKit
set_option maxRecDepth 100000
set_option linter.unusedSimpArgs false
set_option linter.unusedVariables false

/-- The block's type is a builder's, or a writer's. -/
def BTy (T : TypeId) : Prop := T = 110 ∨ T = 120
/-- A builder in block b that holds the bytes l; its buffer is a row from B on. -/
def Bld (T : TypeId) (B b : Nat) (l : List UInt8) (w : World) : Prop :=
  ∃ p v, w.heap[b]? = some (.cells #[p, v] T (0, 0)) ∧ (p = .pointer none ∨ p = .pointer (some ⟨b, 0, none⟩)) ∧ w.ownsRow B 5 1 v l.length (Lib.byteCells l)
/-- What a builder's writing may turn. -/
def BldD (B b : Nat) (w : World) (k : Nat) : Prop := k = b ∨ (B ≤ k ∧ ∃ c, w.heap[k]? = some (.cells c 5 (0, 0)))

theorem BTy.ne {T : TypeId} (h : BTy T) : T ≠ 5 := by rcases h with rfl | rfl <;> decide
theorem Bld.new (T : TypeId) (B : Nat) (w : World) (hB : B ≤ w.heap.size) : Bld T B w.heap.size [] (w.alloc (.cells #[.pointer none, .slice none 0 0] T)) :=
  ⟨_, _, blk_new _ _, .inl rfl, World.ownsRow_nil _ _ _ _⟩
theorem ownD {w : World} {B : Nat} {v : Value} {n : Nat} {xs : List Value} (h : w.ownsRow B 5 1 v n xs) : ∀ k, v.ownBlock = some k → B ≤ k ∧ ∃ c, w.heap[k]? = some (.cells c 5 (0, 0)) := by
  intro k hk
  rcases h.2 with ⟨rfl, _⟩ | ⟨g, cap, cur, rfl, hb, hg, _⟩
  · simp [Value.ownBlock] at hk
  · simp [Value.ownBlock] at hk
    subst hk
    exact ⟨hb, cur, hg⟩
theorem Bld.keep {T : TypeId} {B b : Nat} {l : List UInt8} {w w' : World} (h : Bld T B b l w) {D : Nat → Prop} (k : Keeps D w w') (hb : ¬ D b) (hd : ∀ g c, B ≤ g → w.heap[g]? = some (.cells c 5 (0, 0)) → ¬ D g) : Bld T B b l w' := by
  obtain ⟨p, v, hh, hp, ho⟩ := h
  refine ⟨p, v, k.obj hh hb, hp, ho.1, ?_⟩
  rcases ho.2 with hn | ⟨g, cap, cur, hv, hg, hgg, rest⟩
  · exact .inl hn
  · exact .inr ⟨g, cap, cur, hv, hg, k.obj hgg (hd g cur hg hgg), rest⟩

theorem copyCheck_c (T : TypeId) (hT : BTy T) (B b : Nat) (l : List UInt8) (w : World) (h : Bld T B b l w) :
    Calls Tryd.prog 79 #[.pointer (some ⟨b, 0, none⟩)] w fun e w' => e = .returned (.tuple #[]) ∧ Bld T B b l w' ∧ Keeps (BldD B b w) w w' ∧ w'.cell? ⟨b, 0, none⟩ = some (.pointer (some ⟨b, 0, none⟩)) ∧ (∀ k, k ≠ b → w'.heap[k]? = w.heap[k]?) ∧ w'.heap.size = w.heap.size := by
  obtain ⟨p, v, hh, hp, ho⟩ := h
  have hne := hT.ne
  have hc0 := blk_cell hh 0
  have hf0 := blk_frozen hh 0
  simp at hc0
  rcases hp with rfl | rfl
  · obtain ⟨j, hj, hj0⟩ : ∃ j, Tryd.prog.info? 110 = some j ∧ j.size = 2 := by
      have : (Tryd.prog.info? 110).map (·.size) = some 2 := by kernel_rfl
      exact Option.map_eq_some_iff.1 this
    have hsh : w.shape? b = some (T, 2) := by simp [World.shape?, hh]
    have hlies : liesAt Tryd.prog Tryd.prog.depth T (2 / Tryd.prog.cellsOf T) 0 110 1 = true := by
      rcases hT with rfl | rfl
      · kernel_rfl
      · kernel_rfl
    go_enter Tryd.func79, Tryd.ntmps79
    go_wp2
    rw [Lib.run_to_unsafe w ⟨b, 0, none⟩ Tryd.underlying108 Tryd.underlying168 hj (by rw [hj0]; decide) hsh (Nat.zero_lt_succ 1)]
    simp only [Result.andThen]
    rw [Oper.upon_value]
    go_wp2
    rw [run_callFunc_extern Tryd.func104 (by kernel_rfl) (by kernel_rfl) (by kernel_rfl) (e := Extern.AbiNoEscape.same) (by kernel_rfl)]
    rw [Lib.run_noEscape]
    simp only [Result.andThen]
    rw [Oper.upon_value]
    go_wp2
    rw [Lib.run_from_unsafe w ⟨b, 0, none⟩ Tryd.underlying168 Tryd.underlying108 hj hsh hlies]
    simp only [Result.andThen]
    rw [Oper.upon_value]
    go_wp2
    go_end0
    refine ⟨rfl, ⟨_, v, blk_set hh 0 _, .inr rfl, ho.1, ?_⟩, (Keeps.refl _ _).setCell _ _ (.inl (.inl rfl)), by rw [blk_cell (blk_set hh 0 _)]; rfl, fun k hk => Below.heap_setCell _ _ _ _ hk, by simp⟩
    rcases ho.2 with hn | ⟨g, cap, cur, hv, hg, hgg, rest⟩
    · exact .inl hn
    · refine .inr ⟨g, cap, cur, hv, hg, blk_far hgg ?_ _, rest⟩
      intro e
      simp at e
      rw [e, hh] at hgg
      simp at hgg
      exact hne hgg.2
  · obtain ⟨j, hj, hj0⟩ : ∃ j, Tryd.prog.info? 110 = some j ∧ j.size = 2 := by
      have : (Tryd.prog.info? 110).map (·.size) = some 2 := by kernel_rfl
      exact Option.map_eq_some_iff.1 this
    go_enter Tryd.func79, Tryd.ntmps79
    go_wp2
    rw [Lib.run_neq_ptr_same w _ Tryd.underlying108 hj]
    go_wp2
    go_end0
    exact ⟨rfl, ⟨_, v, hh, .inr rfl, ho⟩, Keeps.refl _ _, hc0, fun _ _ => rfl, rfl⟩

theorem bytesInfo : (Tryd.prog.info? 5).map (fun i => (i.zero, i.size, i.bytes)) = some (some (.int .u8 0), 1, 1) := by kernel_rfl
theorem cc_keep {B b : Nat} {w w1 : World} (hs : w1.heap.size = w.heap.size) (hk : ∀ k, k ≠ b → w1.heap[k]? = w.heap[k]?) {k : Nat} (h : BldD B b w1 k) : BldD B b w k := by
  rcases h with h | ⟨h, c, hc⟩
  · exact .inl h
  · by_cases e : k = b
    · exact .inl e
    · exact .inr ⟨h, c, (hk k e).symm.trans hc⟩
/-- What stands behind the store of a grown buffer. -/
theorem bld_put {T : TypeId} (hT : BTy T) {B b : Nat} {w1 w2 : World} {p v v' : Value} {l l' : List UInt8} (hp : p = .pointer none ∨ p = .pointer (some ⟨b, 0, none⟩)) (hh : w1.heap[b]? = some (.cells #[p, v] T (0, 0)))
    (ho : w1.ownsRow B 5 1 v l.length (Lib.byteCells l)) (hg : w1.grownBy w2 v.ownBlock) (ho2 : w2.ownsRow B 5 1 v' l'.length (Lib.byteCells l')) :
    w2.heap[b]? = some (.cells #[p, v] T (0, 0)) ∧ Bld T B b l' (w2.setCell ⟨b, 1, none⟩ v') ∧ Keeps (BldD B b w1) w1 (w2.setCell ⟨b, 1, none⟩ v') := by
  have hne := Lib.ownBlock_ne ho hh hT.ne
  have h2 : w2.heap[b]? = some (.cells #[p, v] T (0, 0)) := (hg.block b (blk_lt hh) (fun e => hne e.symm)).trans hh
  have hne2 := Lib.ownBlock_ne ho2 h2 hT.ne
  refine ⟨h2, ⟨p, v', by simpa using blk_set h2 1 v', hp, ho2.kept (row := some b) ⟨rfl, rfl, rfl, by simp, fun k _ hk => Below.heap_setCell _ _ _ _ (fun e => hk (by simp [e]))⟩ (.inr hne2)⟩, ?_⟩
  refine ((Keeps.refl _ _).grown hg ?_).setCell _ _ (.inl (.inl rfl))
  intro k hk _
  exact .inr (ownD ho k hk)

theorem WriteString_c (T : TypeId) (hT : BTy T) (B b : Nat) (l : List UInt8) (s : ByteArray) (w : World) (h : Bld T B b l w) (hlen : l.length + s.size ≤ 140737488355328) (hB : B ≤ w.heap.size) :
    Calls Tryd.prog 62 #[.pointer (some ⟨b, 0, none⟩), .string s] w fun e w' => e = .returned (.tuple #[.int .i64 s.size, .nilIface]) ∧ Bld T B b (l ++ s.data.toList) w' ∧ Keeps (BldD B b w) w w' := by
  obtain ⟨i0, hi, hz0, hz1, hz2⟩ := info_parts bytesInfo
  go_enter Tryd.func62, Tryd.ntmps62
  go_wp2_with fail
  refine (copyCheck_c T hT B b l _ h).mono ?_
  rintro e w1 ⟨rfl, h1, hk1, hc0, hsame, hsize⟩
  obtain ⟨p, v, hh, hp, ho⟩ := h1
  have c1 : w1.cell? ⟨b, 1, none⟩ = some v := by rw [blk_cell hh]; rfl
  have HS := Lib.hid hsame
  have HZ := Lib.hid hsize
  clear hsame hsize
  go_wp2_with (at_builtin; refine Lib.wpList_append_own_string _ rfl _ _ 68 9 rfl B 5 i0 Tryd.underlying68 Tryd.underlying9 hi hz0 hz1 hz2 _ _ _ rfl ho s rfl ?c3 ?c4 ?c5 ?_)
  case c3 => unfold maxLen; omega
  case c4 => omega
  case c5 => have := hk1.size; omega
  intro v' w2 ho2 hg _
  have hb := bld_put hT hp hh ho hg (l' := l ++ s.data.toList) (v' := v') (by
    have e : Lib.byteCells (l ++ s.data.toList) = Lib.byteCells l ++ Lib.strCells s := by rw [Lib.byteCells_append, Lib.strCells_eq]
    have e2 : (l ++ s.data.toList).length = l.length + s.size := by rw [List.length_append, Array.length_toList]; rfl
    rw [e, e2]; exact ho2)
  obtain ⟨h2, hb2, hk2⟩ := hb
  have d1 : w2.cell? ⟨b, 1, none⟩ = some v := by rw [blk_cell h2]; rfl
  have f1 : w2.frozen? ⟨b, 1, none⟩ = false := blk_frozen h2 1
  obtain ⟨ao, n', cap, hv⟩ : ∃ ao n' cap, v' = .slice ao n' cap := by
    rcases ho2.2 with ⟨hv, _⟩ | ⟨g, cap, cur, hv, _⟩
    · exact ⟨_, _, _, hv⟩
    · exact ⟨_, _, _, hv⟩
  subst hv
  clear hh hp ho h2 ho2
  go_wp2
  go_ret2
  exact ⟨rfl, hb2, hk1.step hk2 fun k _ hk => cc_keep HZ.out HS.out hk⟩

theorem WriteByte_c (T : TypeId) (hT : BTy T) (B b : Nat) (l : List UInt8) (c : UInt8) (w : World) (h : Bld T B b l w) (hlen : l.length + 1 ≤ 140737488355328) (hB : B ≤ w.heap.size) :
    Calls Tryd.prog 61 #[.pointer (some ⟨b, 0, none⟩), .int .u8 (c.toNat : Int)] w fun e w' => e = .returned .nilIface ∧ Bld T B b (l ++ [c]) w' ∧ Keeps (BldD B b w) w w' := by
  obtain ⟨i0, hi, hz0, hz1, hz2⟩ := info_parts bytesInfo
  go_enter Tryd.func61, Tryd.ntmps61
  go_wp2_with fail
  refine (copyCheck_c T hT B b l _ h).mono ?_
  rintro e w1 ⟨rfl, h1, hk1, hc0, hsame, hsize⟩
  obtain ⟨p, v, hh, hp, ho⟩ := h1
  have c1 : w1.cell? ⟨b, 1, none⟩ = some v := by rw [blk_cell hh]; rfl
  have HS := Lib.hid hsame
  have HZ := Lib.hid hsize
  clear hsame hsize
  go_wp2_with (at_builtin; refine wpList_append_own _ rfl _ _ 68 rfl B 5 i0 (.int .u8 0) 1 1 Tryd.underlying68 hi hz0 hz1 hz2 rfl (by decide) _ _ _ rfl (ho.alloc _) ⟨w1.heap.size, 0, none⟩ 1 1 [.int .u8 c.toNat] rfl rfl ?c1 ?c2 ?c3 ?c4 ?c5 ?_)
  case c1 =>
    intro j u hj
    match j, hj with
    | 0, hj => simp at hj; subst hj; simp [Addr.add]
  case c2 => intro u hu; simp at hu; subst hu; rfl
  case c3 => unfold maxLen; omega
  case c4 => omega
  case c5 => have := hk1.size; simp; omega
  intro v' w2 ho2 hg _
  have hb := bld_put hT hp (blk_alloc hh _) (ho.alloc _) hg (l' := l ++ [c]) (v' := v') (by simpa [Lib.byteCells_append, Lib.byteCells] using ho2)
  obtain ⟨h2, hb2, hk2⟩ := hb
  have d1 : w2.cell? ⟨b, 1, none⟩ = some v := by rw [blk_cell h2]; rfl
  have f1 : w2.frozen? ⟨b, 1, none⟩ = false := blk_frozen h2 1
  obtain ⟨ao, n', cap, hv⟩ : ∃ ao n' cap, v' = .slice ao n' cap := by
    rcases ho2.2 with ⟨hv, _⟩ | ⟨g, cap, cur, hv, _⟩
    · exact ⟨_, _, _, hv⟩
    · exact ⟨_, _, _, hv⟩
  subst hv
  have HO := Lib.hid ho
  have HH := Lib.hid hh
  clear hh hp ho h2 ho2
  go_wp2
  go_ret
  refine ⟨rfl, hb2, (hk1.alloc _).step hk2 fun k hk0 hk => ?_⟩
  rcases hk with hk | ⟨hB', c', hc'⟩
  · exact .inl hk
  · refine cc_keep HZ.out HS.out (.inr ⟨hB', c', ?_⟩)
    rwa [Below.heap_alloc _ _ _ (by have := HZ.out; omega)] at hc'

theorem Len_c (T : TypeId) (B b : Nat) (l : List UInt8) (w : World) (h : Bld T B b l w) :
    Calls Tryd.prog 82 #[.pointer (some ⟨b, 0, none⟩)] w fun e w' => e = .returned (.int .i64 l.length) ∧ w = w' := by
  obtain ⟨p, v, hh, hp, ho⟩ := h
  obtain ⟨ao, cap, rfl⟩ : ∃ ao cap, v = .slice ao l.length cap := by
    rcases ho.2 with ⟨hv, h0⟩ | ⟨g, cap, cur, hv, _⟩
    · exact ⟨none, 0, by rw [hv, h0]⟩
    · exact ⟨_, _, hv⟩
  have c1 : w.cell? ⟨b, 1, none⟩ = some (.slice ao l.length cap) := by rw [blk_cell hh]; rfl
  clear hh hp ho
  go_enter Tryd.func82, Tryd.ntmps82
  go_wp2
  go_ret
  exact ⟨rfl, rfl⟩

theorem String_c (T : TypeId) (B b : Nat) (l : List UInt8) (w : World) (h : Bld T B b l w) (h0 : l ≠ []) :
    Calls Tryd.prog 64 #[.pointer (some ⟨b, 0, none⟩)] w fun e w' => e = .returned (.string ⟨l.toArray⟩) ∧ Below B w w' := by
  obtain ⟨p, v, hbk, hp, hown⟩ := h
  have hl0 : l.length ≠ 0 := by simpa using h0
  obtain ⟨g, cap, cur, rfl, hbg, hg, hnc, hcm, hcs, htake⟩ : ∃ g cap cur, v = .slice (some ⟨g, 0, none⟩) l.length cap ∧ B ≤ g ∧ w.heap[g]? = some (.cells cur 5 (0, 0)) ∧ l.length ≤ cap ∧ cap ≤ maxLen ∧ cur.size = cap * 1 ∧ cur.toList.take (l.length * 1) = Lib.byteCells l := by
    rcases hown.2 with ⟨_, hz⟩ | ⟨g, cap, cur, hv, r⟩
    · exact absurd hz hl0
    · exact ⟨g, cap, cur, hv, r⟩
  have c1 : w.drew.cell? ⟨b, 1, none⟩ = some (.slice (some ⟨g, 0, none⟩) l.length cap) := by
    have : w.drew.heap[b]? = some (.cells #[p, .slice (some ⟨g, 0, none⟩) l.length cap] T (0, 0)) := hbk
    rw [blk_cell this]; rfl
  have hSD : (Builtin.unsafeSliceData_ #[68] 146 #[.slice (some ⟨g, 0, none⟩) l.length cap]).run Tryd.prog w.drew = .ok (.pointer (some ⟨g, 0, none⟩)) w.drew :=
    Lib.run_unsafeSliceData_row _ _ _ _ _ _ (by omega)
  have hUS : (Builtin.unsafeString_ #[146, 3] 9 #[.pointer (some ⟨g, 0, none⟩), .int .i64 l.length]).run Tryd.prog w.drew = .ok (.string ⟨l.toArray⟩) (w.drew.freeze ⟨g, 0, none⟩ l.length) := by
    refine Lib.run_unsafeString_row w.drew 146 3 9 5 Tryd.underlying146 (by kernel_rfl) g cur.size (by have hg' : w.drew.heap[g]? = some (.cells cur 5 (0, 0)) := hg; simp [World.shape?, hg']) l h0 (by omega) (by unfold maxLen at hcm; omega) ?_
    intro j x hx
    have := hown.cells (g := g) rfl j (.int .u8 x.toNat) (by simp [Lib.byteCells, hx])
    exact this
  have HB := Lib.hid hbg
  clear hbk hp hown hg hnc hcm hcs htake hbg
  go_enter Tryd.func64, Tryd.ntmps64
  go_wp2
  go_region
  all_goals (go_wp2; go_ret; exact ⟨rfl, Lib.below_freeze (Below.drew (Below.refl B w)) (p := ⟨g, 0, none⟩) HB.out _⟩)
end Go.Proofs.YtonjhdmnndffkaaDoor
