/- lex.reader.token. -/
import Derived.Test.YtonjhdmnndffkaaDoorReader
import Derived.Test.YtonjhdmnndffkaaDoorQuoted
import Derived.Test.YtonjhdmnndffkaaDoorQuote
import Derived.StillTailTactics
import Derived.IntWalk
namespace Go.Proofs.YtonjhdmnndffkaaDoor
open Go.RowKit
set_option maxRecDepth 100000
set_option linter.unusedSimpArgs false
set_option linter.unusedVariables false

def tokV (t : Tok) : Value := .agg #[.int .i64 t.kind, .string ⟨t.text.toArray⟩, .int .i64 t.n, .int .i64 t.at_]
def TokPost (r : Tok × Int × Nat) (b : Nat) (s : ByteArray) (o e1 e2 : Value) (w : World) (e : Ending) (w' : World) : Prop :=
  e = .returned (.tuple #[tokV r.1, .int .i64 r.2.1]) ∧ w'.heap[b]? = some (.cells #[.string s, .int .i64 (r.2.2 : Int), o, e1, e2] 77 (0, 0)) ∧ Keeps (fun k => k = b) w w'

/-- The state of the reading of a token: at place q, the token so far. -/
structure TokS (w0 : World) (b : Nat) (s : ByteArray) (o e1 e2 : Value) (q : Nat) (t : Tok) (w : World) : Prop where
  hb : w.heap[b]? = some (.cells #[.string s, .int .i64 q, o, e1, e2] 77 (0, 0))
  h2 : w.heap[w0.heap.size]? = some (.cells #[.int .i64 0, .string ⟨#[]⟩, .int .i64 0, .int .i64 0] 37 (0, 0))
  h4 : w.heap[w0.heap.size + 1]? = some (.cells #[.int .i64 t.kind, .string ⟨t.text.toArray⟩, .int .i64 t.n, .int .i64 t.at_] 37 (0, 0))
  hk : Keeps (fun k => k = b) w0 w
  hlt : b < w0.heap.size
section
variable {w0 w w' : World} {b q : Nat} {s : ByteArray} {o e1 e2 : Value} {t : Tok}
theorem TokS.move (h : TokS w0 b s o e1 e2 q t w) (k : Keeps noB w w') : TokS w0 b s o e1 e2 q t w' :=
  ⟨k.obj h.hb id, k.obj h.h2 id, k.obj h.h4 id, h.hk.quiet k, h.hlt⟩
theorem TokS.run (h : TokS w0 b s o e1 e2 q t w) (k : Keeps (fun k => k = b) w w') (q' : Nat) (hb : w'.heap[b]? = some (.cells #[.string s, .int .i64 (q' : Int), o, e1, e2] 77 (0, 0))) : TokS w0 b s o e1 e2 q' t w' :=
  ⟨hb, k.obj h.h2 (by have := h.hlt; omega), k.obj h.h4 (by have := h.hlt; omega), h.hk.trans k, h.hlt⟩
theorem TokS.adv (h : TokS w0 b s o e1 e2 q t w) (q' : Nat) : TokS w0 b s o e1 e2 q' t (w.setCell ⟨b, 1, none⟩ (.int .i64 (q' : Int))) :=
  h.run ((Keeps.refl _ _).setCell _ _ (.inl rfl)) q' (by simpa using blk_set h.hb 1 (.int .i64 (q' : Int)))
theorem TokS.kind_ (h : TokS w0 b s o e1 e2 q t w) (x : Int) : TokS w0 b s o e1 e2 q { t with kind := x } (w.setCell ⟨w0.heap.size + 1, 0, none⟩ (.int .i64 x)) :=
  ⟨blk_far h.hb (by have := h.hlt; simp; omega) _, blk_far h.h2 (by simp) _, by simpa using blk_set h.h4 0 (.int .i64 x), h.hk.setCell _ _ (.inr (by simp)), h.hlt⟩
theorem TokS.text_ (h : TokS w0 b s o e1 e2 q t w) (x : List UInt8) : TokS w0 b s o e1 e2 q { t with text := x } (w.setCell ⟨w0.heap.size + 1, 1, none⟩ (.string ⟨x.toArray⟩)) :=
  ⟨blk_far h.hb (by have := h.hlt; simp; omega) _, blk_far h.h2 (by simp) _, by simpa using blk_set h.h4 1 (.string ⟨x.toArray⟩), h.hk.setCell _ _ (.inr (by simp)), h.hlt⟩
theorem TokS.num_ (h : TokS w0 b s o e1 e2 q t w) (x : Int) : TokS w0 b s o e1 e2 q { t with n := x } (w.setCell ⟨w0.heap.size + 1, 2, none⟩ (.int .i64 x)) :=
  ⟨blk_far h.hb (by have := h.hlt; simp; omega) _, blk_far h.h2 (by simp) _, by simpa using blk_set h.h4 2 (.int .i64 x), h.hk.setCell _ _ (.inr (by simp)), h.hlt⟩
theorem TokS.far (h : TokS w0 b s o e1 e2 q t w) (a : Addr) (v : Value) (h1 : ¬ a.block = b) (h2 : w0.heap.size + 1 < a.block) : TokS w0 b s o e1 e2 q t (w.setCell a v) :=
  ⟨blk_far h.hb (by omega) _, blk_far h.h2 (by omega) _, blk_far h.h4 (by omega) _, h.hk.setCell _ _ (.inr (by omega)), h.hlt⟩
theorem tok_end (T : TokS w0 b s o e1 e2 q t w) (err : Int) {R : Tok × Int × Nat} (hR : R = (t, err, q)) :
    TokPost R b s o e1 e2 w0 (.returned (.tuple #[.agg #[.int .i64 t.kind, .string ⟨t.text.toArray⟩, .int .i64 t.n, .int .i64 t.at_], .int .i64 err])) ((((w.setCell ⟨w0.heap.size, 0, none⟩ (.int .i64 t.kind)).setCell ⟨w0.heap.size, 1, none⟩ (.string ⟨t.text.toArray⟩)).setCell ⟨w0.heap.size, 2, none⟩ (.int .i64 t.n)).setCell ⟨w0.heap.size, 3, none⟩ (.int .i64 t.at_)) := by
  subst hR
  have h := T.hlt
  refine ⟨rfl, ?_, ?_⟩
  · exact blk_far (blk_far (blk_far (blk_far T.hb (by simp; omega) _) (by simp; omega) _) (by simp; omega) _) (by simp; omega) _
  · exact (((T.hk.setCell _ _ (.inr (by simp))).setCell _ _ (.inr (by simp))).setCell _ _ (.inr (by simp))).setCell _ _ (.inr (by simp))
end

theorem enters_small : ∀ (args : Array Value) (W : World), (callFunc 55 args).run Tryd.prog W = .ok (.enter 55 args) W := enters_of Tryd.func55 (by kernel_rfl) rfl
theorem enters_digit : ∀ (args : Array Value) (W : World), (callFunc 58 args).run Tryd.prog W = .ok (.enter 58 args) W := enters_of Tryd.func58 (by kernel_rfl) rfl
set_option maxHeartbeats 4000000 in
theorem token_word (b p : Nat) (s : ByteArray) (o e1 e2 : Value) (w : World) (hs : s.size ≤ 1000000) (hp : p ≤ s.size) (h0 : w.heap[b]? = some (.cells #[.string s, .int .i64 p, o, e1, e2] 77 (0, 0))) (hX : 97 ≤ peekL (s.data.toList.drop p) ∧ peekL (s.data.toList.drop p) ≤ 122) :
    Calls Tryd.prog 37 #[.pointer (some ⟨b, 0, none⟩)] w (TokPost (tokR s.data.toList p) b s o e1 e2 w) := by
  have c1 := blk_at h0 1 rfl
  have hlt := blk_lt h0
  have hpe : peekI s p = peekL (s.data.toList.drop p) := peekI_eq s p
  obtain ⟨c, hc⟩ : ∃ c, peekL (s.data.toList.drop p) = c := ⟨_, rfl⟩
  have HC := Lib.hid hc
  have hA : 97 ≤ c ∧ c ≤ 122 := by rw [← hc]; exact hX
  clear hX
  have HP := Lib.hid (hpe.trans hc)
  clear hpe hc
  have T1 : TokS w b s o e1 e2 p ⟨0, [], 0, p⟩ ((w.alloc (.cells #[.int .i64 0, .string ⟨#[]⟩, .int .i64 0, .int .i64 0] 37)).alloc (.cells #[.int .i64 0, .string ⟨#[]⟩, .int .i64 0, .int .i64 p] 37)) :=
    ⟨blk_alloc (blk_alloc h0 _) _, blk_alloc (blk_new _ _) _, by have := blk_new (w.alloc (.cells #[.int .i64 0, .string ⟨#[]⟩, .int .i64 0, .int .i64 0] 37)) (.cells #[.int .i64 0, .string ⟨#[]⟩, .int .i64 0, .int .i64 p] 37); simpa using this, ((Keeps.refl _ _).alloc _).alloc _, hlt⟩
  obtain ⟨R, hR⟩ : ∃ R, tokR s.data.toList p = R := ⟨_, rfl⟩
  rw [hR]
  have HR := Lib.hid hR
  clear hR
  go_enter Tryd.func37, Tryd.ntmps37
  go_wp2_with fail
  refine (peek_c b p s _ _ T1.hb rfl rfl).mono ?_
  rintro e w2 ⟨rfl, hk2⟩
  rw [HP.out]
  have T2 := T1.move hk2
  clear T1 hk2 c1 h0
  have d0 := blk_at T2.h2 0 rfl
  have d1 := blk_at T2.h2 1 rfl
  have d2 := blk_at T2.h2 2 rfl
  have d3 := blk_at T2.h2 3 rfl
  have g0 := blk_at T2.h4 0 rfl
  have g1 := blk_at T2.h4 1 rfl
  have g2 := blk_at T2.h4 2 rfl
  have g3 := blk_at T2.h4 3 rfl
  have f0 := blk_frozen T2.h2 0
  have f1 := blk_frozen T2.h2 1
  have f2 := blk_frozen T2.h2 2
  have f3 := blk_frozen T2.h2 3
  have k0 := blk_frozen T2.h4 0
  have k1 := blk_frozen T2.h4 1
  have k2 := blk_frozen T2.h4 2
  have k3 := blk_frozen T2.h4 3
  have r0 := blk_at T2.hb 0 rfl
  have r1 := blk_at T2.hb 1 rfl
  have rf := blk_frozen T2.hb 1
  · have hA1 := hA.1
    have hA2 := hA.2
    have HA := Lib.hid hA
    clear hA
    go_wp2_with fail
    refine (run_c 55 smallB enters_small (Lib.hid fun c W => (small_c c W).mono fun e w' h => ⟨h.1, h.2.symm⟩) b p 16 s o e1 e2 _ hs (by omega) hp (T2.kind_ 1).hb).mono ?_
    rintro e w3 ⟨hrun, hk3⟩
    by_cases hN : runN smallB (s.data.toList.drop p) ≤ 16
    · rw [if_pos hN] at hrun
      obtain ⟨rfl, hb3⟩ := hrun
      have T3 := (T2.kind_ 1).run hk3 _ hb3
      have HN := Lib.hid hN
      clear hk3 hb3 hN
      clear d0 d1 d2 d3 g0 g1 g2 g3 f0 f1 f2 f3 k0 k1 k2 k3 r0 r1 rf
      have d0 := blk_at T3.h2 0 rfl
      have d1 := blk_at T3.h2 1 rfl
      have d2 := blk_at T3.h2 2 rfl
      have d3 := blk_at T3.h2 3 rfl
      have g0 := blk_at T3.h4 0 rfl
      have g1 := blk_at T3.h4 1 rfl
      have g2 := blk_at T3.h4 2 rfl
      have g3 := blk_at T3.h4 3 rfl
      have f0 := blk_frozen T3.h2 0
      have f1 := blk_frozen T3.h2 1
      have f2 := blk_frozen T3.h2 2
      have f3 := blk_frozen T3.h2 3
      have k0 := blk_frozen T3.h4 0
      have k1 := blk_frozen T3.h4 1
      have k2 := blk_frozen T3.h4 2
      have k3 := blk_frozen T3.h4 3
      have r0 := blk_at T3.hb 0 rfl
      have r1 := blk_at T3.hb 1 rfl
      have rf := blk_frozen T3.hb 1
      go_wp2_with fail
      refine (peek_c b _ s _ _ (T3.text_ _).hb rfl rfl).mono ?_
      rintro e w4 ⟨rfl, hk4⟩
      rw [peekI_eq]
      have T4 := (T3.text_ ((s.data.toList.drop p).take (runN smallB (s.data.toList.drop p)))).move hk4
      by_cases h58 : (peekL (s.data.toList.drop (p + runN smallB (s.data.toList.drop p))) == 58) = true
      · have H58 := Lib.hid h58
        have hRR : R = tokFin s.data.toList ⟨2, (s.data.toList.drop p).take (runN smallB (s.data.toList.drop p)), 0, p⟩ (p + runN smallB (s.data.toList.drop p) + 1) := by
          rw [← HR.out]
          unfold tokR
          simp only [HC.out]
          rw [if_pos HA.out, if_pos HN.out, if_pos H58.out]
        have HRR := Lib.hid hRR
        clear hRR
        clear hk4 T3
        clear H58
        generalize peekL (s.data.toList.drop (p + runN smallB (s.data.toList.drop p))) = cy at h58 ⊢
        generalize hgl : (s.data.toList.drop p).take (runN smallB (s.data.toList.drop p)) = tx at T4 HRR ⊢
        generalize hgq : p + runN smallB (s.data.toList.drop p) = q at T4 HRR ⊢
        have hqb : q ≤ 1000100 := by have := runN_le smallB (s.data.toList.drop p); simp only [List.length_drop, Array.length_toList] at this; have h2 : s.data.size = s.size := rfl; omega
        clear hgl hgq HN
        clear d0 d1 d2 d3 g0 g1 g2 g3 f0 f1 f2 f3 k0 k1 k2 k3 r0 r1 rf
        have d0 := blk_at T4.h2 0 rfl
        have d1 := blk_at T4.h2 1 rfl
        have d2 := blk_at T4.h2 2 rfl
        have d3 := blk_at T4.h2 3 rfl
        have g0 := blk_at T4.h4 0 rfl
        have g1 := blk_at T4.h4 1 rfl
        have g2 := blk_at T4.h4 2 rfl
        have g3 := blk_at T4.h4 3 rfl
        have f0 := blk_frozen T4.h2 0
        have f1 := blk_frozen T4.h2 1
        have f2 := blk_frozen T4.h2 2
        have f3 := blk_frozen T4.h2 3
        have k0 := blk_frozen T4.h4 0
        have k1 := blk_frozen T4.h4 1
        have k2 := blk_frozen T4.h4 2
        have k3 := blk_frozen T4.h4 3
        have r0 := blk_at T4.hb 0 rfl
        have r1 := blk_at T4.hb 1 rfl
        have rf := blk_frozen T4.hb 1
        have hq1 : (q : Int) + 1 = ((q + 1 : Nat) : Int) := by omega
        have T5 := (T4.kind_ 2).adv (q + 1)
        rw [← hq1] at T5
        clear hq1
        go_wp2_with fail
        refine (peek_c b (q + 1) s _ _ T5.hb rfl rfl).mono ?_
        rintro e wz ⟨rfl, hkz⟩
        rw [peekI_eq]
        have TZ := T5.move hkz
        have HB := Lib.hid (show ∀ x, blankB (peekL (s.data.toList.drop (q + 1))) = x → R = (_, (if x then 0 else 6), q + 1) by intro x hx; rw [HRR.out, tokFin, hx])
        generalize peekL (s.data.toList.drop (q + 1)) = cz at HB ⊢
        clear d0 d1 d2 d3 g0 g1 g2 g3 f0 f1 f2 f3 k0 k1 k2 k3 r0 r1 rf
        have d0 := blk_at TZ.h2 0 rfl
        have d1 := blk_at TZ.h2 1 rfl
        have d2 := blk_at TZ.h2 2 rfl
        have d3 := blk_at TZ.h2 3 rfl
        have g0 := blk_at TZ.h4 0 rfl
        have g1 := blk_at TZ.h4 1 rfl
        have g2 := blk_at TZ.h4 2 rfl
        have g3 := blk_at TZ.h4 3 rfl
        have f0 := blk_frozen TZ.h2 0
        have f1 := blk_frozen TZ.h2 1
        have f2 := blk_frozen TZ.h2 2
        have f3 := blk_frozen TZ.h2 3
        have k0 := blk_frozen TZ.h4 0
        have k1 := blk_frozen TZ.h4 1
        have k2 := blk_frozen TZ.h4 2
        have k3 := blk_frozen TZ.h4 3
        have r0 := blk_at TZ.hb 0 rfl
        have r1 := blk_at TZ.hb 1 rfl
        have rf := blk_frozen TZ.hb 1
        by_cases z1 : cz = 32
        · have hb : blankB cz = true := by simp [blankB, z1]
          have y1 : (cz != 32) = false := by simp [z1]
          have HX := Lib.hid (HB.out _ hb)
          clear z1 hb
          go_wp2_with fail
          all_goals exact bodyPost_ret (by simp [results, Tryd.results37, go_sem, d0, d1, d2, d3]) rfl (tok_end TZ 0 HX.out)
        by_cases z2 : cz = 9
        · have hb : blankB cz = true := by simp [blankB, z2]
          have y1 : (cz != 32) = true := by simp [z1]
          have y2 : (cz != 9) = false := by simp [z2]
          have HX := Lib.hid (HB.out _ hb)
          clear z2 z1 hb
          go_wp2_with fail
          all_goals exact bodyPost_ret (by simp [results, Tryd.results37, go_sem, d0, d1, d2, d3]) rfl (tok_end TZ 0 HX.out)
        by_cases z3 : cz = 10
        · have hb : blankB cz = true := by simp [blankB, z3]
          have y1 : (cz != 32) = true := by simp [z1]
          have y2 : (cz != 9) = true := by simp [z2]
          have y3 : (cz != 10) = false := by simp [z3]
          have HX := Lib.hid (HB.out _ hb)
          clear z3 z1 z2 hb
          go_wp2_with fail
          all_goals exact bodyPost_ret (by simp [results, Tryd.results37, go_sem, d0, d1, d2, d3]) rfl (tok_end TZ 0 HX.out)
        have hb : blankB cz = false := by simp [blankB, z1, z2, z3]
        have y1 : (cz != 32) = true := by simp [z1]
        have y2 : (cz != 9) = true := by simp [z2]
        have y3 : (cz != 10) = true := by simp [z3]
        have HX := Lib.hid (HB.out _ hb)
        clear z1 z2 z3 hb
        go_wp2_with fail
        all_goals exact bodyPost_ret (by simp [results, Tryd.results37, go_sem, d0, d1, d2, d3]) rfl (tok_end TZ 6 HX.out)
      · have h58' := Bool.eq_false_iff.2 h58
        have H58 := Lib.hid h58'
        have hRR : R = tokFin s.data.toList ⟨1, (s.data.toList.drop p).take (runN smallB (s.data.toList.drop p)), 0, p⟩ (p + runN smallB (s.data.toList.drop p)) := by
          rw [← HR.out]
          unfold tokR
          simp only [HC.out]
          rw [if_pos HA.out, if_pos HN.out, if_neg (by rw [H58.out]; simp)]
        have HRR := Lib.hid hRR
        clear hRR
        clear hk4 T3
        clear H58 h58
        generalize peekL (s.data.toList.drop (p + runN smallB (s.data.toList.drop p))) = cy at h58' ⊢
        generalize hgl : (s.data.toList.drop p).take (runN smallB (s.data.toList.drop p)) = tx at T4 HRR ⊢
        generalize hgq : p + runN smallB (s.data.toList.drop p) = q at T4 HRR ⊢
        clear hgl hgq HN
        clear d0 d1 d2 d3 g0 g1 g2 g3 f0 f1 f2 f3 k0 k1 k2 k3 r0 r1 rf
        have d0 := blk_at T4.h2 0 rfl
        have d1 := blk_at T4.h2 1 rfl
        have d2 := blk_at T4.h2 2 rfl
        have d3 := blk_at T4.h2 3 rfl
        have g0 := blk_at T4.h4 0 rfl
        have g1 := blk_at T4.h4 1 rfl
        have g2 := blk_at T4.h4 2 rfl
        have g3 := blk_at T4.h4 3 rfl
        have f0 := blk_frozen T4.h2 0
        have f1 := blk_frozen T4.h2 1
        have f2 := blk_frozen T4.h2 2
        have f3 := blk_frozen T4.h2 3
        have k0 := blk_frozen T4.h4 0
        have k1 := blk_frozen T4.h4 1
        have k2 := blk_frozen T4.h4 2
        have k3 := blk_frozen T4.h4 3
        have r0 := blk_at T4.hb 0 rfl
        have r1 := blk_at T4.hb 1 rfl
        have rf := blk_frozen T4.hb 1
        go_wp2_with fail
        refine (peek_c b (q) s _ _ T4.hb rfl rfl).mono ?_
        rintro e wz ⟨rfl, hkz⟩
        rw [peekI_eq]
        have TZ := T4.move hkz
        have HB := Lib.hid (show ∀ x, blankB (peekL (s.data.toList.drop (q))) = x → R = (_, (if x then 0 else 6), q) by intro x hx; rw [HRR.out, tokFin, hx])
        generalize peekL (s.data.toList.drop (q)) = cz at HB ⊢
        clear d0 d1 d2 d3 g0 g1 g2 g3 f0 f1 f2 f3 k0 k1 k2 k3 r0 r1 rf
        have d0 := blk_at TZ.h2 0 rfl
        have d1 := blk_at TZ.h2 1 rfl
        have d2 := blk_at TZ.h2 2 rfl
        have d3 := blk_at TZ.h2 3 rfl
        have g0 := blk_at TZ.h4 0 rfl
        have g1 := blk_at TZ.h4 1 rfl
        have g2 := blk_at TZ.h4 2 rfl
        have g3 := blk_at TZ.h4 3 rfl
        have f0 := blk_frozen TZ.h2 0
        have f1 := blk_frozen TZ.h2 1
        have f2 := blk_frozen TZ.h2 2
        have f3 := blk_frozen TZ.h2 3
        have k0 := blk_frozen TZ.h4 0
        have k1 := blk_frozen TZ.h4 1
        have k2 := blk_frozen TZ.h4 2
        have k3 := blk_frozen TZ.h4 3
        have r0 := blk_at TZ.hb 0 rfl
        have r1 := blk_at TZ.hb 1 rfl
        have rf := blk_frozen TZ.hb 1
        by_cases z1 : cz = 32
        · have hb : blankB cz = true := by simp [blankB, z1]
          have y1 : (cz != 32) = false := by simp [z1]
          have HX := Lib.hid (HB.out _ hb)
          clear z1 hb
          go_wp2_with fail
          all_goals exact bodyPost_ret (by simp [results, Tryd.results37, go_sem, d0, d1, d2, d3]) rfl (tok_end TZ 0 HX.out)
        by_cases z2 : cz = 9
        · have hb : blankB cz = true := by simp [blankB, z2]
          have y1 : (cz != 32) = true := by simp [z1]
          have y2 : (cz != 9) = false := by simp [z2]
          have HX := Lib.hid (HB.out _ hb)
          clear z2 z1 hb
          go_wp2_with fail
          all_goals exact bodyPost_ret (by simp [results, Tryd.results37, go_sem, d0, d1, d2, d3]) rfl (tok_end TZ 0 HX.out)
        by_cases z3 : cz = 10
        · have hb : blankB cz = true := by simp [blankB, z3]
          have y1 : (cz != 32) = true := by simp [z1]
          have y2 : (cz != 9) = true := by simp [z2]
          have y3 : (cz != 10) = false := by simp [z3]
          have HX := Lib.hid (HB.out _ hb)
          clear z3 z1 z2 hb
          go_wp2_with fail
          all_goals exact bodyPost_ret (by simp [results, Tryd.results37, go_sem, d0, d1, d2, d3]) rfl (tok_end TZ 0 HX.out)
        have hb : blankB cz = false := by simp [blankB, z1, z2, z3]
        have y1 : (cz != 32) = true := by simp [z1]
        have y2 : (cz != 9) = true := by simp [z2]
        have y3 : (cz != 10) = true := by simp [z3]
        have HX := Lib.hid (HB.out _ hb)
        clear z1 z2 z3 hb
        go_wp2_with fail
        all_goals exact bodyPost_ret (by simp [results, Tryd.results37, go_sem, d0, d1, d2, d3]) rfl (tok_end TZ 6 HX.out)
    · rw [if_neg hN] at hrun
      obtain ⟨rfl, hb3⟩ := hrun
      have T3 := (T2.kind_ 1).run hk3 _ hb3
      have HN := Lib.hid hN
      have hRR : R = (⟨1, [], 0, p⟩, 3, p + 16) := by
        rw [← HR.out]
        unfold tokR
        simp only [HC.out]
        rw [if_pos HA.out, if_neg HN.out]
      have HRR := Lib.hid hRR
      clear hRR
      clear hk3 hb3 hN
      clear d0 d1 d2 d3 g0 g1 g2 g3 f0 f1 f2 f3 k0 k1 k2 k3 r0 r1 rf
      have d0 := blk_at T3.h2 0 rfl
      have d1 := blk_at T3.h2 1 rfl
      have d2 := blk_at T3.h2 2 rfl
      have d3 := blk_at T3.h2 3 rfl
      have g0 := blk_at T3.h4 0 rfl
      have g1 := blk_at T3.h4 1 rfl
      have g2 := blk_at T3.h4 2 rfl
      have g3 := blk_at T3.h4 3 rfl
      have f0 := blk_frozen T3.h2 0
      have f1 := blk_frozen T3.h2 1
      have f2 := blk_frozen T3.h2 2
      have f3 := blk_frozen T3.h2 3
      have k0 := blk_frozen T3.h4 0
      have k1 := blk_frozen T3.h4 1
      have k2 := blk_frozen T3.h4 2
      have k3 := blk_frozen T3.h4 3
      have r0 := blk_at T3.hb 0 rfl
      have r1 := blk_at T3.hb 1 rfl
      have rf := blk_frozen T3.hb 1
      go_wp2_with fail
      all_goals exact bodyPost_ret (by simp [results, Tryd.results37, go_sem, d0, d1, d2, d3]) rfl (tok_end (T3.text_ []) 3 HRR.out)

set_option maxHeartbeats 4000000 in
theorem token_zero (b p : Nat) (s : ByteArray) (o e1 e2 : Value) (w : World) (hs : s.size ≤ 1000000) (hp : p ≤ s.size) (h0 : w.heap[b]? = some (.cells #[.string s, .int .i64 p, o, e1, e2] 77 (0, 0))) (hX : peekL (s.data.toList.drop p) = 48) :
    Calls Tryd.prog 37 #[.pointer (some ⟨b, 0, none⟩)] w (TokPost (tokR s.data.toList p) b s o e1 e2 w) := by
  have c1 := blk_at h0 1 rfl
  have hlt := blk_lt h0
  have hpe : peekI s p = peekL (s.data.toList.drop p) := peekI_eq s p
  obtain ⟨c, hc⟩ : ∃ c, peekL (s.data.toList.drop p) = c := ⟨_, rfl⟩
  have HC := Lib.hid hc
  have hB : c = 48 := by rw [← hc]; exact hX
  clear hX
  have HP := Lib.hid (hpe.trans hc)
  clear hpe hc
  have T1 : TokS w b s o e1 e2 p ⟨0, [], 0, p⟩ ((w.alloc (.cells #[.int .i64 0, .string ⟨#[]⟩, .int .i64 0, .int .i64 0] 37)).alloc (.cells #[.int .i64 0, .string ⟨#[]⟩, .int .i64 0, .int .i64 p] 37)) :=
    ⟨blk_alloc (blk_alloc h0 _) _, blk_alloc (blk_new _ _) _, by have := blk_new (w.alloc (.cells #[.int .i64 0, .string ⟨#[]⟩, .int .i64 0, .int .i64 0] 37)) (.cells #[.int .i64 0, .string ⟨#[]⟩, .int .i64 0, .int .i64 p] 37); simpa using this, ((Keeps.refl _ _).alloc _).alloc _, hlt⟩
  obtain ⟨R, hR⟩ : ∃ R, tokR s.data.toList p = R := ⟨_, rfl⟩
  rw [hR]
  have HR := Lib.hid hR
  clear hR
  go_enter Tryd.func37, Tryd.ntmps37
  go_wp2_with fail
  refine (peek_c b p s _ _ T1.hb rfl rfl).mono ?_
  rintro e w2 ⟨rfl, hk2⟩
  rw [HP.out]
  have T2 := T1.move hk2
  clear T1 hk2 c1 h0
  have d0 := blk_at T2.h2 0 rfl
  have d1 := blk_at T2.h2 1 rfl
  have d2 := blk_at T2.h2 2 rfl
  have d3 := blk_at T2.h2 3 rfl
  have g0 := blk_at T2.h4 0 rfl
  have g1 := blk_at T2.h4 1 rfl
  have g2 := blk_at T2.h4 2 rfl
  have g3 := blk_at T2.h4 3 rfl
  have f0 := blk_frozen T2.h2 0
  have f1 := blk_frozen T2.h2 1
  have f2 := blk_frozen T2.h2 2
  have f3 := blk_frozen T2.h2 3
  have k0 := blk_frozen T2.h4 0
  have k1 := blk_frozen T2.h4 1
  have k2 := blk_frozen T2.h4 2
  have k3 := blk_frozen T2.h4 3
  have r0 := blk_at T2.hb 0 rfl
  have r1 := blk_at T2.hb 1 rfl
  have rf := blk_frozen T2.hb 1
  · have hBb : (c == 48) = true := by simp [hB]
    have hA' : ¬ 97 ≤ c := by omega
    have HB0 := Lib.hid hBb
    clear hB
    have hRR : R = tokFin s.data.toList ⟨3, [], 0, p⟩ (p + 1) := by
      rw [← HR.out]
      unfold tokR
      simp only [HC.out]
      rw [if_neg (by omega), if_pos HB0.out]
    have HRR := Lib.hid hRR
    clear hRR
    have hq1 : (p : Int) + 1 = ((p + 1 : Nat) : Int) := by omega
    have T5 := (T2.kind_ 3).adv (p + 1)
    rw [← hq1] at T5
    clear hq1
    go_wp2_with fail
    refine (peek_c b (p + 1) s _ _ T5.hb rfl rfl).mono ?_
    rintro e wz ⟨rfl, hkz⟩
    rw [peekI_eq]
    have TZ := T5.move hkz
    have HB := Lib.hid (show ∀ x, blankB (peekL (s.data.toList.drop (p + 1))) = x → R = (_, (if x then 0 else 6), p + 1) by intro x hx; rw [HRR.out, tokFin, hx])
    generalize peekL (s.data.toList.drop (p + 1)) = cz at HB ⊢
    clear d0 d1 d2 d3 g0 g1 g2 g3 f0 f1 f2 f3 k0 k1 k2 k3 r0 r1 rf
    have d0 := blk_at TZ.h2 0 rfl
    have d1 := blk_at TZ.h2 1 rfl
    have d2 := blk_at TZ.h2 2 rfl
    have d3 := blk_at TZ.h2 3 rfl
    have g0 := blk_at TZ.h4 0 rfl
    have g1 := blk_at TZ.h4 1 rfl
    have g2 := blk_at TZ.h4 2 rfl
    have g3 := blk_at TZ.h4 3 rfl
    have f0 := blk_frozen TZ.h2 0
    have f1 := blk_frozen TZ.h2 1
    have f2 := blk_frozen TZ.h2 2
    have f3 := blk_frozen TZ.h2 3
    have k0 := blk_frozen TZ.h4 0
    have k1 := blk_frozen TZ.h4 1
    have k2 := blk_frozen TZ.h4 2
    have k3 := blk_frozen TZ.h4 3
    have r0 := blk_at TZ.hb 0 rfl
    have r1 := blk_at TZ.hb 1 rfl
    have rf := blk_frozen TZ.hb 1
    by_cases z1 : cz = 32
    · have hb : blankB cz = true := by simp [blankB, z1]
      have y1 : (cz != 32) = false := by simp [z1]
      have HX := Lib.hid (HB.out _ hb)
      clear z1 hb
      go_wp2_with fail
      all_goals exact bodyPost_ret (by simp [results, Tryd.results37, go_sem, d0, d1, d2, d3]) rfl (tok_end TZ 0 HX.out)
    by_cases z2 : cz = 9
    · have hb : blankB cz = true := by simp [blankB, z2]
      have y1 : (cz != 32) = true := by simp [z1]
      have y2 : (cz != 9) = false := by simp [z2]
      have HX := Lib.hid (HB.out _ hb)
      clear z2 z1 hb
      go_wp2_with fail
      all_goals exact bodyPost_ret (by simp [results, Tryd.results37, go_sem, d0, d1, d2, d3]) rfl (tok_end TZ 0 HX.out)
    by_cases z3 : cz = 10
    · have hb : blankB cz = true := by simp [blankB, z3]
      have y1 : (cz != 32) = true := by simp [z1]
      have y2 : (cz != 9) = true := by simp [z2]
      have y3 : (cz != 10) = false := by simp [z3]
      have HX := Lib.hid (HB.out _ hb)
      clear z3 z1 z2 hb
      go_wp2_with fail
      all_goals exact bodyPost_ret (by simp [results, Tryd.results37, go_sem, d0, d1, d2, d3]) rfl (tok_end TZ 0 HX.out)
    have hb : blankB cz = false := by simp [blankB, z1, z2, z3]
    have y1 : (cz != 32) = true := by simp [z1]
    have y2 : (cz != 9) = true := by simp [z2]
    have y3 : (cz != 10) = true := by simp [z3]
    have HX := Lib.hid (HB.out _ hb)
    clear z1 z2 z3 hb
    go_wp2_with fail
    all_goals exact bodyPost_ret (by simp [results, Tryd.results37, go_sem, d0, d1, d2, d3]) rfl (tok_end TZ 6 HX.out)

set_option maxHeartbeats 4000000 in
theorem token_num (b p : Nat) (s : ByteArray) (o e1 e2 : Value) (w : World) (hs : s.size ≤ 1000000) (hp : p ≤ s.size) (h0 : w.heap[b]? = some (.cells #[.string s, .int .i64 p, o, e1, e2] 77 (0, 0))) (hX : 49 ≤ peekL (s.data.toList.drop p) ∧ peekL (s.data.toList.drop p) ≤ 57) :
    Calls Tryd.prog 37 #[.pointer (some ⟨b, 0, none⟩)] w (TokPost (tokR s.data.toList p) b s o e1 e2 w) := by
  have c1 := blk_at h0 1 rfl
  have hlt := blk_lt h0
  have hpe : peekI s p = peekL (s.data.toList.drop p) := peekI_eq s p
  obtain ⟨c, hc⟩ : ∃ c, peekL (s.data.toList.drop p) = c := ⟨_, rfl⟩
  have HC := Lib.hid hc
  have hC : 49 ≤ c ∧ c ≤ 57 := by rw [← hc]; exact hX
  clear hX
  have HP := Lib.hid (hpe.trans hc)
  clear hpe hc
  have T1 : TokS w b s o e1 e2 p ⟨0, [], 0, p⟩ ((w.alloc (.cells #[.int .i64 0, .string ⟨#[]⟩, .int .i64 0, .int .i64 0] 37)).alloc (.cells #[.int .i64 0, .string ⟨#[]⟩, .int .i64 0, .int .i64 p] 37)) :=
    ⟨blk_alloc (blk_alloc h0 _) _, blk_alloc (blk_new _ _) _, by have := blk_new (w.alloc (.cells #[.int .i64 0, .string ⟨#[]⟩, .int .i64 0, .int .i64 0] 37)) (.cells #[.int .i64 0, .string ⟨#[]⟩, .int .i64 0, .int .i64 p] 37); simpa using this, ((Keeps.refl _ _).alloc _).alloc _, hlt⟩
  obtain ⟨R, hR⟩ : ∃ R, tokR s.data.toList p = R := ⟨_, rfl⟩
  rw [hR]
  have HR := Lib.hid hR
  clear hR
  go_enter Tryd.func37, Tryd.ntmps37
  go_wp2_with fail
  refine (peek_c b p s _ _ T1.hb rfl rfl).mono ?_
  rintro e w2 ⟨rfl, hk2⟩
  rw [HP.out]
  have T2 := T1.move hk2
  clear T1 hk2 c1 h0
  have d0 := blk_at T2.h2 0 rfl
  have d1 := blk_at T2.h2 1 rfl
  have d2 := blk_at T2.h2 2 rfl
  have d3 := blk_at T2.h2 3 rfl
  have g0 := blk_at T2.h4 0 rfl
  have g1 := blk_at T2.h4 1 rfl
  have g2 := blk_at T2.h4 2 rfl
  have g3 := blk_at T2.h4 3 rfl
  have f0 := blk_frozen T2.h2 0
  have f1 := blk_frozen T2.h2 1
  have f2 := blk_frozen T2.h2 2
  have f3 := blk_frozen T2.h2 3
  have k0 := blk_frozen T2.h4 0
  have k1 := blk_frozen T2.h4 1
  have k2 := blk_frozen T2.h4 2
  have k3 := blk_frozen T2.h4 3
  have r0 := blk_at T2.hb 0 rfl
  have r1 := blk_at T2.hb 1 rfl
  have rf := blk_frozen T2.hb 1
  · have hBb : (c == 48) = false := by simp; omega
    have hA' : ¬ 97 ≤ c := by omega
    have hC1 := hC.1
    have hC2 := hC.2
    have HC0 := Lib.hid hC
    clear hC
    go_wp2_with fail
    refine (run_c 58 digitB enters_digit (Lib.hid fun c W => (digit_c c W).mono fun e w' h => ⟨h.1, h.2.symm⟩) b p 4 s o e1 e2 _ hs (by omega) hp (T2.kind_ 3).hb).mono ?_
    rintro e w3 ⟨hrun, hk3⟩
    by_cases hN : runN digitB (s.data.toList.drop p) ≤ 4
    · rw [if_pos hN] at hrun
      obtain ⟨rfl, hb3⟩ := hrun
      have T3 := (T2.kind_ 3).run hk3 _ hb3
      have HN := Lib.hid hN
      clear hk3 hb3 hN
      have hRR : R = tokFin s.data.toList ⟨3, [], numL ((s.data.toList.drop p).take (runN digitB (s.data.toList.drop p))), p⟩ (p + runN digitB (s.data.toList.drop p)) := by
        rw [← HR.out]
        unfold tokR
        simp only [HC.out]
        rw [if_neg (by omega), if_neg (by rw [hBb]; simp), if_pos HC0.out, if_pos HN.out]
      have HRR := Lib.hid hRR
      clear hRR
      have htl : ((s.data.toList.drop p).take (runN digitB (s.data.toList.drop p))).length ≤ 4 := by have := HN.out; simp; omega
      have htd : ∀ x ∈ (s.data.toList.drop p).take (runN digitB (s.data.toList.drop p)), 48 ≤ x.toNat ∧ x.toNat ≤ 57 := run_digits _
      have HTD := Lib.hid htd
      clear htd
      generalize hgl : (s.data.toList.drop p).take (runN digitB (s.data.toList.drop p)) = tx at T3 HRR HTD htl ⊢
      generalize hgq : p + runN digitB (s.data.toList.drop p) = q at T3 HRR ⊢
      clear hgl hgq HN
      clear d0 d1 d2 d3 g0 g1 g2 g3 f0 f1 f2 f3 k0 k1 k2 k3 r0 r1 rf
      have d0 := blk_at T3.h2 0 rfl
      have d1 := blk_at T3.h2 1 rfl
      have d2 := blk_at T3.h2 2 rfl
      have d3 := blk_at T3.h2 3 rfl
      have g0 := blk_at T3.h4 0 rfl
      have g1 := blk_at T3.h4 1 rfl
      have g2 := blk_at T3.h4 2 rfl
      have g3 := blk_at T3.h4 3 rfl
      have f0 := blk_frozen T3.h2 0
      have f1 := blk_frozen T3.h2 1
      have f2 := blk_frozen T3.h2 2
      have f3 := blk_frozen T3.h2 3
      have k0 := blk_frozen T3.h4 0
      have k1 := blk_frozen T3.h4 1
      have k2 := blk_frozen T3.h4 2
      have k3 := blk_frozen T3.h4 3
      have r0 := blk_at T3.hb 0 rfl
      have r1 := blk_at T3.hb 1 rfl
      have rf := blk_frozen T3.hb 1
      go_wp2_with fail
      go_loopw [78] (fun i wr => ∃ k : Nat, k ≤ tx.length ∧ i = .int .i64 k ∧ TokS w b s o e1 e2 q ⟨3, [], numL (tx.take k), p⟩ wr) (fun i _ => tx.length - (intOf i).toNat)
      case atStart => exact ⟨0, Nat.zero_le _, rfl, T3⟩
      case round =>
        obtain ⟨k, hk, rfl, TK⟩ := hrel
        clear T3
        clear d0 d1 d2 d3 g0 g1 g2 g3 f0 f1 f2 f3 k0 k1 k2 k3 r0 r1 rf
        have d0 := blk_at TK.h2 0 rfl
        have d1 := blk_at TK.h2 1 rfl
        have d2 := blk_at TK.h2 2 rfl
        have d3 := blk_at TK.h2 3 rfl
        have g0 := blk_at TK.h4 0 rfl
        have g1 := blk_at TK.h4 1 rfl
        have g2 := blk_at TK.h4 2 rfl
        have g3 := blk_at TK.h4 3 rfl
        have f0 := blk_frozen TK.h2 0
        have f1 := blk_frozen TK.h2 1
        have f2 := blk_frozen TK.h2 2
        have f3 := blk_frozen TK.h2 3
        have k0 := blk_frozen TK.h4 0
        have k1 := blk_frozen TK.h4 1
        have k2 := blk_frozen TK.h4 2
        have k3 := blk_frozen TK.h4 3
        have r0 := blk_at TK.hb 0 rfl
        have r1 := blk_at TK.hb 1 rfl
        have rf := blk_frozen TK.hb 1
        have hsz : (⟨tx.toArray⟩ : ByteArray).size = tx.length := mk_size tx
        by_cases hlt2 : k < tx.length
        · have hnb := num_bound (tx.take k) (fun x hx => HTD.out x (List.mem_of_mem_take hx))
          have hkl : (tx.take k).length ≤ 4 := by simp; omega
          have hdig := HTD.out tx[k] (List.getElem_mem _)
          have HNS := Lib.hid (num_snoc tx k hlt2)
          have hnb2 : 0 ≤ numL (tx.take k) ∧ numL (tx.take k) < 10000 := num_small _ hnb hkl
          generalize numL (tx.take k) = nn at TK HNS hnb2 g0 g1 g2 g3
          clear hnb
          have hkb : k < (⟨tx.toArray⟩ : ByteArray).size := by rw [hsz]; exact hlt2
          have hx1 : 48 ≤ (((⟨tx.toArray⟩ : ByteArray)[k]'hkb).toNat : Int) ∧ (((⟨tx.toArray⟩ : ByteArray)[k]'hkb).toNat : Int) ≤ 57 := by show 48 ≤ (tx[k].toNat : Int) ∧ (tx[k].toNat : Int) ≤ 57; omega
          clear hdig
          have hw1 : IntKind.u8.wrap ((((⟨tx.toArray⟩ : ByteArray)[k]'hkb).toNat : Int) - 48) = (((⟨tx.toArray⟩ : ByteArray)[k]'hkb).toNat : Int) - 48 := by rw [IntKind.wrap_u8']; omega
          have hw2 : IntKind.i64.wrap (10 * nn) = 10 * nn := IntWalk.i64_in _ (by omega)
          have hw3 : IntKind.i64.wrap ((((⟨tx.toArray⟩ : ByteArray)[k]'hkb).toNat : Int) - 48) = (((⟨tx.toArray⟩ : ByteArray)[k]'hkb).toNat : Int) - 48 := IntWalk.i64_in _ (by omega)
          have hw4 : IntKind.i64.wrap (10 * nn + ((((⟨tx.toArray⟩ : ByteArray)[k]'hkb).toNat : Int) - 48)) = 10 * nn + ((((⟨tx.toArray⟩ : ByteArray)[k]'hkb).toNat : Int) - 48) := IntWalk.i64_in _ (by omega)
          go_wp2
          go_still_tail 10, (by kernel_rfl)
          change wpList _ _ _ _ _ wr.drew
          clear hw1 hw2 hw3 hw4
          go_wp2
          go_roundw
          case rel => exact ⟨k + 1, by omega, by go_num, by rw [HNS.out]; exact (TK.num_ (10 * nn + ((tx[k].toNat : Int) - 48))).move (Keeps.drew (Keeps.refl noB _))⟩
          case measure => simp [intOf]; omega
        · have hkk : tx.take k = tx := List.take_of_length_le (by omega)
          rw [hkk] at TK
          clear hkk
          clear g2
          have g2 := blk_at TK.h4 2 rfl
          go_wp2_with fail
          refine (peek_c b (q) s _ _ TK.hb rfl rfl).mono ?_
          rintro e wz ⟨rfl, hkz⟩
          rw [peekI_eq]
          have TZ := TK.move hkz
          have HB := Lib.hid (show ∀ x, blankB (peekL (s.data.toList.drop (q))) = x → R = (_, (if x then 0 else 6), q) by intro x hx; rw [HRR.out, tokFin, hx])
          generalize peekL (s.data.toList.drop (q)) = cz at HB ⊢
          clear d0 d1 d2 d3 g0 g1 g2 g3 f0 f1 f2 f3 k0 k1 k2 k3 r0 r1 rf
          have d0 := blk_at TZ.h2 0 rfl
          have d1 := blk_at TZ.h2 1 rfl
          have d2 := blk_at TZ.h2 2 rfl
          have d3 := blk_at TZ.h2 3 rfl
          have g0 := blk_at TZ.h4 0 rfl
          have g1 := blk_at TZ.h4 1 rfl
          have g2 := blk_at TZ.h4 2 rfl
          have g3 := blk_at TZ.h4 3 rfl
          have f0 := blk_frozen TZ.h2 0
          have f1 := blk_frozen TZ.h2 1
          have f2 := blk_frozen TZ.h2 2
          have f3 := blk_frozen TZ.h2 3
          have k0 := blk_frozen TZ.h4 0
          have k1 := blk_frozen TZ.h4 1
          have k2 := blk_frozen TZ.h4 2
          have k3 := blk_frozen TZ.h4 3
          have r0 := blk_at TZ.hb 0 rfl
          have r1 := blk_at TZ.hb 1 rfl
          have rf := blk_frozen TZ.hb 1
          by_cases z1 : cz = 32
          · have hb : blankB cz = true := by simp [blankB, z1]
            have y1 : (cz != 32) = false := by simp [z1]
            have HX := Lib.hid (HB.out _ hb)
            clear z1 hb
            go_wp2_with fail
            all_goals exact bodyPost_ret (by simp [results, Tryd.results37, go_sem, d0, d1, d2, d3]) rfl (tok_end TZ 0 HX.out)
          by_cases z2 : cz = 9
          · have hb : blankB cz = true := by simp [blankB, z2]
            have y1 : (cz != 32) = true := by simp [z1]
            have y2 : (cz != 9) = false := by simp [z2]
            have HX := Lib.hid (HB.out _ hb)
            clear z2 z1 hb
            go_wp2_with fail
            all_goals exact bodyPost_ret (by simp [results, Tryd.results37, go_sem, d0, d1, d2, d3]) rfl (tok_end TZ 0 HX.out)
          by_cases z3 : cz = 10
          · have hb : blankB cz = true := by simp [blankB, z3]
            have y1 : (cz != 32) = true := by simp [z1]
            have y2 : (cz != 9) = true := by simp [z2]
            have y3 : (cz != 10) = false := by simp [z3]
            have HX := Lib.hid (HB.out _ hb)
            clear z3 z1 z2 hb
            go_wp2_with fail
            all_goals exact bodyPost_ret (by simp [results, Tryd.results37, go_sem, d0, d1, d2, d3]) rfl (tok_end TZ 0 HX.out)
          have hb : blankB cz = false := by simp [blankB, z1, z2, z3]
          have y1 : (cz != 32) = true := by simp [z1]
          have y2 : (cz != 9) = true := by simp [z2]
          have y3 : (cz != 10) = true := by simp [z3]
          have HX := Lib.hid (HB.out _ hb)
          clear z1 z2 z3 hb
          go_wp2_with fail
          all_goals exact bodyPost_ret (by simp [results, Tryd.results37, go_sem, d0, d1, d2, d3]) rfl (tok_end TZ 6 HX.out)
    · rw [if_neg hN] at hrun
      obtain ⟨rfl, hb3⟩ := hrun
      have T3 := (T2.kind_ 3).run hk3 _ hb3
      have HN := Lib.hid hN
      have hRR : R = (⟨3, [], 0, p⟩, 3, p + 4) := by
        rw [← HR.out]
        unfold tokR
        simp only [HC.out]
        rw [if_neg (by omega), if_neg (by rw [hBb]; simp), if_pos HC0.out, if_neg HN.out]
      have HRR := Lib.hid hRR
      clear hRR
      clear hk3 hb3 hN
      clear d0 d1 d2 d3 g0 g1 g2 g3 f0 f1 f2 f3 k0 k1 k2 k3 r0 r1 rf
      have d0 := blk_at T3.h2 0 rfl
      have d1 := blk_at T3.h2 1 rfl
      have d2 := blk_at T3.h2 2 rfl
      have d3 := blk_at T3.h2 3 rfl
      have g0 := blk_at T3.h4 0 rfl
      have g1 := blk_at T3.h4 1 rfl
      have g2 := blk_at T3.h4 2 rfl
      have g3 := blk_at T3.h4 3 rfl
      have f0 := blk_frozen T3.h2 0
      have f1 := blk_frozen T3.h2 1
      have f2 := blk_frozen T3.h2 2
      have f3 := blk_frozen T3.h2 3
      have k0 := blk_frozen T3.h4 0
      have k1 := blk_frozen T3.h4 1
      have k2 := blk_frozen T3.h4 2
      have k3 := blk_frozen T3.h4 3
      have r0 := blk_at T3.hb 0 rfl
      have r1 := blk_at T3.hb 1 rfl
      have rf := blk_frozen T3.hb 1
      go_wp2_with fail
      all_goals exact bodyPost_ret (by simp [results, Tryd.results37, go_sem, d0, d1, d2, d3]) rfl (tok_end T3 3 HRR.out)

set_option maxHeartbeats 4000000 in
theorem token_text (b p : Nat) (s : ByteArray) (o e1 e2 : Value) (w : World) (hs : s.size ≤ 1000000) (hp : p ≤ s.size) (h0 : w.heap[b]? = some (.cells #[.string s, .int .i64 p, o, e1, e2] 77 (0, 0))) (hX : peekL (s.data.toList.drop p) = 34) :
    Calls Tryd.prog 37 #[.pointer (some ⟨b, 0, none⟩)] w (TokPost (tokR s.data.toList p) b s o e1 e2 w) := by
  have c1 := blk_at h0 1 rfl
  have hlt := blk_lt h0
  have hpe : peekI s p = peekL (s.data.toList.drop p) := peekI_eq s p
  obtain ⟨c, hc⟩ : ∃ c, peekL (s.data.toList.drop p) = c := ⟨_, rfl⟩
  have HC := Lib.hid hc
  have hD : c = 34 := by rw [← hc]; exact hX
  clear hX
  have HP := Lib.hid (hpe.trans hc)
  clear hpe hc
  have T1 : TokS w b s o e1 e2 p ⟨0, [], 0, p⟩ ((w.alloc (.cells #[.int .i64 0, .string ⟨#[]⟩, .int .i64 0, .int .i64 0] 37)).alloc (.cells #[.int .i64 0, .string ⟨#[]⟩, .int .i64 0, .int .i64 p] 37)) :=
    ⟨blk_alloc (blk_alloc h0 _) _, blk_alloc (blk_new _ _) _, by have := blk_new (w.alloc (.cells #[.int .i64 0, .string ⟨#[]⟩, .int .i64 0, .int .i64 0] 37)) (.cells #[.int .i64 0, .string ⟨#[]⟩, .int .i64 0, .int .i64 p] 37); simpa using this, ((Keeps.refl _ _).alloc _).alloc _, hlt⟩
  obtain ⟨R, hR⟩ : ∃ R, tokR s.data.toList p = R := ⟨_, rfl⟩
  rw [hR]
  have HR := Lib.hid hR
  clear hR
  go_enter Tryd.func37, Tryd.ntmps37
  go_wp2_with fail
  refine (peek_c b p s _ _ T1.hb rfl rfl).mono ?_
  rintro e w2 ⟨rfl, hk2⟩
  rw [HP.out]
  have T2 := T1.move hk2
  clear T1 hk2 c1 h0
  have d0 := blk_at T2.h2 0 rfl
  have d1 := blk_at T2.h2 1 rfl
  have d2 := blk_at T2.h2 2 rfl
  have d3 := blk_at T2.h2 3 rfl
  have g0 := blk_at T2.h4 0 rfl
  have g1 := blk_at T2.h4 1 rfl
  have g2 := blk_at T2.h4 2 rfl
  have g3 := blk_at T2.h4 3 rfl
  have f0 := blk_frozen T2.h2 0
  have f1 := blk_frozen T2.h2 1
  have f2 := blk_frozen T2.h2 2
  have f3 := blk_frozen T2.h2 3
  have k0 := blk_frozen T2.h4 0
  have k1 := blk_frozen T2.h4 1
  have k2 := blk_frozen T2.h4 2
  have k3 := blk_frozen T2.h4 3
  have r0 := blk_at T2.hb 0 rfl
  have r1 := blk_at T2.hb 1 rfl
  have rf := blk_frozen T2.hb 1
  · have hDb : (c == 34) = true := by simp [hD]
    have hBb : (c == 48) = false := by simp; omega
    have hA' : ¬ 97 ≤ c := by omega
    have hC' : ¬ 49 ≤ c := by omega
    have HD0 := Lib.hid hDb
    clear hD
    have hes : (s.extract p s.size).size ≤ 1000000 := by rw [ByteArray.size_extract]; omega
    have hp0 : 0 ≤ (p : Int) ∧ (p : Int) ≤ (s.size : Int) := by omega
    obtain ⟨Q, hQ⟩ : ∃ Q, quotedR (s.extract p s.size).data.toList 64 = Q := ⟨_, rfl⟩
    have hql := quotedR_le (s.extract p s.size).data.toList 64
    rw [hQ] at hql
    have hel : (s.extract p s.size).data.toList.length ≤ 1000000 := by rw [str_len]; exact hes
    have HQ := Lib.hid (show quotedR (s.data.toList.drop p) 64 = Q by rw [← hQ, ext_drop])
    have HQ2 := Lib.hid hQ
    clear hQ
    go_wp2_with fail
    have hbl2 : b < w2.heap.size := blk_lt T2.hb
    have hne1 : ¬ w2.heap.size = b := by omega
    have hne2 : ¬ b = w2.heap.size := by omega
    have ra0 : ∀ o, (w2.alloc o).cell? ⟨b, 0, none⟩ = some (.string s) := fun o => (World.cell?_alloc_lt w2 o ⟨b, 0, none⟩ hbl2).trans r0
    have ra1 : ∀ o, (w2.alloc o).cell? ⟨b, 1, none⟩ = some (.int .i64 p) := fun o => (World.cell?_alloc_lt w2 o ⟨b, 1, none⟩ hbl2).trans r1
    go_region_held3 (fun W => W.cell? ⟨b, 0, none⟩ = some (.string s) ∧ W.cell? ⟨b, 1, none⟩ = some (.int .i64 p)) (go_keep) ((go_at_call 59; refine (Quoted_c _ _ _ hes (by decide) (by decide)).mono ?_; rintro e w5 ⟨rfl, hk5⟩; rw [HQ2.out]; simp only [quotedV]; have q0 := hk5.cell (a := ⟨b, 0, none⟩) (v := .string s) (by simp [r0, ra0]) (fun h => h); have q1 := hk5.cell (a := ⟨b, 1, none⟩) (v := .int .i64 p) (by simp [r1, ra1]) (fun h => h); have hk5s := hk5.size; (try simp only [World.size_alloc, World.size_drew] at hk5s); have hne3 : ¬ w5.heap.size = b := (by omega); have hne4 : ¬ b = w5.heap.size := (by omega); (try have qo := hk5.obj (k := w2.heap.size) (o := .cells #[.int .i64 0, .int .i64 0] 27 (0, 0)) (blk_new w2 _) (fun h => h)); (try have qc0 := blk_at qo 0 rfl); (try have qc1 := blk_at qo 1 rfl); (try have qf0 := blk_frozen qo 0); (try have qf1 := blk_frozen qo 1)))
    · have T6 := (((T2.move ((Keeps.refl noB w2).drew)).move hk5).move ((Keeps.refl noB w5).alloc (.cells #[.int .i64 Q.2.2.1, .int .i64 Q.2.2.2] 27)))
      have SP := blk_new w5 (.cells #[.int .i64 Q.2.2.1, .int .i64 Q.2.2.2] 27)
      have hxx : w.heap.size + 1 < w5.heap.size := by have := blk_lt T2.h4; omega
      clear q0 q1 hne3 hne4
      generalize (w5.alloc (Obj.cells #[Value.int IntKind.i64 Q.2.2.1, Value.int IntKind.i64 Q.2.2.2] 27)) = w6 at T6 SP ⊢
      generalize w5.heap.size = x at SP hxx ⊢
      have sc0 := blk_at SP 0 rfl
      have sc1 := blk_at SP 1 rfl
      have hx1 : ¬ x = b := by have := T6.hlt; omega
      have hx2 : ¬ b = x := by have := T6.hlt; omega
      have hx3 : ¬ x = w.heap.size + 1 := by omega
      have hx4 : ¬ w.heap.size + 1 = x := by omega
      clear d0 d1 d2 d3 g0 g1 g2 g3 f0 f1 f2 f3 k0 k1 k2 k3 r0 r1 rf
      have d0 := blk_at T6.h2 0 rfl
      have d1 := blk_at T6.h2 1 rfl
      have d2 := blk_at T6.h2 2 rfl
      have d3 := blk_at T6.h2 3 rfl
      have g0 := blk_at T6.h4 0 rfl
      have g1 := blk_at T6.h4 1 rfl
      have g2 := blk_at T6.h4 2 rfl
      have g3 := blk_at T6.h4 3 rfl
      have f0 := blk_frozen T6.h2 0
      have f1 := blk_frozen T6.h2 1
      have f2 := blk_frozen T6.h2 2
      have f3 := blk_frozen T6.h2 3
      have k0 := blk_frozen T6.h4 0
      have k1 := blk_frozen T6.h4 1
      have k2 := blk_frozen T6.h4 2
      have k3 := blk_frozen T6.h4 3
      have r0 := blk_at T6.hb 0 rfl
      have r1 := blk_at T6.hb 1 rfl
      have rf := blk_frozen T6.hb 1
      by_cases he : (Q.2.2.1 == 0) = true
      · have hne0 : (Q.2.2.1 != 0) = false := by simpa [bne] using he
        have HE := Lib.hid he
        clear he
        have hRR : R = tokFin s.data.toList ⟨4, Q.1, 0, p⟩ (p + Q.2.1.toNat) := by
          rw [← HR.out]
          unfold tokR
          simp only [HC.out]
          rw [if_neg (by omega), if_neg (by rw [hBb]; simp), if_neg (by omega), if_pos HD0.out, HQ.out, if_pos HE.out]
        have HRR := Lib.hid hRR
        clear hRR
        obtain ⟨n, hn⟩ := Int.eq_ofNat_of_zero_le hql.1
        have hn' : Q.2.1.toNat = n := by omega
        rw [hn'] at HRR
        rw [hn]
        have hnb : n ≤ 1000000 := by omega
        have hq1 : (p : Int) + (n : Int) = ((p + n : Nat) : Int) := by omega
        have T7 := ((T6.kind_ 4).text_ Q.1).adv (p + n)
        rw [← hq1] at T7
        clear hq1 hn hn' hql
        go_wp2_with fail
        refine (peek_c b (p + n) s _ _ T7.hb rfl rfl).mono ?_
        rintro e wz ⟨rfl, hkz⟩
        rw [peekI_eq]
        have TZ := T7.move hkz
        have HB := Lib.hid (show ∀ x, blankB (peekL (s.data.toList.drop (p + n))) = x → R = (_, (if x then 0 else 6), p + n) by intro x hx; rw [HRR.out, tokFin, hx])
        generalize peekL (s.data.toList.drop (p + n)) = cz at HB ⊢
        clear d0 d1 d2 d3 g0 g1 g2 g3 f0 f1 f2 f3 k0 k1 k2 k3 r0 r1 rf
        have d0 := blk_at TZ.h2 0 rfl
        have d1 := blk_at TZ.h2 1 rfl
        have d2 := blk_at TZ.h2 2 rfl
        have d3 := blk_at TZ.h2 3 rfl
        have g0 := blk_at TZ.h4 0 rfl
        have g1 := blk_at TZ.h4 1 rfl
        have g2 := blk_at TZ.h4 2 rfl
        have g3 := blk_at TZ.h4 3 rfl
        have f0 := blk_frozen TZ.h2 0
        have f1 := blk_frozen TZ.h2 1
        have f2 := blk_frozen TZ.h2 2
        have f3 := blk_frozen TZ.h2 3
        have k0 := blk_frozen TZ.h4 0
        have k1 := blk_frozen TZ.h4 1
        have k2 := blk_frozen TZ.h4 2
        have k3 := blk_frozen TZ.h4 3
        have r0 := blk_at TZ.hb 0 rfl
        have r1 := blk_at TZ.hb 1 rfl
        have rf := blk_frozen TZ.hb 1
        by_cases z1 : cz = 32
        · have hb : blankB cz = true := by simp [blankB, z1]
          have y1 : (cz != 32) = false := by simp [z1]
          have HX := Lib.hid (HB.out _ hb)
          clear z1 hb
          go_wp2_with fail
          all_goals exact bodyPost_ret (by simp [results, Tryd.results37, go_sem, d0, d1, d2, d3]) rfl (tok_end TZ 0 HX.out)
        by_cases z2 : cz = 9
        · have hb : blankB cz = true := by simp [blankB, z2]
          have y1 : (cz != 32) = true := by simp [z1]
          have y2 : (cz != 9) = false := by simp [z2]
          have HX := Lib.hid (HB.out _ hb)
          clear z2 z1 hb
          go_wp2_with fail
          all_goals exact bodyPost_ret (by simp [results, Tryd.results37, go_sem, d0, d1, d2, d3]) rfl (tok_end TZ 0 HX.out)
        by_cases z3 : cz = 10
        · have hb : blankB cz = true := by simp [blankB, z3]
          have y1 : (cz != 32) = true := by simp [z1]
          have y2 : (cz != 9) = true := by simp [z2]
          have y3 : (cz != 10) = false := by simp [z3]
          have HX := Lib.hid (HB.out _ hb)
          clear z3 z1 z2 hb
          go_wp2_with fail
          all_goals exact bodyPost_ret (by simp [results, Tryd.results37, go_sem, d0, d1, d2, d3]) rfl (tok_end TZ 0 HX.out)
        have hb : blankB cz = false := by simp [blankB, z1, z2, z3]
        have y1 : (cz != 32) = true := by simp [z1]
        have y2 : (cz != 9) = true := by simp [z2]
        have y3 : (cz != 10) = true := by simp [z3]
        have HX := Lib.hid (HB.out _ hb)
        clear z1 z2 z3 hb
        go_wp2_with fail
        all_goals exact bodyPost_ret (by simp [results, Tryd.results37, go_sem, d0, d1, d2, d3]) rfl (tok_end TZ 6 HX.out)
      · have hne0 : (Q.2.2.1 != 0) = true := by simpa [bne] using he
        have HE := Lib.hid he
        clear he
        have hRR : R = (⟨0, [], 0, p⟩, Q.2.2.1, p + Q.2.2.2.toNat) := by
          rw [← HR.out]
          unfold tokR
          simp only [HC.out]
          rw [if_neg (by omega), if_neg (by rw [hBb]; simp), if_neg (by omega), if_pos HD0.out, HQ.out, if_neg HE.out]
        have HRR := Lib.hid hRR
        clear hRR
        obtain ⟨n, hn⟩ := Int.eq_ofNat_of_zero_le hql.2.2.1
        have hn' : Q.2.2.2.toNat = n := by omega
        rw [hn'] at HRR
        rw [hn] at SP sc1
        have hnb : n ≤ 1000000 := by omega
        have hw0 : IntKind.i64.wrap ((p : Int) + (n : Int)) = (p : Int) + (n : Int) := IntWalk.i64_in _ (by omega)
        clear hn hn' hql
        go_wp2_with fail
        go_still_tail 9, (by kernel_rfl)
        change wpList _ _ _ _ _ w6.drew
        clear hw0
        have hq1 : (p : Int) + (n : Int) = ((p + n : Nat) : Int) := by omega
        have T7 := (T6.adv (p + n)).move (Keeps.drew (Keeps.refl noB _))
        rw [← hq1] at T7
        clear hq1
        go_wp2_with fail
        have sc7 := cs_far sc0 (a := ⟨b, 1, none⟩) hx1 (.int .i64 ((p : Int) + (n : Int)))
        clear d0 d1 d2 d3 g0 g1 g2 g3 f0 f1 f2 f3 k0 k1 k2 k3 r0 r1 rf
        generalize hw7 : (w6.setCell ⟨b, 1, none⟩ (Value.int IntKind.i64 ((p : Int) + (n : Int)))).drew = w7 at T7 ⊢
        have sc8 : w7.cell? ⟨x, 0, none⟩ = some (.int .i64 Q.2.2.1) := by rw [← hw7]; exact sc7
        clear hw7
        have d0 := blk_at T7.h2 0 rfl
        have d1 := blk_at T7.h2 1 rfl
        have d2 := blk_at T7.h2 2 rfl
        have d3 := blk_at T7.h2 3 rfl
        have g0 := blk_at T7.h4 0 rfl
        have g1 := blk_at T7.h4 1 rfl
        have g2 := blk_at T7.h4 2 rfl
        have g3 := blk_at T7.h4 3 rfl
        have f0 := blk_frozen T7.h2 0
        have f1 := blk_frozen T7.h2 1
        have f2 := blk_frozen T7.h2 2
        have f3 := blk_frozen T7.h2 3
        have k0 := blk_frozen T7.h4 0
        have k1 := blk_frozen T7.h4 1
        have k2 := blk_frozen T7.h4 2
        have k3 := blk_frozen T7.h4 3
        have r0 := blk_at T7.hb 0 rfl
        have r1 := blk_at T7.hb 1 rfl
        have rf := blk_frozen T7.hb 1
        have hy1 : ¬ x = w.heap.size := by omega
        have hy2 : ¬ w.heap.size = x := by omega
        clear sc0 sc1 sc7
        go_region_held3 (fun W => W.cell? ⟨w.heap.size + 1, 0, none⟩ = some (.int .i64 0) ∧ W.cell? ⟨w.heap.size + 1, 1, none⟩ = some (.string ⟨#[]⟩) ∧ W.cell? ⟨w.heap.size + 1, 2, none⟩ = some (.int .i64 0) ∧ W.cell? ⟨w.heap.size + 1, 3, none⟩ = some (.int .i64 p) ∧ W.cell? ⟨x, 0, none⟩ = some (.int .i64 Q.2.2.1)) (go_keep) (fail)
        all_goals
          go_wp2_with fail
          exact bodyPost_ret (by simp [results, Tryd.results37, go_sem, d0, d1, d2, d3]) rfl (tok_end (T7.move (Keeps.drew (Keeps.refl noB _))) Q.2.2.1 HRR.out)
    · have T5 : TokS w b s o e1 e2 p ⟨0, [], 0, p⟩ w5 := by first | exact (T2.move ((Keeps.refl noB w2).alloc _)).move hk5 | exact (T2.move ((Keeps.refl noB w2).alloc _).drew).move hk5
      have hxx : w.heap.size + 1 < w2.heap.size := blk_lt T2.h4
      have T6 := (T5.far ⟨w2.heap.size, 0, none⟩ (.int .i64 Q.2.2.1) hne1 hxx).far ⟨w2.heap.size, 1, none⟩ (.int .i64 Q.2.2.2) hne1 hxx
      have SP := blk_set (blk_set qo 0 (.int .i64 Q.2.2.1)) 1 (.int .i64 Q.2.2.2)
      simp only [List.setIfInBounds_toArray, List.set_cons_zero, List.set_cons_succ] at SP
      clear q0 q1 hne1 hne2 hne3 hne4 ra0 ra1 qc0 qc1 qf0 qf1 qo
      generalize ((w5.setCell ⟨w2.heap.size, 0, none⟩ (Value.int IntKind.i64 Q.2.2.1)).setCell ⟨w2.heap.size, 1, none⟩ (Value.int IntKind.i64 Q.2.2.2)) = w6 at T6 SP ⊢
      generalize w2.heap.size = x at SP hxx ⊢
      have sc0 := blk_at SP 0 rfl
      have sc1 := blk_at SP 1 rfl
      have hx1 : ¬ x = b := by have := T6.hlt; omega
      have hx2 : ¬ b = x := by have := T6.hlt; omega
      have hx3 : ¬ x = w.heap.size + 1 := by omega
      have hx4 : ¬ w.heap.size + 1 = x := by omega
      clear d0 d1 d2 d3 g0 g1 g2 g3 f0 f1 f2 f3 k0 k1 k2 k3 r0 r1 rf
      have d0 := blk_at T6.h2 0 rfl
      have d1 := blk_at T6.h2 1 rfl
      have d2 := blk_at T6.h2 2 rfl
      have d3 := blk_at T6.h2 3 rfl
      have g0 := blk_at T6.h4 0 rfl
      have g1 := blk_at T6.h4 1 rfl
      have g2 := blk_at T6.h4 2 rfl
      have g3 := blk_at T6.h4 3 rfl
      have f0 := blk_frozen T6.h2 0
      have f1 := blk_frozen T6.h2 1
      have f2 := blk_frozen T6.h2 2
      have f3 := blk_frozen T6.h2 3
      have k0 := blk_frozen T6.h4 0
      have k1 := blk_frozen T6.h4 1
      have k2 := blk_frozen T6.h4 2
      have k3 := blk_frozen T6.h4 3
      have r0 := blk_at T6.hb 0 rfl
      have r1 := blk_at T6.hb 1 rfl
      have rf := blk_frozen T6.hb 1
      by_cases he : (Q.2.2.1 == 0) = true
      · have hne0 : (Q.2.2.1 != 0) = false := by simpa [bne] using he
        have HE := Lib.hid he
        clear he
        have hRR : R = tokFin s.data.toList ⟨4, Q.1, 0, p⟩ (p + Q.2.1.toNat) := by
          rw [← HR.out]
          unfold tokR
          simp only [HC.out]
          rw [if_neg (by omega), if_neg (by rw [hBb]; simp), if_neg (by omega), if_pos HD0.out, HQ.out, if_pos HE.out]
        have HRR := Lib.hid hRR
        clear hRR
        obtain ⟨n, hn⟩ := Int.eq_ofNat_of_zero_le hql.1
        have hn' : Q.2.1.toNat = n := by omega
        rw [hn'] at HRR
        rw [hn]
        have hnb : n ≤ 1000000 := by omega
        have hq1 : (p : Int) + (n : Int) = ((p + n : Nat) : Int) := by omega
        have T7 := ((T6.kind_ 4).text_ Q.1).adv (p + n)
        rw [← hq1] at T7
        clear hq1 hn hn' hql
        go_wp2_with fail
        refine (peek_c b (p + n) s _ _ T7.hb rfl rfl).mono ?_
        rintro e wz ⟨rfl, hkz⟩
        rw [peekI_eq]
        have TZ := T7.move hkz
        have HB := Lib.hid (show ∀ x, blankB (peekL (s.data.toList.drop (p + n))) = x → R = (_, (if x then 0 else 6), p + n) by intro x hx; rw [HRR.out, tokFin, hx])
        generalize peekL (s.data.toList.drop (p + n)) = cz at HB ⊢
        clear d0 d1 d2 d3 g0 g1 g2 g3 f0 f1 f2 f3 k0 k1 k2 k3 r0 r1 rf
        have d0 := blk_at TZ.h2 0 rfl
        have d1 := blk_at TZ.h2 1 rfl
        have d2 := blk_at TZ.h2 2 rfl
        have d3 := blk_at TZ.h2 3 rfl
        have g0 := blk_at TZ.h4 0 rfl
        have g1 := blk_at TZ.h4 1 rfl
        have g2 := blk_at TZ.h4 2 rfl
        have g3 := blk_at TZ.h4 3 rfl
        have f0 := blk_frozen TZ.h2 0
        have f1 := blk_frozen TZ.h2 1
        have f2 := blk_frozen TZ.h2 2
        have f3 := blk_frozen TZ.h2 3
        have k0 := blk_frozen TZ.h4 0
        have k1 := blk_frozen TZ.h4 1
        have k2 := blk_frozen TZ.h4 2
        have k3 := blk_frozen TZ.h4 3
        have r0 := blk_at TZ.hb 0 rfl
        have r1 := blk_at TZ.hb 1 rfl
        have rf := blk_frozen TZ.hb 1
        by_cases z1 : cz = 32
        · have hb : blankB cz = true := by simp [blankB, z1]
          have y1 : (cz != 32) = false := by simp [z1]
          have HX := Lib.hid (HB.out _ hb)
          clear z1 hb
          go_wp2_with fail
          all_goals exact bodyPost_ret (by simp [results, Tryd.results37, go_sem, d0, d1, d2, d3]) rfl (tok_end TZ 0 HX.out)
        by_cases z2 : cz = 9
        · have hb : blankB cz = true := by simp [blankB, z2]
          have y1 : (cz != 32) = true := by simp [z1]
          have y2 : (cz != 9) = false := by simp [z2]
          have HX := Lib.hid (HB.out _ hb)
          clear z2 z1 hb
          go_wp2_with fail
          all_goals exact bodyPost_ret (by simp [results, Tryd.results37, go_sem, d0, d1, d2, d3]) rfl (tok_end TZ 0 HX.out)
        by_cases z3 : cz = 10
        · have hb : blankB cz = true := by simp [blankB, z3]
          have y1 : (cz != 32) = true := by simp [z1]
          have y2 : (cz != 9) = true := by simp [z2]
          have y3 : (cz != 10) = false := by simp [z3]
          have HX := Lib.hid (HB.out _ hb)
          clear z3 z1 z2 hb
          go_wp2_with fail
          all_goals exact bodyPost_ret (by simp [results, Tryd.results37, go_sem, d0, d1, d2, d3]) rfl (tok_end TZ 0 HX.out)
        have hb : blankB cz = false := by simp [blankB, z1, z2, z3]
        have y1 : (cz != 32) = true := by simp [z1]
        have y2 : (cz != 9) = true := by simp [z2]
        have y3 : (cz != 10) = true := by simp [z3]
        have HX := Lib.hid (HB.out _ hb)
        clear z1 z2 z3 hb
        go_wp2_with fail
        all_goals exact bodyPost_ret (by simp [results, Tryd.results37, go_sem, d0, d1, d2, d3]) rfl (tok_end TZ 6 HX.out)
      · have hne0 : (Q.2.2.1 != 0) = true := by simpa [bne] using he
        have HE := Lib.hid he
        clear he
        have hRR : R = (⟨0, [], 0, p⟩, Q.2.2.1, p + Q.2.2.2.toNat) := by
          rw [← HR.out]
          unfold tokR
          simp only [HC.out]
          rw [if_neg (by omega), if_neg (by rw [hBb]; simp), if_neg (by omega), if_pos HD0.out, HQ.out, if_neg HE.out]
        have HRR := Lib.hid hRR
        clear hRR
        obtain ⟨n, hn⟩ := Int.eq_ofNat_of_zero_le hql.2.2.1
        have hn' : Q.2.2.2.toNat = n := by omega
        rw [hn'] at HRR
        rw [hn] at SP sc1
        have hnb : n ≤ 1000000 := by omega
        have hw0 : IntKind.i64.wrap ((p : Int) + (n : Int)) = (p : Int) + (n : Int) := IntWalk.i64_in _ (by omega)
        clear hn hn' hql
        go_wp2_with fail
        go_still_tail 9, (by kernel_rfl)
        change wpList _ _ _ _ _ w6.drew
        clear hw0
        have hq1 : (p : Int) + (n : Int) = ((p + n : Nat) : Int) := by omega
        have T7 := (T6.adv (p + n)).move (Keeps.drew (Keeps.refl noB _))
        rw [← hq1] at T7
        clear hq1
        go_wp2_with fail
        have sc7 := cs_far sc0 (a := ⟨b, 1, none⟩) hx1 (.int .i64 ((p : Int) + (n : Int)))
        clear d0 d1 d2 d3 g0 g1 g2 g3 f0 f1 f2 f3 k0 k1 k2 k3 r0 r1 rf
        generalize hw7 : (w6.setCell ⟨b, 1, none⟩ (Value.int IntKind.i64 ((p : Int) + (n : Int)))).drew = w7 at T7 ⊢
        have sc8 : w7.cell? ⟨x, 0, none⟩ = some (.int .i64 Q.2.2.1) := by rw [← hw7]; exact sc7
        clear hw7
        have d0 := blk_at T7.h2 0 rfl
        have d1 := blk_at T7.h2 1 rfl
        have d2 := blk_at T7.h2 2 rfl
        have d3 := blk_at T7.h2 3 rfl
        have g0 := blk_at T7.h4 0 rfl
        have g1 := blk_at T7.h4 1 rfl
        have g2 := blk_at T7.h4 2 rfl
        have g3 := blk_at T7.h4 3 rfl
        have f0 := blk_frozen T7.h2 0
        have f1 := blk_frozen T7.h2 1
        have f2 := blk_frozen T7.h2 2
        have f3 := blk_frozen T7.h2 3
        have k0 := blk_frozen T7.h4 0
        have k1 := blk_frozen T7.h4 1
        have k2 := blk_frozen T7.h4 2
        have k3 := blk_frozen T7.h4 3
        have r0 := blk_at T7.hb 0 rfl
        have r1 := blk_at T7.hb 1 rfl
        have rf := blk_frozen T7.hb 1
        have hy1 : ¬ x = w.heap.size := by omega
        have hy2 : ¬ w.heap.size = x := by omega
        clear sc0 sc1 sc7
        go_region_held3 (fun W => W.cell? ⟨w.heap.size + 1, 0, none⟩ = some (.int .i64 0) ∧ W.cell? ⟨w.heap.size + 1, 1, none⟩ = some (.string ⟨#[]⟩) ∧ W.cell? ⟨w.heap.size + 1, 2, none⟩ = some (.int .i64 0) ∧ W.cell? ⟨w.heap.size + 1, 3, none⟩ = some (.int .i64 p) ∧ W.cell? ⟨x, 0, none⟩ = some (.int .i64 Q.2.2.1)) (go_keep) (fail)
        all_goals
          go_wp2_with fail
          exact bodyPost_ret (by simp [results, Tryd.results37, go_sem, d0, d1, d2, d3]) rfl (tok_end (T7.move (Keeps.drew (Keeps.refl noB _))) Q.2.2.1 HRR.out)

set_option maxHeartbeats 4000000 in
theorem token_sign (b p : Nat) (s : ByteArray) (o e1 e2 : Value) (w : World) (hs : s.size ≤ 1000000) (hp : p ≤ s.size) (h0 : w.heap[b]? = some (.cells #[.string s, .int .i64 p, o, e1, e2] 77 (0, 0))) (hX : peekL (s.data.toList.drop p) = 60 ∨ peekL (s.data.toList.drop p) = 123 ∨ peekL (s.data.toList.drop p) = 125) :
    Calls Tryd.prog 37 #[.pointer (some ⟨b, 0, none⟩)] w (TokPost (tokR s.data.toList p) b s o e1 e2 w) := by
  have c1 := blk_at h0 1 rfl
  have hlt := blk_lt h0
  have hpe : peekI s p = peekL (s.data.toList.drop p) := peekI_eq s p
  obtain ⟨c, hc⟩ : ∃ c, peekL (s.data.toList.drop p) = c := ⟨_, rfl⟩
  have HC := Lib.hid hc
  have hE : c = 60 ∨ c = 123 ∨ c = 125 := by rw [← hc]; exact hX
  clear hX
  have HP := Lib.hid (hpe.trans hc)
  clear hpe hc
  have T1 : TokS w b s o e1 e2 p ⟨0, [], 0, p⟩ ((w.alloc (.cells #[.int .i64 0, .string ⟨#[]⟩, .int .i64 0, .int .i64 0] 37)).alloc (.cells #[.int .i64 0, .string ⟨#[]⟩, .int .i64 0, .int .i64 p] 37)) :=
    ⟨blk_alloc (blk_alloc h0 _) _, blk_alloc (blk_new _ _) _, by have := blk_new (w.alloc (.cells #[.int .i64 0, .string ⟨#[]⟩, .int .i64 0, .int .i64 0] 37)) (.cells #[.int .i64 0, .string ⟨#[]⟩, .int .i64 0, .int .i64 p] 37); simpa using this, ((Keeps.refl _ _).alloc _).alloc _, hlt⟩
  obtain ⟨R, hR⟩ : ∃ R, tokR s.data.toList p = R := ⟨_, rfl⟩
  rw [hR]
  have HR := Lib.hid hR
  clear hR
  go_enter Tryd.func37, Tryd.ntmps37
  go_wp2_with fail
  refine (peek_c b p s _ _ T1.hb rfl rfl).mono ?_
  rintro e w2 ⟨rfl, hk2⟩
  rw [HP.out]
  have T2 := T1.move hk2
  clear T1 hk2 c1 h0
  have d0 := blk_at T2.h2 0 rfl
  have d1 := blk_at T2.h2 1 rfl
  have d2 := blk_at T2.h2 2 rfl
  have d3 := blk_at T2.h2 3 rfl
  have g0 := blk_at T2.h4 0 rfl
  have g1 := blk_at T2.h4 1 rfl
  have g2 := blk_at T2.h4 2 rfl
  have g3 := blk_at T2.h4 3 rfl
  have f0 := blk_frozen T2.h2 0
  have f1 := blk_frozen T2.h2 1
  have f2 := blk_frozen T2.h2 2
  have f3 := blk_frozen T2.h2 3
  have k0 := blk_frozen T2.h4 0
  have k1 := blk_frozen T2.h4 1
  have k2 := blk_frozen T2.h4 2
  have k3 := blk_frozen T2.h4 3
  have r0 := blk_at T2.hb 0 rfl
  have r1 := blk_at T2.hb 1 rfl
  have rf := blk_frozen T2.hb 1
  · obtain ⟨u, hu⟩ := byte_of c (by omega) (by omega)
    have htk : (s.data.toList.drop p).take 1 = [u] := by
      have h1 := HC.out
      cases hl : s.data.toList.drop p with
      | nil => rw [hl] at h1; simp [peekL] at h1; omega
      | cons x r => rw [hl] at h1; simp only [peekL] at h1; simp; exact UInt8.toNat_inj.1 (by omega)
    have HU := Lib.hid hu.symm
    clear hu
    rcases hE with hv | hv | hv
    · have z1 : (c == 60) = true := by simp [hv]
      have z2 : (c == 123) = false := by simp [hv]
      have z3 : (c == 125) = false := by simp [hv]
      have hA' : ¬ (97 ≤ c ∧ c ≤ 122) := by omega
      have hA2 : ¬ 97 ≤ c := by omega
      have hB' : (c == 48) = false := by simp [hv]
      have hC' : ¬ (49 ≤ c ∧ c ≤ 57) := by omega
      have hC2 : ¬ c ≤ 57 := by omega
      have hC3 : 49 ≤ c := by omega
      have hD' : (c == 34) = false := by simp [hv]
      have hE' : ((c == 60) || ((c == 123) || (c == 125))) = true := by simp [hv]
      have hRR : R = tokFin s.data.toList ⟨5, (s.data.toList.drop p).take 1, 0, p⟩ (p + 1) := by
        rw [← HR.out]
        unfold tokR
        simp only [HC.out]
        rw [if_neg hA', if_neg (by rw [hB']; simp), if_neg hC', if_neg (by rw [hD']; simp), if_pos hE']
      have HRR := Lib.hid hRR
      clear hRR
      rw [htk] at HRR
      clear hv hE' hA' hC' htk
      have hcv : ∀ W : World, (convert 68 9 (.slice (some ⟨W.heap.size, 0, none⟩) 1 1)).run Tryd.prog (W.alloc (.cells #[.int .u8 c] 5)) = .ok (.string ⟨#[u]⟩) (W.alloc (.cells #[.int .u8 c] 5)) := fun W => by rw [HU.out]; exact conv_bytes W [u] 1 _ rfl
      have hcv3 : (convert 68 9 (.slice (some ⟨w2.heap.size, 0, none⟩) 1 1)).run Tryd.prog (w2.alloc (.cells #[.int .u8 c] 5)).drew = .ok (.string ⟨#[u]⟩) (w2.alloc (.cells #[.int .u8 c] 5)).drew := hcv w2.drew
      have hcv4 : ∀ v, (convert 68 9 (.slice (some ⟨w2.heap.size, 0, none⟩) 1 1)).run Tryd.prog ((w2.setCell ⟨w.heap.size + 1, 0, none⟩ v).alloc (.cells #[.int .u8 c] 5)).drew = .ok (.string ⟨#[u]⟩) ((w2.setCell ⟨w.heap.size + 1, 0, none⟩ v).alloc (.cells #[.int .u8 c] 5)).drew := fun v => by
        have := hcv (w2.setCell ⟨w.heap.size + 1, 0, none⟩ v).drew
        rw [World.size_drew, World.size_setCell] at this
        exact this
      clear hcv
      go_wp2_with fail
      have hbl2 : w.heap.size + 1 < w2.heap.size := blk_lt T2.h4
      go_region
      have T6 := ((T2.kind_ 5).text_ [u]).move (((Keeps.refl noB _).alloc (.cells #[.int .u8 c] 5)).drew)
      clear hcv3 hcv4 T2
      clear d0 d1 d2 d3 g0 g1 g2 g3 f0 f1 f2 f3 k0 k1 k2 k3 r0 r1 rf
      generalize (((w2.setCell ⟨w.heap.size + 1, 0, none⟩ (Value.int IntKind.i64 5)).setCell ⟨w.heap.size + 1, 1, none⟩ (Value.string ⟨#[u]⟩)).alloc (Obj.cells #[Value.int IntKind.u8 c] 5)).drew = w6 at T6 ⊢
      have d0 := blk_at T6.h2 0 rfl
      have d1 := blk_at T6.h2 1 rfl
      have d2 := blk_at T6.h2 2 rfl
      have d3 := blk_at T6.h2 3 rfl
      have g0 := blk_at T6.h4 0 rfl
      have g1 := blk_at T6.h4 1 rfl
      have g2 := blk_at T6.h4 2 rfl
      have g3 := blk_at T6.h4 3 rfl
      have f0 := blk_frozen T6.h2 0
      have f1 := blk_frozen T6.h2 1
      have f2 := blk_frozen T6.h2 2
      have f3 := blk_frozen T6.h2 3
      have k0 := blk_frozen T6.h4 0
      have k1 := blk_frozen T6.h4 1
      have k2 := blk_frozen T6.h4 2
      have k3 := blk_frozen T6.h4 3
      have r0 := blk_at T6.hb 0 rfl
      have r1 := blk_at T6.hb 1 rfl
      have rf := blk_frozen T6.hb 1
      have hq1 : (p : Int) + 1 = ((p + 1 : Nat) : Int) := by omega
      have T7 := T6.adv (p + 1)
      rw [← hq1] at T7
      clear hq1
      go_wp2_with fail
      refine (peek_c b (p + 1) s _ _ T7.hb rfl rfl).mono ?_
      rintro e wz ⟨rfl, hkz⟩
      rw [peekI_eq]
      have TZ := T7.move hkz
      have HB := Lib.hid (show ∀ x, blankB (peekL (s.data.toList.drop (p + 1))) = x → R = (_, (if x then 0 else 6), p + 1) by intro x hx; rw [HRR.out, tokFin, hx])
      generalize peekL (s.data.toList.drop (p + 1)) = cz at HB ⊢
      clear d0 d1 d2 d3 g0 g1 g2 g3 f0 f1 f2 f3 k0 k1 k2 k3 r0 r1 rf
      have d0 := blk_at TZ.h2 0 rfl
      have d1 := blk_at TZ.h2 1 rfl
      have d2 := blk_at TZ.h2 2 rfl
      have d3 := blk_at TZ.h2 3 rfl
      have g0 := blk_at TZ.h4 0 rfl
      have g1 := blk_at TZ.h4 1 rfl
      have g2 := blk_at TZ.h4 2 rfl
      have g3 := blk_at TZ.h4 3 rfl
      have f0 := blk_frozen TZ.h2 0
      have f1 := blk_frozen TZ.h2 1
      have f2 := blk_frozen TZ.h2 2
      have f3 := blk_frozen TZ.h2 3
      have k0 := blk_frozen TZ.h4 0
      have k1 := blk_frozen TZ.h4 1
      have k2 := blk_frozen TZ.h4 2
      have k3 := blk_frozen TZ.h4 3
      have r0 := blk_at TZ.hb 0 rfl
      have r1 := blk_at TZ.hb 1 rfl
      have rf := blk_frozen TZ.hb 1
      by_cases z1 : cz = 32
      · have hb : blankB cz = true := by simp [blankB, z1]
        have y1 : (cz != 32) = false := by simp [z1]
        have HX := Lib.hid (HB.out _ hb)
        clear z1 hb
        go_wp2_with fail
        all_goals exact bodyPost_ret (by simp [results, Tryd.results37, go_sem, d0, d1, d2, d3]) rfl (tok_end TZ 0 HX.out)
      by_cases z2 : cz = 9
      · have hb : blankB cz = true := by simp [blankB, z2]
        have y1 : (cz != 32) = true := by simp [z1]
        have y2 : (cz != 9) = false := by simp [z2]
        have HX := Lib.hid (HB.out _ hb)
        clear z2 z1 hb
        go_wp2_with fail
        all_goals exact bodyPost_ret (by simp [results, Tryd.results37, go_sem, d0, d1, d2, d3]) rfl (tok_end TZ 0 HX.out)
      by_cases z3 : cz = 10
      · have hb : blankB cz = true := by simp [blankB, z3]
        have y1 : (cz != 32) = true := by simp [z1]
        have y2 : (cz != 9) = true := by simp [z2]
        have y3 : (cz != 10) = false := by simp [z3]
        have HX := Lib.hid (HB.out _ hb)
        clear z3 z1 z2 hb
        go_wp2_with fail
        all_goals exact bodyPost_ret (by simp [results, Tryd.results37, go_sem, d0, d1, d2, d3]) rfl (tok_end TZ 0 HX.out)
      have hb : blankB cz = false := by simp [blankB, z1, z2, z3]
      have y1 : (cz != 32) = true := by simp [z1]
      have y2 : (cz != 9) = true := by simp [z2]
      have y3 : (cz != 10) = true := by simp [z3]
      have HX := Lib.hid (HB.out _ hb)
      clear z1 z2 z3 hb
      go_wp2_with fail
      all_goals exact bodyPost_ret (by simp [results, Tryd.results37, go_sem, d0, d1, d2, d3]) rfl (tok_end TZ 6 HX.out)
    · have z1 : (c == 60) = false := by simp [hv]
      have z2 : (c == 123) = true := by simp [hv]
      have z3 : (c == 125) = false := by simp [hv]
      have hA' : ¬ (97 ≤ c ∧ c ≤ 122) := by omega
      have hA2 : ¬ c ≤ 122 := by omega
      have hA3 : 97 ≤ c := by omega
      have hB' : (c == 48) = false := by simp [hv]
      have hC' : ¬ (49 ≤ c ∧ c ≤ 57) := by omega
      have hC2 : ¬ c ≤ 57 := by omega
      have hC3 : 49 ≤ c := by omega
      have hD' : (c == 34) = false := by simp [hv]
      have hE' : ((c == 60) || ((c == 123) || (c == 125))) = true := by simp [hv]
      have hRR : R = tokFin s.data.toList ⟨5, (s.data.toList.drop p).take 1, 0, p⟩ (p + 1) := by
        rw [← HR.out]
        unfold tokR
        simp only [HC.out]
        rw [if_neg hA', if_neg (by rw [hB']; simp), if_neg hC', if_neg (by rw [hD']; simp), if_pos hE']
      have HRR := Lib.hid hRR
      clear hRR
      rw [htk] at HRR
      clear hv hE' hA' hC' htk
      have hcv : ∀ W : World, (convert 68 9 (.slice (some ⟨W.heap.size, 0, none⟩) 1 1)).run Tryd.prog (W.alloc (.cells #[.int .u8 c] 5)) = .ok (.string ⟨#[u]⟩) (W.alloc (.cells #[.int .u8 c] 5)) := fun W => by rw [HU.out]; exact conv_bytes W [u] 1 _ rfl
      have hcv3 : (convert 68 9 (.slice (some ⟨w2.heap.size, 0, none⟩) 1 1)).run Tryd.prog (w2.alloc (.cells #[.int .u8 c] 5)).drew = .ok (.string ⟨#[u]⟩) (w2.alloc (.cells #[.int .u8 c] 5)).drew := hcv w2.drew
      have hcv4 : ∀ v, (convert 68 9 (.slice (some ⟨w2.heap.size, 0, none⟩) 1 1)).run Tryd.prog ((w2.setCell ⟨w.heap.size + 1, 0, none⟩ v).alloc (.cells #[.int .u8 c] 5)).drew = .ok (.string ⟨#[u]⟩) ((w2.setCell ⟨w.heap.size + 1, 0, none⟩ v).alloc (.cells #[.int .u8 c] 5)).drew := fun v => by
        have := hcv (w2.setCell ⟨w.heap.size + 1, 0, none⟩ v).drew
        rw [World.size_drew, World.size_setCell] at this
        exact this
      clear hcv
      go_wp2_with fail
      have hbl2 : w.heap.size + 1 < w2.heap.size := blk_lt T2.h4
      go_region
      have T6 := ((T2.kind_ 5).text_ [u]).move (((Keeps.refl noB _).alloc (.cells #[.int .u8 c] 5)).drew)
      clear hcv3 hcv4 T2
      clear d0 d1 d2 d3 g0 g1 g2 g3 f0 f1 f2 f3 k0 k1 k2 k3 r0 r1 rf
      generalize (((w2.setCell ⟨w.heap.size + 1, 0, none⟩ (Value.int IntKind.i64 5)).setCell ⟨w.heap.size + 1, 1, none⟩ (Value.string ⟨#[u]⟩)).alloc (Obj.cells #[Value.int IntKind.u8 c] 5)).drew = w6 at T6 ⊢
      have d0 := blk_at T6.h2 0 rfl
      have d1 := blk_at T6.h2 1 rfl
      have d2 := blk_at T6.h2 2 rfl
      have d3 := blk_at T6.h2 3 rfl
      have g0 := blk_at T6.h4 0 rfl
      have g1 := blk_at T6.h4 1 rfl
      have g2 := blk_at T6.h4 2 rfl
      have g3 := blk_at T6.h4 3 rfl
      have f0 := blk_frozen T6.h2 0
      have f1 := blk_frozen T6.h2 1
      have f2 := blk_frozen T6.h2 2
      have f3 := blk_frozen T6.h2 3
      have k0 := blk_frozen T6.h4 0
      have k1 := blk_frozen T6.h4 1
      have k2 := blk_frozen T6.h4 2
      have k3 := blk_frozen T6.h4 3
      have r0 := blk_at T6.hb 0 rfl
      have r1 := blk_at T6.hb 1 rfl
      have rf := blk_frozen T6.hb 1
      have hq1 : (p : Int) + 1 = ((p + 1 : Nat) : Int) := by omega
      have T7 := T6.adv (p + 1)
      rw [← hq1] at T7
      clear hq1
      go_wp2_with fail
      refine (peek_c b (p + 1) s _ _ T7.hb rfl rfl).mono ?_
      rintro e wz ⟨rfl, hkz⟩
      rw [peekI_eq]
      have TZ := T7.move hkz
      have HB := Lib.hid (show ∀ x, blankB (peekL (s.data.toList.drop (p + 1))) = x → R = (_, (if x then 0 else 6), p + 1) by intro x hx; rw [HRR.out, tokFin, hx])
      generalize peekL (s.data.toList.drop (p + 1)) = cz at HB ⊢
      clear d0 d1 d2 d3 g0 g1 g2 g3 f0 f1 f2 f3 k0 k1 k2 k3 r0 r1 rf
      have d0 := blk_at TZ.h2 0 rfl
      have d1 := blk_at TZ.h2 1 rfl
      have d2 := blk_at TZ.h2 2 rfl
      have d3 := blk_at TZ.h2 3 rfl
      have g0 := blk_at TZ.h4 0 rfl
      have g1 := blk_at TZ.h4 1 rfl
      have g2 := blk_at TZ.h4 2 rfl
      have g3 := blk_at TZ.h4 3 rfl
      have f0 := blk_frozen TZ.h2 0
      have f1 := blk_frozen TZ.h2 1
      have f2 := blk_frozen TZ.h2 2
      have f3 := blk_frozen TZ.h2 3
      have k0 := blk_frozen TZ.h4 0
      have k1 := blk_frozen TZ.h4 1
      have k2 := blk_frozen TZ.h4 2
      have k3 := blk_frozen TZ.h4 3
      have r0 := blk_at TZ.hb 0 rfl
      have r1 := blk_at TZ.hb 1 rfl
      have rf := blk_frozen TZ.hb 1
      by_cases z1 : cz = 32
      · have hb : blankB cz = true := by simp [blankB, z1]
        have y1 : (cz != 32) = false := by simp [z1]
        have HX := Lib.hid (HB.out _ hb)
        clear z1 hb
        go_wp2_with fail
        all_goals exact bodyPost_ret (by simp [results, Tryd.results37, go_sem, d0, d1, d2, d3]) rfl (tok_end TZ 0 HX.out)
      by_cases z2 : cz = 9
      · have hb : blankB cz = true := by simp [blankB, z2]
        have y1 : (cz != 32) = true := by simp [z1]
        have y2 : (cz != 9) = false := by simp [z2]
        have HX := Lib.hid (HB.out _ hb)
        clear z2 z1 hb
        go_wp2_with fail
        all_goals exact bodyPost_ret (by simp [results, Tryd.results37, go_sem, d0, d1, d2, d3]) rfl (tok_end TZ 0 HX.out)
      by_cases z3 : cz = 10
      · have hb : blankB cz = true := by simp [blankB, z3]
        have y1 : (cz != 32) = true := by simp [z1]
        have y2 : (cz != 9) = true := by simp [z2]
        have y3 : (cz != 10) = false := by simp [z3]
        have HX := Lib.hid (HB.out _ hb)
        clear z3 z1 z2 hb
        go_wp2_with fail
        all_goals exact bodyPost_ret (by simp [results, Tryd.results37, go_sem, d0, d1, d2, d3]) rfl (tok_end TZ 0 HX.out)
      have hb : blankB cz = false := by simp [blankB, z1, z2, z3]
      have y1 : (cz != 32) = true := by simp [z1]
      have y2 : (cz != 9) = true := by simp [z2]
      have y3 : (cz != 10) = true := by simp [z3]
      have HX := Lib.hid (HB.out _ hb)
      clear z1 z2 z3 hb
      go_wp2_with fail
      all_goals exact bodyPost_ret (by simp [results, Tryd.results37, go_sem, d0, d1, d2, d3]) rfl (tok_end TZ 6 HX.out)
    · have z1 : (c == 60) = false := by simp [hv]
      have z2 : (c == 123) = false := by simp [hv]
      have z3 : (c == 125) = true := by simp [hv]
      have hA' : ¬ (97 ≤ c ∧ c ≤ 122) := by omega
      have hA2 : ¬ c ≤ 122 := by omega
      have hA3 : 97 ≤ c := by omega
      have hB' : (c == 48) = false := by simp [hv]
      have hC' : ¬ (49 ≤ c ∧ c ≤ 57) := by omega
      have hC2 : ¬ c ≤ 57 := by omega
      have hC3 : 49 ≤ c := by omega
      have hD' : (c == 34) = false := by simp [hv]
      have hE' : ((c == 60) || ((c == 123) || (c == 125))) = true := by simp [hv]
      have hRR : R = tokFin s.data.toList ⟨5, (s.data.toList.drop p).take 1, 0, p⟩ (p + 1) := by
        rw [← HR.out]
        unfold tokR
        simp only [HC.out]
        rw [if_neg hA', if_neg (by rw [hB']; simp), if_neg hC', if_neg (by rw [hD']; simp), if_pos hE']
      have HRR := Lib.hid hRR
      clear hRR
      rw [htk] at HRR
      clear hv hE' hA' hC' htk
      have hcv : ∀ W : World, (convert 68 9 (.slice (some ⟨W.heap.size, 0, none⟩) 1 1)).run Tryd.prog (W.alloc (.cells #[.int .u8 c] 5)) = .ok (.string ⟨#[u]⟩) (W.alloc (.cells #[.int .u8 c] 5)) := fun W => by rw [HU.out]; exact conv_bytes W [u] 1 _ rfl
      have hcv3 : (convert 68 9 (.slice (some ⟨w2.heap.size, 0, none⟩) 1 1)).run Tryd.prog (w2.alloc (.cells #[.int .u8 c] 5)).drew = .ok (.string ⟨#[u]⟩) (w2.alloc (.cells #[.int .u8 c] 5)).drew := hcv w2.drew
      have hcv4 : ∀ v, (convert 68 9 (.slice (some ⟨w2.heap.size, 0, none⟩) 1 1)).run Tryd.prog ((w2.setCell ⟨w.heap.size + 1, 0, none⟩ v).alloc (.cells #[.int .u8 c] 5)).drew = .ok (.string ⟨#[u]⟩) ((w2.setCell ⟨w.heap.size + 1, 0, none⟩ v).alloc (.cells #[.int .u8 c] 5)).drew := fun v => by
        have := hcv (w2.setCell ⟨w.heap.size + 1, 0, none⟩ v).drew
        rw [World.size_drew, World.size_setCell] at this
        exact this
      clear hcv
      go_wp2_with fail
      have hbl2 : w.heap.size + 1 < w2.heap.size := blk_lt T2.h4
      go_region
      have T6 := ((T2.kind_ 5).text_ [u]).move (((Keeps.refl noB _).alloc (.cells #[.int .u8 c] 5)).drew)
      clear hcv3 hcv4 T2
      clear d0 d1 d2 d3 g0 g1 g2 g3 f0 f1 f2 f3 k0 k1 k2 k3 r0 r1 rf
      generalize (((w2.setCell ⟨w.heap.size + 1, 0, none⟩ (Value.int IntKind.i64 5)).setCell ⟨w.heap.size + 1, 1, none⟩ (Value.string ⟨#[u]⟩)).alloc (Obj.cells #[Value.int IntKind.u8 c] 5)).drew = w6 at T6 ⊢
      have d0 := blk_at T6.h2 0 rfl
      have d1 := blk_at T6.h2 1 rfl
      have d2 := blk_at T6.h2 2 rfl
      have d3 := blk_at T6.h2 3 rfl
      have g0 := blk_at T6.h4 0 rfl
      have g1 := blk_at T6.h4 1 rfl
      have g2 := blk_at T6.h4 2 rfl
      have g3 := blk_at T6.h4 3 rfl
      have f0 := blk_frozen T6.h2 0
      have f1 := blk_frozen T6.h2 1
      have f2 := blk_frozen T6.h2 2
      have f3 := blk_frozen T6.h2 3
      have k0 := blk_frozen T6.h4 0
      have k1 := blk_frozen T6.h4 1
      have k2 := blk_frozen T6.h4 2
      have k3 := blk_frozen T6.h4 3
      have r0 := blk_at T6.hb 0 rfl
      have r1 := blk_at T6.hb 1 rfl
      have rf := blk_frozen T6.hb 1
      have hq1 : (p : Int) + 1 = ((p + 1 : Nat) : Int) := by omega
      have T7 := T6.adv (p + 1)
      rw [← hq1] at T7
      clear hq1
      go_wp2_with fail
      refine (peek_c b (p + 1) s _ _ T7.hb rfl rfl).mono ?_
      rintro e wz ⟨rfl, hkz⟩
      rw [peekI_eq]
      have TZ := T7.move hkz
      have HB := Lib.hid (show ∀ x, blankB (peekL (s.data.toList.drop (p + 1))) = x → R = (_, (if x then 0 else 6), p + 1) by intro x hx; rw [HRR.out, tokFin, hx])
      generalize peekL (s.data.toList.drop (p + 1)) = cz at HB ⊢
      clear d0 d1 d2 d3 g0 g1 g2 g3 f0 f1 f2 f3 k0 k1 k2 k3 r0 r1 rf
      have d0 := blk_at TZ.h2 0 rfl
      have d1 := blk_at TZ.h2 1 rfl
      have d2 := blk_at TZ.h2 2 rfl
      have d3 := blk_at TZ.h2 3 rfl
      have g0 := blk_at TZ.h4 0 rfl
      have g1 := blk_at TZ.h4 1 rfl
      have g2 := blk_at TZ.h4 2 rfl
      have g3 := blk_at TZ.h4 3 rfl
      have f0 := blk_frozen TZ.h2 0
      have f1 := blk_frozen TZ.h2 1
      have f2 := blk_frozen TZ.h2 2
      have f3 := blk_frozen TZ.h2 3
      have k0 := blk_frozen TZ.h4 0
      have k1 := blk_frozen TZ.h4 1
      have k2 := blk_frozen TZ.h4 2
      have k3 := blk_frozen TZ.h4 3
      have r0 := blk_at TZ.hb 0 rfl
      have r1 := blk_at TZ.hb 1 rfl
      have rf := blk_frozen TZ.hb 1
      by_cases z1 : cz = 32
      · have hb : blankB cz = true := by simp [blankB, z1]
        have y1 : (cz != 32) = false := by simp [z1]
        have HX := Lib.hid (HB.out _ hb)
        clear z1 hb
        go_wp2_with fail
        all_goals exact bodyPost_ret (by simp [results, Tryd.results37, go_sem, d0, d1, d2, d3]) rfl (tok_end TZ 0 HX.out)
      by_cases z2 : cz = 9
      · have hb : blankB cz = true := by simp [blankB, z2]
        have y1 : (cz != 32) = true := by simp [z1]
        have y2 : (cz != 9) = false := by simp [z2]
        have HX := Lib.hid (HB.out _ hb)
        clear z2 z1 hb
        go_wp2_with fail
        all_goals exact bodyPost_ret (by simp [results, Tryd.results37, go_sem, d0, d1, d2, d3]) rfl (tok_end TZ 0 HX.out)
      by_cases z3 : cz = 10
      · have hb : blankB cz = true := by simp [blankB, z3]
        have y1 : (cz != 32) = true := by simp [z1]
        have y2 : (cz != 9) = true := by simp [z2]
        have y3 : (cz != 10) = false := by simp [z3]
        have HX := Lib.hid (HB.out _ hb)
        clear z3 z1 z2 hb
        go_wp2_with fail
        all_goals exact bodyPost_ret (by simp [results, Tryd.results37, go_sem, d0, d1, d2, d3]) rfl (tok_end TZ 0 HX.out)
      have hb : blankB cz = false := by simp [blankB, z1, z2, z3]
      have y1 : (cz != 32) = true := by simp [z1]
      have y2 : (cz != 9) = true := by simp [z2]
      have y3 : (cz != 10) = true := by simp [z3]
      have HX := Lib.hid (HB.out _ hb)
      clear z1 z2 z3 hb
      go_wp2_with fail
      all_goals exact bodyPost_ret (by simp [results, Tryd.results37, go_sem, d0, d1, d2, d3]) rfl (tok_end TZ 6 HX.out)

set_option maxHeartbeats 4000000 in
theorem token_else (b p : Nat) (s : ByteArray) (o e1 e2 : Value) (w : World) (hs : s.size ≤ 1000000) (hp : p ≤ s.size) (h0 : w.heap[b]? = some (.cells #[.string s, .int .i64 p, o, e1, e2] 77 (0, 0))) (hX : ¬ (97 ≤ peekL (s.data.toList.drop p) ∧ peekL (s.data.toList.drop p) ≤ 122) ∧ ¬ peekL (s.data.toList.drop p) = 48 ∧ ¬ (49 ≤ peekL (s.data.toList.drop p) ∧ peekL (s.data.toList.drop p) ≤ 57) ∧ ¬ peekL (s.data.toList.drop p) = 34 ∧ ¬ (peekL (s.data.toList.drop p) = 60 ∨ peekL (s.data.toList.drop p) = 123 ∨ peekL (s.data.toList.drop p) = 125)) :
    Calls Tryd.prog 37 #[.pointer (some ⟨b, 0, none⟩)] w (TokPost (tokR s.data.toList p) b s o e1 e2 w) := by
  have c1 := blk_at h0 1 rfl
  have hlt := blk_lt h0
  have hpe : peekI s p = peekL (s.data.toList.drop p) := peekI_eq s p
  obtain ⟨c, hc⟩ : ∃ c, peekL (s.data.toList.drop p) = c := ⟨_, rfl⟩
  have HC := Lib.hid hc
  have hF : ¬ (97 ≤ c ∧ c ≤ 122) ∧ ¬ c = 48 ∧ ¬ (49 ≤ c ∧ c ≤ 57) ∧ ¬ c = 34 ∧ ¬ (c = 60 ∨ c = 123 ∨ c = 125) := by rw [← hc]; exact hX
  clear hX
  have HP := Lib.hid (hpe.trans hc)
  clear hpe hc
  have T1 : TokS w b s o e1 e2 p ⟨0, [], 0, p⟩ ((w.alloc (.cells #[.int .i64 0, .string ⟨#[]⟩, .int .i64 0, .int .i64 0] 37)).alloc (.cells #[.int .i64 0, .string ⟨#[]⟩, .int .i64 0, .int .i64 p] 37)) :=
    ⟨blk_alloc (blk_alloc h0 _) _, blk_alloc (blk_new _ _) _, by have := blk_new (w.alloc (.cells #[.int .i64 0, .string ⟨#[]⟩, .int .i64 0, .int .i64 0] 37)) (.cells #[.int .i64 0, .string ⟨#[]⟩, .int .i64 0, .int .i64 p] 37); simpa using this, ((Keeps.refl _ _).alloc _).alloc _, hlt⟩
  obtain ⟨R, hR⟩ : ∃ R, tokR s.data.toList p = R := ⟨_, rfl⟩
  rw [hR]
  have HR := Lib.hid hR
  clear hR
  go_enter Tryd.func37, Tryd.ntmps37
  go_wp2_with fail
  refine (peek_c b p s _ _ T1.hb rfl rfl).mono ?_
  rintro e w2 ⟨rfl, hk2⟩
  rw [HP.out]
  have T2 := T1.move hk2
  clear T1 hk2 c1 h0
  have d0 := blk_at T2.h2 0 rfl
  have d1 := blk_at T2.h2 1 rfl
  have d2 := blk_at T2.h2 2 rfl
  have d3 := blk_at T2.h2 3 rfl
  have g0 := blk_at T2.h4 0 rfl
  have g1 := blk_at T2.h4 1 rfl
  have g2 := blk_at T2.h4 2 rfl
  have g3 := blk_at T2.h4 3 rfl
  have f0 := blk_frozen T2.h2 0
  have f1 := blk_frozen T2.h2 1
  have f2 := blk_frozen T2.h2 2
  have f3 := blk_frozen T2.h2 3
  have k0 := blk_frozen T2.h4 0
  have k1 := blk_frozen T2.h4 1
  have k2 := blk_frozen T2.h4 2
  have k3 := blk_frozen T2.h4 3
  have r0 := blk_at T2.hb 0 rfl
  have r1 := blk_at T2.hb 1 rfl
  have rf := blk_frozen T2.hb 1
  obtain ⟨hA, hB, hC, hD, hE⟩ := hF
  have hB' : (c == 48) = false := by simp [hB]
  have hD' : (c == 34) = false := by simp [hD]
  have hE1 : (c == 60) = false := by simp; omega
  have hE2 : (c == 123) = false := by simp; omega
  have hE3 : (c == 125) = false := by simp; omega
  have hE4 : ¬ ((c == 60) || ((c == 123) || (c == 125))) = true := by simp [hE1, hE2, hE3]
  have hRR : R = (⟨0, [], 0, p⟩, 6, p) := by
    rw [← HR.out]
    unfold tokR
    simp only [HC.out]
    rw [if_neg hA, if_neg (by rw [hB']; simp), if_neg hC, if_neg (by rw [hD']; simp), if_neg hE4]
  have HRR := Lib.hid hRR
  clear hRR
  have HA := Lib.hid hA
  have HC' := Lib.hid hC
  clear hA hB hC hD hE hE4
  by_cases hA1 : 97 ≤ c
  · have hA2 : ¬ c ≤ 122 := by have := HA.out; omega
    have hC1 : 49 ≤ c := by omega
    have hC2 : ¬ c ≤ 57 := by omega
    go_wp2_with fail
    all_goals exact bodyPost_ret (by simp [results, Tryd.results37, go_sem, d0, d1, d2, d3]) rfl (tok_end T2 6 HRR.out)
  · by_cases hC1 : 49 ≤ c
    · have hC2 : ¬ c ≤ 57 := by have := HC'.out; omega
      go_wp2_with fail
      all_goals exact bodyPost_ret (by simp [results, Tryd.results37, go_sem, d0, d1, d2, d3]) rfl (tok_end T2 6 HRR.out)
    · go_wp2_with fail
      all_goals exact bodyPost_ret (by simp [results, Tryd.results37, go_sem, d0, d1, d2, d3]) rfl (tok_end T2 6 HRR.out)

theorem token_c (b p : Nat) (s : ByteArray) (o e1 e2 : Value) (w : World) (hs : s.size ≤ 1000000) (hp : p ≤ s.size) (h0 : w.heap[b]? = some (.cells #[.string s, .int .i64 p, o, e1, e2] 77 (0, 0))) :
    Calls Tryd.prog 37 #[.pointer (some ⟨b, 0, none⟩)] w (TokPost (tokR s.data.toList p) b s o e1 e2 w) := by
  by_cases hA : 97 ≤ peekL (s.data.toList.drop p) ∧ peekL (s.data.toList.drop p) ≤ 122
  · exact token_word b p s o e1 e2 w hs hp h0 hA
  by_cases hB : peekL (s.data.toList.drop p) = 48
  · exact token_zero b p s o e1 e2 w hs hp h0 hB
  by_cases hC : 49 ≤ peekL (s.data.toList.drop p) ∧ peekL (s.data.toList.drop p) ≤ 57
  · exact token_num b p s o e1 e2 w hs hp h0 hC
  by_cases hD : peekL (s.data.toList.drop p) = 34
  · exact token_text b p s o e1 e2 w hs hp h0 hD
  by_cases hE : peekL (s.data.toList.drop p) = 60 ∨ peekL (s.data.toList.drop p) = 123 ∨ peekL (s.data.toList.drop p) = 125
  · exact token_sign b p s o e1 e2 w hs hp h0 hE
  · exact token_else b p s o e1 e2 w hs hp h0 ⟨hA, hB, hC, hD, hE⟩
end Go.Proofs.YtonjhdmnndffkaaDoor
