/- lex.reader: peek, run. -/
import Derived.Test.YtonjhdmnndffkaaDoorLeaf
import Derived.Deep.LoopGhost
import Derived.Deep.RegionHeld3
namespace Go.Proofs.YtonjhdmnndffkaaDoor
open Go.RowKit
set_option maxRecDepth 100000
set_option linter.unusedSimpArgs false
set_option linter.unusedVariables false

theorem data_get (s : ByteArray) (p : Nat) (h : p < s.size) : s.data.toList.drop p = s[p] :: s.data.toList.drop (p + 1) := by
  have h' : p < s.data.toList.length := by rw [Array.length_toList]; exact h
  rw [List.drop_eq_getElem_cons h']; rfl
theorem data_end (s : ByteArray) (p : Nat) (h : s.size ≤ p) : s.data.toList.drop p = [] := by
  apply List.drop_eq_nil_of_le; rw [Array.length_toList]; exact h
def peekI (s : ByteArray) (p : Nat) : Int := if h : p < s.size then (s[p].toNat : Int) else 10

theorem peek_c (b p : Nat) (s : ByteArray) (cs : Array Value) (w : World) (h0 : w.heap[b]? = some (.cells cs 77 (0, 0))) (hs : cs[0]? = some (.string s)) (hp : cs[1]? = some (.int .i64 p)) :
    Calls Tryd.prog 35 #[.pointer (some ⟨b, 0, none⟩)] w fun e w' => e = .returned (.int .u8 (peekI s p)) ∧ Keeps noB w w' := by
  have c0 := blk_at h0 0 hs
  have c1 := blk_at h0 1 hp
  clear h0 hs hp
  by_cases hlt : p < s.size
  · go_enter Tryd.func35, Tryd.ntmps35
    go_wp2
    go_quiet (fail)
    go_wp2
    go_quiet (fail)
    go_wp2
    go_ret
    exact ⟨ret_int (by simp [peekI, hlt]), ((Keeps.refl _ _).drewN _).drewN _⟩
  · go_enter Tryd.func35, Tryd.ntmps35
    go_wp2
    go_quiet (fail)
    go_wp2
    go_ret
    exact ⟨ret_int (by simp [peekI, hlt]), (Keeps.refl _ _).drewN _⟩

theorem peekI_eq (s : ByteArray) (p : Nat) : peekI s p = peekL (s.data.toList.drop p) := by
  unfold peekI
  split
  · rename_i h; rw [data_get s p h]; rfl
  · rename_i h; rw [data_end s p (by omega)]; rfl

theorem ext_take (s : ByteArray) (p q : Nat) (h : p ≤ q) (hq : q ≤ s.size) : s.extract p q = ⟨((s.data.toList.drop p).take (q - p)).toArray⟩ := by
  apply ByteArray.ext
  apply Array.toList_inj.1
  rw [Lib.extract_data]

theorem ext_drop (s : ByteArray) (p : Nat) : (s.extract p s.size).data.toList = s.data.toList.drop p := by
  rw [Lib.extract_data]
  exact List.take_of_length_le (by rw [List.length_drop, Array.length_toList]; exact Nat.le_refl _)
theorem str_len (s : ByteArray) : s.data.toList.length = s.size := by rw [Array.length_toList]; rfl

/-- How 'run' ends: N bytes may be, at most m are taken. -/
def RunPost (N b p m : Nat) (s : ByteArray) (o e1 e2 : Value) (w : World) (e : Ending) (w' : World) : Prop :=
  (if N ≤ m
    then e = .returned (.tuple #[.string ⟨((s.data.toList.drop p).take N).toArray⟩, .bool true]) ∧ w'.heap[b]? = some (.cells #[.string s, .int .i64 ((p + N : Nat) : Int), o, e1, e2] 77 (0, 0))
    else e = .returned (.tuple #[.string ⟨#[]⟩, .bool false]) ∧ w'.heap[b]? = some (.cells #[.string s, .int .i64 ((p + m : Nat) : Int), o, e1, e2] 77 (0, 0))) ∧ Keeps (fun k => k = b) w w'

theorem run_c (K : FuncId) (may : Int → Bool) (hE : ∀ (args : Array Value) (W : World), (callFunc K args).run Tryd.prog W = .ok (.enter K args) W)
    (hK : Hid (∀ (c : Int) (W : World), Calls Tryd.prog K #[.int .u8 c] W fun e W' => e = .returned (.bool (may c)) ∧ W' = W))
    (b p m : Nat) (s : ByteArray) (o e1 e2 : Value) (w : World) (hs : s.size ≤ 1000000) (hm : m ≤ 1000) (hp : p ≤ s.size) (h0 : w.heap[b]? = some (.cells #[.string s, .int .i64 p, o, e1, e2] 77 (0, 0))) :
    Calls Tryd.prog 57 #[.pointer (some ⟨b, 0, none⟩), .int .i64 m, .func (.func K) #[] #[]] w (RunPost (runN may (s.data.toList.drop p)) b p m s o e1 e2 w) := by
  obtain ⟨N, hN⟩ : ∃ N, runN may (s.data.toList.drop p) = N := ⟨_, rfl⟩
  rw [hN]
  have HN := Lib.hid hN
  clear hN
  have c0 := blk_at h0 0 rfl
  have c1 := blk_at h0 1 rfl
  have f1 := blk_frozen h0 1
  go_enter Tryd.func57, Tryd.ntmps57
  go_wp2
  go_loopg [] (s.size - p) (fun k wr => ∃ q : Nat, N + p = q + runN may (s.data.toList.drop q) ∧ k + q = s.size ∧ p ≤ q ∧ q ≤ p + m ∧ wr.heap[b]? = some (.cells #[.string s, .int .i64 (q : Int), o, e1, e2] 77 (0, 0)) ∧ Keeps (fun k => k = b) w wr)
  case atStart => exact ⟨p, by rw [HN.out]; omega, by omega, by omega, by omega, h0, Keeps.refl _ _⟩
  case round =>
    obtain ⟨q, hNj, hkj, hpq0, hjm, hb, hkr⟩ := hrel
    have HJ := Lib.hid hNj
    have HKJ := Lib.hid hkj
    have HKR := Lib.hid hkr
    have hle : q ≤ s.size := by omega
    clear hNj hkj c0 c1 f1 h0 hkr
    have c0 := blk_at hb 0 rfl
    have c1 := blk_at hb 1 rfl
    have f1 := blk_frozen hb 1
    have hu1 : 0 ≤ (q : Int) ∧ (q : Int) ≤ (s.size : Int) := by omega
    have hu2 : 0 ≤ (p : Int) ∧ (p : Int) ≤ (q : Int) := by omega
    by_cases hlt : q < s.size
    · have HD := Lib.hid (data_get s q hlt)
      by_cases hmay : may (s[q].toNat : Int) = true
      · have HM := Lib.hid hmay
        have HN1 := Lib.hid (show runN may (s.data.toList.drop q) = runN may (s.data.toList.drop (q + 1)) + 1 by rw [HD.out]; simp [runN, HM.out])
        clear hmay
        go_wp2
        go_quiet ((exact Calls.quiet_of_same (hK.out _ _)))
        rw [HM.out]
        by_cases hjm' : q = p + m
        · have heq : (((q : Int) - (p : Int)) == (m : Int)) = true := by simp; omega
          have HQ := Lib.hid hjm'
          clear hjm'
          go_wp2
          go_ret2
          have hgt : ¬ N ≤ m := by have h1 := HJ.out; have h2 := HN1.out; have h3 := HQ.out; omega
          unfold RunPost
          rw [if_neg hgt]
          exact ⟨⟨rfl, by rw [← HQ.out]; exact hb⟩, HKR.out.drewN _⟩
        · have heq : (((q : Int) - (p : Int)) == (m : Int)) = false := by simp; omega
          go_wp2
          go_roundg (s.size - (q + 1))
          case measure => have := HKJ.out; omega
          case rel =>
            refine ⟨q + 1, by have h1 := HJ.out; have h2 := HN1.out; omega, by omega, by omega, by omega, by simpa using blk_set (w := wr.drewN nq) hb 1 (.int .i64 ((q : Int) + 1)), ?_⟩
            exact (HKR.out.drewN nq).setCell ⟨b, 1, none⟩ (.int .i64 ((q : Int) + 1)) (.inl rfl)
      · have HM := Lib.hid (Bool.eq_false_iff.2 hmay)
        clear hmay
        have HZ := Lib.hid (show runN may (s.data.toList.drop q) = 0 by rw [HD.out]; simp [runN, HM.out])
        go_wp2
        go_quiet ((exact Calls.quiet_of_same (hK.out _ _)))
        rw [HM.out]
        go_wp2
        go_quiet (fail)
        go_wp2
        go_ret2
        have hjN : N = q - p := by have h1 := HJ.out; have h2 := HZ.out; omega
        unfold RunPost
        rw [if_pos (by omega)]
        have hpq : p + N = q := by omega
        refine ⟨⟨?_, by rw [hpq]; exact hb⟩, (HKR.out.drewN _).drewN _⟩
        rw [hjN, ← ext_take s p q hpq0 hle]
        rfl
    · have HZ := Lib.hid (show runN may (s.data.toList.drop q) = 0 by rw [data_end s q (by omega)]; rfl)
      go_wp2
      go_quiet (fail)
      go_wp2
      go_quiet (fail)
      go_wp2
      go_ret2
      have hjN : N = q - p := by have h1 := HJ.out; have h2 := HZ.out; omega
      unfold RunPost
      rw [if_pos (by omega)]
      have hpq : p + N = q := by omega
      refine ⟨⟨?_, by rw [hpq]; exact hb⟩, (HKR.out.drewN _).drewN _⟩
      rw [hjN, ← ext_take s p q hpq0 hle]
      rfl
theorem takeWhile_all (may : Int → Bool) (l : List UInt8) : ∀ x ∈ l.take (runN may l), may x.toNat = true := by
  induction l with
  | nil => simp
  | cons c l ih =>
    unfold runN at ih ⊢
    by_cases h : may c.toNat = true
    · simp only [List.takeWhile_cons, h, if_true, List.length_cons, List.take_succ_cons, List.mem_cons]
      rintro x (rfl | hx)
      · exact h
      · exact ih x hx
    · simp [List.takeWhile_cons, h]
theorem run_digits (l : List UInt8) : ∀ x ∈ l.take (runN digitB l), 48 ≤ x.toNat ∧ x.toNat ≤ 57 := fun x hx => by
  have := takeWhile_all digitB l x hx
  simp [digitB] at this
  omega
theorem num_snoc (l : List UInt8) (k : Nat) (h : k < l.length) : numL (l.take (k + 1)) = 10 * numL (l.take k) + ((l[k].toNat : Int) - 48) := by
  unfold numL
  rw [List.take_succ_eq_append_getElem h, List.foldl_append]
  rfl
theorem num_bound0 (l : List UInt8) : ∀ (a : Int), 0 ≤ a → (∀ x ∈ l, 48 ≤ x.toNat ∧ x.toNat ≤ 57) → 0 ≤ l.foldl (fun n c => 10 * n + ((c.toNat : Int) - 48)) a ∧ l.foldl (fun n c => 10 * n + ((c.toNat : Int) - 48)) a < (a + 1) * 10 ^ l.length := by
  induction l with
  | nil => intro a ha _; simp; omega
  | cons c l ih =>
    intro a ha h
    have h2 := h c (by simp)
    have h1 := ih (10 * a + ((c.toNat : Int) - 48)) (by omega) (fun x hx => h x (by simp [hx]))
    simp only [List.foldl_cons, List.length_cons, Int.pow_succ]
    refine ⟨h1.1, Int.lt_of_lt_of_le h1.2 ?_⟩
    have h3 : 10 * a + ((c.toNat : Int) - 48) + 1 ≤ (a + 1) * 10 := by omega
    have h4 : (0 : Int) ≤ 10 ^ l.length := Int.pow_nonneg (by omega)
    calc (10 * a + ((c.toNat : Int) - 48) + 1) * 10 ^ l.length ≤ ((a + 1) * 10) * 10 ^ l.length := Int.mul_le_mul_of_nonneg_right h3 h4
      _ = (a + 1) * (10 ^ l.length * 10) := by rw [Int.mul_assoc, Int.mul_comm 10]
theorem num_bound (l : List UInt8) (h : ∀ x ∈ l, 48 ≤ x.toNat ∧ x.toNat ≤ 57) : 0 ≤ numL l ∧ numL l < 10 ^ l.length := by
  have := num_bound0 l 0 (by omega) h
  simpa [numL] using this
theorem num_small (l : List UInt8) (h : 0 ≤ numL l ∧ numL l < 10 ^ l.length) (hl : l.length ≤ 4) : 0 ≤ numL l ∧ numL l < 10000 := by
  obtain ⟨h1, h2⟩ := h
  refine ⟨h1, ?_⟩
  have : l.length = 0 ∨ l.length = 1 ∨ l.length = 2 ∨ l.length = 3 ∨ l.length = 4 := by omega
  rcases this with e | e | e | e | e <;> rw [e] at h2 <;> simp at h2 <;> omega
theorem runN_le (may : Int → Bool) (l : List UInt8) : runN may l ≤ l.length := (List.takeWhile_sublist _).length_le
end Go.Proofs.YtonjhdmnndffkaaDoor
