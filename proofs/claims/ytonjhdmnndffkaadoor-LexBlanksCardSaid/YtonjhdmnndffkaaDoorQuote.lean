/- pattern.sign, pattern.Quote. -/
import Derived.Test.YtonjhdmnndffkaaDoorLeaf
import Derived.Test.YtonjhdmnndffkaaDoorBuilder
import Derived.Test.YtonjhdmnndffkaaDoorScanC
import Derived.Test.YtonjhdmnndffkaaDoorReader
namespace Go.Proofs.YtonjhdmnndffkaaDoor
open Go.RowKit
set_option maxRecDepth 100000
set_option linter.unusedSimpArgs false
set_option linter.unusedVariables false


theorem conv_bytes (W : World) (l : List UInt8) (cap : Nat) (cs : Array Value) (h : cs = (l.map fun b => Value.int .u8 b.toNat).toArray) :
    (convert 68 9 (.slice (some ⟨W.heap.size, 0, none⟩) l.length cap)).run Tryd.prog (W.alloc (.cells cs 5)) = .ok (.string ⟨l.toArray⟩) (W.alloc (.cells cs 5)) := by
  subst h
  refine run_convert_bytes_back _ _ _ 5 ⟨W.heap.size, 0, none⟩ cap l Tryd.underlying68 Tryd.underlying5 Tryd.underlying9 ?_
  intro j hj
  rw [add_plain, blk_cell (blk_new _ _)]
  simp [hj]

theorem short_byte (u : UInt8) : ∃ x : UInt8, (shortB u.toNat).1 = (x.toNat : Int) := by
  unfold shortB
  repeat' split
  · exact ⟨u, rfl⟩
  · exact ⟨u, rfl⟩
  · exact ⟨110, rfl⟩
  · exact ⟨114, rfl⟩
  · exact ⟨116, rfl⟩
  · exact ⟨0, rfl⟩

theorem hex_at (i : Int) : ∀ h : i.toNat < 16, ((⟨#[48, 49, 50, 51, 52, 53, 54, 55, 56, 57, 97, 98, 99, 100, 101, 102]⟩ : ByteArray)[i.toNat]'h).toNat = (hexd i.toNat).toNat := by
  intro h
  generalize i.toNat = n at h ⊢
  simp only [hexd, hexL]
  match n, h with
  | 0, _ | 1, _ | 2, _ | 3, _ | 4, _ | 5, _ | 6, _ | 7, _ | 8, _ | 9, _ | 10, _ | 11, _ | 12, _ | 13, _ | 14, _ | 15, _ => rfl
  | n + 16, h => omega

theorem sign_c (u : UInt8) (w : World) : Calls Tryd.prog 63 #[.int .u8 (u.toNat : Int)] w fun e w' => e = .returned (.string ⟨(signL u).toArray⟩) ∧ Keeps noB w w' := by
  by_cases hp : plainB u.toNat = true
  · have hc := conv_bytes w [u] 1 _ rfl
    have Hp := Lib.hid hp
    clear hp
    simp only [List.map, List.length_cons, List.length_nil, Nat.zero_add] at hc
    go_enter Tryd.func63, Tryd.ntmps63
    go_wp2_with fail
    refine (plain_c _ _).mono ?_; rintro e w' ⟨rfl, rfl⟩; rw [Hp.out]
    go_wp2_with fail
    go_ret
    exact ⟨ret_str (by simp [signL, Hp.out]), (Keeps.refl _ _).alloc _⟩
  · have Hp := Lib.hid (Bool.eq_false_iff.2 hp)
    clear hp
    by_cases hs : (shortB u.toNat).2 = true
    · obtain ⟨x, hx⟩ : ∃ x : UInt8, (shortB u.toNat).1 = (x.toNat : Int) := short_byte u
      have hc : (convert 68 9 (.slice (some ⟨w.heap.size, 0, none⟩) 2 2)).run Tryd.prog (w.alloc (.cells #[.int .u8 92, .int .u8 (x.toNat : Int)] 5)) = .ok (.string ⟨#[92, x]⟩) (w.alloc (.cells #[.int .u8 92, .int .u8 (x.toNat : Int)] 5)) := conv_bytes w [92, x] 2 _ rfl
      have Hs := Lib.hid hs
      have Hx := Lib.hid hx
      clear hs hx
      go_enter Tryd.func63, Tryd.ntmps63
      go_wp2_with fail
      refine (plain_c _ _).mono ?_; rintro e w' ⟨rfl, rfl⟩; rw [Hp.out]
      go_wp2_with fail
      refine (short_c _ _).mono ?_; rintro e w' ⟨rfl, rfl⟩; rw [Hs.out, Hx.out]
      go_wp2_with fail
      go_ret
      exact ⟨ret_str (by simp [signL, Hp.out, Hs.out, Hx.out]), (Keeps.refl _ _).alloc _⟩
    · have Hs := Lib.hid (Bool.eq_false_iff.2 hs)
      clear hs
      have hu := u.toNat_lt
      have hb := u8_and15 (x := (u.toNat : Int)) (by omega) (by omega)
      have h1 : 0 ≤ (u.toNat : Int) / 16 ∧ (u.toNat : Int) / 16 < 16 := by omega
      have h2 : 0 ≤ (u.toNat : Int) % 16 ∧ (u.toNat : Int) % 16 < 16 := by omega
      have e1 := hex_at ((u.toNat : Int) / 16)
      have e2 := hex_at ((u.toNat : Int) % 16)
      have hc : (convert 68 9 (.slice (some ⟨w.heap.size, 0, none⟩) 4 4)).run Tryd.prog (w.alloc (.cells #[.int .u8 92, .int .u8 120, .int .u8 ((hexd ((u.toNat : Int) / 16).toNat).toNat : Int), .int .u8 ((hexd ((u.toNat : Int) % 16).toNat).toNat : Int)] 5)).drew = .ok (.string ⟨#[92, 120, hexd ((u.toNat : Int) / 16).toNat, hexd ((u.toNat : Int) % 16).toNat]⟩) (w.alloc (.cells #[.int .u8 92, .int .u8 120, .int .u8 ((hexd ((u.toNat : Int) / 16).toNat).toNat : Int), .int .u8 ((hexd ((u.toNat : Int) % 16).toNat).toNat : Int)] 5)).drew := conv_bytes w.drew [92, 120, hexd ((u.toNat : Int) / 16).toNat, hexd ((u.toNat : Int) % 16).toNat] 4 _ rfl
      go_enter Tryd.func63, Tryd.ntmps63
      go_wp2_with fail
      refine (plain_c _ _).mono ?_; rintro e w' ⟨rfl, rfl⟩; rw [Hp.out]
      go_wp2_with fail
      refine (short_c _ _).mono ?_; rintro e w' ⟨rfl, rfl⟩; rw [Hs.out]
      go_wp2_with fail
      go_region
      all_goals
        go_wp2
        go_ret
        have g1 : ((u.toNat : Int) / 16).toNat = u.toNat / 16 := by omega
        have g2 : ((u.toNat : Int) % 16).toNat = u.toNat % 16 := by omega
        exact ⟨ret_str (by simp [signL, Hp.out, Hs.out, g1, g2]), ((Keeps.refl _ _).alloc _).drew⟩

theorem signL_le (u : UInt8) : (signL u).length ≤ 4 := by
  unfold signL
  repeat' split
  all_goals simp
theorem quoteB_le (l : List UInt8) : (quoteB l).length ≤ 4 * l.length := by
  induction l with
  | nil => simp [quoteB]
  | cons u l ih =>
    have := signL_le u
    simp only [quoteB, List.flatMap_cons, List.length_append, List.length_cons] at ih ⊢
    omega
theorem quoteB_snoc (l : List UInt8) (u : UInt8) : quoteB (l ++ [u]) = quoteB l ++ signL u := by simp [quoteB]
theorem take_snoc (s : ByteArray) (k : Nat) (h : k < s.size) : s.data.toList.take (k + 1) = s.data.toList.take k ++ [s[k]] := by
  rw [List.take_succ_eq_append_getElem (by simpa using h)]; rfl

theorem Quote_c (s : ByteArray) (w : World) (hs : s.size ≤ 1000000) : Calls Tryd.prog 39 #[.string s] w fun e w' => e = .returned (.string ⟨(quoteL s.data.toList).toArray⟩) ∧ Keeps noB w w' := by
  have hT : BTy 110 := .inl rfl
  have hD : ∀ i, i < w.heap.size → ∀ W, ¬ BldD w.heap.size w.heap.size W i := fun i hi W h => by rcases h with h | h <;> omega
  have hD' := Lib.hid hD
  clear hD
  have hb := Bld.new 110 w.heap.size w (Nat.le_refl _)
  have hk0 := (Keeps.refl noB w).alloc (.cells #[.pointer none, .slice none 0 0] 110)
  go_enter Tryd.func39, Tryd.ntmps39
  go_wp2_with fail
  refine (WriteByte_c 110 hT w.heap.size w.heap.size [] 34 _ hb (by decide) (by simp)).mono ?_
  rintro e w1 ⟨rfl, hb1, hk1⟩
  have hk1 := hk0.step hk1 fun i hi hx => absurd hx (hD'.out i hi _)
  clear hb hk0
  go_wp2_with fail
  go_loopw [8] (fun i wr => ∃ k : Nat, k ≤ s.size ∧ i = .int .i64 k ∧ Bld 110 w.heap.size w.heap.size (34 :: quoteB (s.data.toList.take k)) wr ∧ Keeps noB w wr) (fun i _ => s.size - (intOf i).toNat)
  case atStart => exact ⟨0, Nat.zero_le _, rfl, by simpa [quoteB] using hb1, hk1⟩
  case round =>
    obtain ⟨k, hk, rfl, hbr, hkr⟩ := hrel
    clear hb1 hk1
    have hq := quoteB_le (s.data.toList.take k)
    have hl : (s.data.toList.take k).length ≤ k := List.length_take_le _ _
    have hsz := hkr.size
    by_cases hlt : k < s.size
    · have HS := Lib.hid (take_snoc s k hlt)
      go_wp2_with fail
      refine (sign_c _ _).mono ?_
      rintro e w2 ⟨rfl, hk2⟩
      have hb2 := hbr.keep hk2 (fun h => h) (fun _ _ _ _ h => h)
      have hs4 := signL_le s[k]
      have hsz2 := hk2.size
      have hkr2 := hkr.quiet hk2
      clear hbr hkr
      go_wp2_with fail
      refine (WriteString_c 110 hT w.heap.size w.heap.size _ ⟨(signL s[k]).toArray⟩ _ hb2 ?_ (by omega)).mono ?_
      · rw [mk_size]; simp only [List.length_cons]; omega
      rintro e w3 ⟨rfl, hb3, hk3⟩
      have hkr3 := hkr2.step hk3 fun i hi hx => absurd hx (hD'.out i hi _)
      clear hkr2 hb2 hk2 hk3
      go_wp2_with fail
      go_roundw
      case rel => exact ⟨k + 1, by omega, by go_num, by rw [HS.out, quoteB_snoc]; simpa using hb3, hkr3⟩
      case measure => simp [intOf]; omega
    · have hk2 : s.data.toList.take k = s.data.toList := List.take_of_length_le (by rw [str_len]; omega)
      rw [hk2] at hbr hq
      rw [str_len] at hq
      clear hl hk2
      go_wp2_with fail
      refine (WriteByte_c 110 hT w.heap.size w.heap.size _ 34 _ hbr (by simp; omega) (by omega)).mono ?_
      rintro e w2 ⟨rfl, hb2, hk2⟩
      have hkr2 := hkr.step hk2 fun i hi hx => absurd hx (hD'.out i hi _)
      clear hkr hk2 hbr
      go_wp2_with fail
      refine (String_c 110 w.heap.size w.heap.size _ _ hb2 (by simp)).mono ?_
      rintro e w3 ⟨rfl, hk3⟩
      go_wp2_with fail
      go_ret
      refine ⟨ret_str (by simp [quoteL]), ?_⟩
      exact hkr2.step (D' := fun i => w.heap.size ≤ i) ⟨hk3.os, hk3.tape, hk3.output, hk3.size, fun k hk hn => hk3.block k (by omega)⟩ fun i hi hx => by omega
end Go.Proofs.YtonjhdmnndffkaaDoor
