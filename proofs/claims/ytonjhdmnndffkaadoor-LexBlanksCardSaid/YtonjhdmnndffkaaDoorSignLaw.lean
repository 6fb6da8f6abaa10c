/- The text in quotes and the numbers: what is written is read back, and stands there as it would be written. -/
import Derived.Test.YtonjhdmnndffkaaDoorPure
import Derived.Lib.ItoaNum
namespace Go.Proofs.YtonjhdmnndffkaaDoor
set_option linter.unusedSimpArgs false
set_option linter.unusedVariables false
set_option maxRecDepth 100000

theorem sgHex_app {l : List UInt8} {c : UInt8} {n : Nat} (h : sgHex l = .got c n) (r : List UInt8) : sgHex (l ++ r) = .got c n := by
  match l with
  | [] => simp [sgHex] at h
  | [a] => simp only [sgHex] at h; split at h <;> simp at h
  | a :: b :: l => simpa [sgHex] using h
theorem sgEsc_app {l : List UInt8} {c : UInt8} {n : Nat} (h : sgEsc l = .got c n) (r : List UInt8) : sgEsc (l ++ r) = .got c n := by
  match l with
  | [] => simp [sgEsc] at h
  | a :: l =>
    simp only [sgEsc, List.cons_append] at h ⊢
    split
    · rename_i h1
      rw [if_pos h1] at h
      split
      · rename_i h2; rw [if_pos h2] at h; exact h
      · rename_i h2
        rw [if_neg h2] at h
        split
        · rename_i h3; rw [if_pos h3] at h; exact h
        · rename_i h3
          rw [if_neg h3] at h
          split
          · rename_i h4; rw [if_pos h4] at h; exact h
          · rename_i h4
            rw [if_neg h4] at h
            split
            · rename_i h5; rw [if_pos h5] at h; exact sgHex_app h r
            · rename_i h5; rw [if_neg h5] at h; exact h
    · rename_i h1; rw [if_neg h1] at h; simp at h
theorem sg_app {l : List UInt8} {c : UInt8} {n : Nat} (h : sg l = .got c n) (r : List UInt8) : sg (l ++ r) = .got c n := by
  match l with
  | [] => simp [sg] at h
  | a :: l =>
    simp only [sg, List.cons_append] at h ⊢
    split
    · rename_i h1
      rw [if_pos h1] at h
      split
      · rename_i h2; rw [if_pos h2] at h; exact sgEsc_app h r
      · rename_i h2; rw [if_neg h2] at h; exact h
    · rename_i h1; rw [if_neg h1] at h; simp at h
theorem byte_all (P : UInt8 → Prop) (h : ∀ n : Fin 256, P (UInt8.ofNat n.val)) (c : UInt8) : P c := by
  have := h ⟨c.toNat, c.toNat_lt⟩
  simpa using this
theorem sg_sign (c : UInt8) : sg (signL c) = .got c (signL c).length := byte_all (fun c => sg (signL c) = .got c (signL c).length) (by decide +kernel) c
theorem sign_head (c : UInt8) : (signL c).head? ≠ some 34 ∧ signL c ≠ [] := byte_all (fun c => (signL c).head? ≠ some 34 ∧ signL c ≠ []) (by decide +kernel) c
theorem hex_sound (c : UInt8) : 0 ≤ hexI c → hexI c < 16 ∧ hexd (hexI c).toNat = c := byte_all (fun c => 0 ≤ hexI c → hexI c < 16 ∧ hexd (hexI c).toNat = c) (by decide +kernel) c
theorem high_hexL (c : UInt8) : highB c.toNat = true → 0 ≤ hexI c := byte_all (fun c => highB c.toNat = true → 0 ≤ hexI c) (by decide +kernel) c
theorem esc_sound (c : UInt8) : escB c = true → c = 110 ∨ c = 114 ∨ c = 116 ∨ c = 120 ∨ signL c = [92, c] := byte_all (fun c => escB c = true → c = 110 ∨ c = 114 ∨ c = 116 ∨ c = 120 ∨ signL c = [92, c]) (by decide +kernel) c
theorem sgHex_sound {l : List UInt8} {c : UInt8} {n : Nat} (h : sgHex l = .got c n) : n = 4 ∧ ∃ r, 92 :: 120 :: l = signL c ++ r := by
  match l with
  | [] => simp [sgHex] at h
  | [a] => simp only [sgHex] at h; split at h <;> simp at h
  | a :: b :: r =>
    simp only [sgHex] at h
    split at h
    · rename_i h1
      split at h
      · rename_i h2
        injection h with hc hn
        have ha := hex_sound a (high_hexL a h1)
        have ha0 := high_hexL a h1
        have hb0 : 0 ≤ hexI b := by
          rcases (by omega : hexI b < 0 ∨ 0 ≤ hexI b) with hx | hx
          · unfold lowB at h2; rw [if_pos hx] at h2; simp at h2
          · exact hx
        have hb := hex_sound b hb0
        have hcn : (c.toNat : Int) = hexI a * 16 + hexI b := by
          rw [← hc, UInt8.toNat_ofNat_of_lt' (by simp [UInt8.size]; omega)]; omega
        unfold lowB at h2
        rw [if_neg (by omega)] at h2
        simp only [Bool.and_eq_true, Bool.not_eq_true'] at h2
        refine ⟨hn.symm, r, ?_⟩
        have hs : signL c = [92, 120, a, b] := by
          unfold signL
          rw [hcn, h2.1, h2.2]
          simp only [Bool.false_eq_true, if_false]
          have h16 : c.toNat / 16 = (hexI a).toNat := by omega
          have h17 : c.toNat % 16 = (hexI b).toNat := by omega
          rw [h16, h17, ha.2, hb.2]
        rw [hs]; rfl
      · simp at h
    · simp at h
theorem sign10 : signL 10 = [92, 110] := by decide +kernel
theorem sign13 : signL 13 = [92, 114] := by decide +kernel
theorem sign9 : signL 9 = [92, 116] := by decide +kernel
theorem sgEsc_sound {l : List UInt8} {c : UInt8} {n : Nat} (h : sgEsc l = .got c n) : n = (signL c).length ∧ ∃ r, 92 :: l = signL c ++ r := by
  match l with
  | [] => simp [sgEsc] at h
  | a :: r =>
    simp only [sgEsc] at h
    split at h
    · rename_i h1
      have hb : ∀ x : UInt8, (a.toNat : Int) = x.toNat → a = x := fun x hx => UInt8.toNat_inj.1 (by omega)
      split at h
      · rename_i h2
        injection h with hc hn
        obtain rfl : a = 110 := hb 110 (by simpa using h2)
        subst hc; rw [sign10]
        exact ⟨hn.symm, r, rfl⟩
      · rename_i h2
        split at h
        · rename_i h3
          injection h with hc hn
          obtain rfl : a = 114 := hb 114 (by simpa using h3)
          subst hc; rw [sign13]
          exact ⟨hn.symm, r, rfl⟩
        · rename_i h3
          split at h
          · rename_i h4
            injection h with hc hn
            obtain rfl : a = 116 := hb 116 (by simpa using h4)
            subst hc; rw [sign9]
            exact ⟨hn.symm, r, rfl⟩
          · rename_i h4
            split at h
            · rename_i h5
              obtain rfl : a = 120 := hb 120 (by simpa using h5)
              obtain ⟨hn, r', hr⟩ := sgHex_sound h
              have hg := sg_sign c
              have hlen : (signL c).length = 4 := by
                have h6 := sg_app hg r'
                rw [← hr] at h6
                have h7 : sg (92 :: 120 :: r) = .got c n := by
                  have : sgEsc (120 :: r) = .got c n := by simp only [sgEsc]; rw [if_pos h1]; simpa using h
                  simp only [sg]
                  simpa [bodyB] using this
                rw [h7] at h6
                injection h6 with _ h8
                omega
              exact ⟨by omega, r', hr⟩
            · rename_i h5
              injection h with hc hn
              subst hc
              have := esc_sound a h1
              rcases this with rfl | rfl | rfl | rfl | hx
              · simp at h2
              · simp at h3
              · simp at h4
              · simp at h5
              · rw [hx]; exact ⟨hn.symm, r, rfl⟩
    · simp at h
theorem plain_sign (c : UInt8) : bodyB c.toNat = true → ¬ c = 92 → ¬ c = 34 → signL c = [c] := byte_all (fun c => bodyB c.toNat = true → ¬ c = 92 → ¬ c = 34 → signL c = [c]) (by decide +kernel) c
theorem sg_sound {l : List UInt8} {c : UInt8} {n : Nat} (h : sg l = .got c n) (h0 : l.head? ≠ some 34) : n = (signL c).length ∧ ∃ r, l = signL c ++ r := by
  match l with
  | [] => simp [sg] at h
  | a :: r =>
    simp only [sg] at h
    split at h
    · rename_i h1
      split at h
      · rename_i h2
        obtain rfl : a = 92 := UInt8.toNat_inj.1 (by show a.toNat = 92; simp at h2; omega)
        exact sgEsc_sound h
      · rename_i h2
        injection h with hc hn
        subst hc
        have hs := plain_sign a h1 (by rintro rfl; simp at h2) (by rintro rfl; simp at h0)
        rw [hs]
        exact ⟨hn.symm, r, rfl⟩
    · simp at h
theorem scanL_sound (most : Int) (k : Nat) : ∀ (l : List UInt8) (p : Nat) (out x : List UInt8) (last : Nat), scanL most k l p out = .ok x last → (out.length : Int) ≤ most →
    ∃ y r, x = out ++ y ∧ l = quoteB y ++ 34 :: r ∧ last = p + (quoteB y).length ∧ (x.length : Int) ≤ most := by
  induction k with
  | zero => intro l p out x last h; simp [scanL] at h
  | succ k ih =>
    intro l p out x last h hm
    unfold scanL at h
    split at h
    · simp at h
    · rename_i h1
      cases hs : sg l with
      | bad d => rw [hs] at h; simp at h
      | got c n =>
        rw [hs] at h
        simp only at h
        split at h
        · rename_i h2
          injection h with h3 h4
          subst h3 h4
          cases l with
          | nil => simp at h2
          | cons a r =>
            obtain rfl : a = 34 := by simpa using h2
            exact ⟨[], r, by simp, rfl, by simp [quoteB], hm⟩
        · rename_i h2
          obtain ⟨hn, r, hr⟩ := sg_sound hs h2
          have hlen : ((out ++ [c]).length : Int) ≤ most := by
            simp only [List.length_append, List.length_cons, List.length_nil]
            rcases (by omega : (out.length : Int) < most ∨ most ≤ out.length) with hx | hx
            · omega
            · exact absurd ⟨by omega, h2⟩ h1
          obtain ⟨y, r', e1, e2, e3, e4⟩ := ih _ _ _ _ _ h hlen
          have hd : l.drop n = r := by rw [hr, hn]; simp
          refine ⟨c :: y, r', by simpa using e1, ?_, ?_, e4⟩
          · rw [hr, ← hd, e2]; simp [quoteB]
          · rw [e3]; simp [quoteB]; omega
theorem scanL_complete (most : Int) : ∀ (y : List UInt8) (k : Nat) (p : Nat) (out r : List UInt8), y.length < k → ((out ++ y).length : Int) ≤ most →
    scanL most k (quoteB y ++ 34 :: r) p out = .ok (out ++ y) (p + (quoteB y).length) := by
  intro y
  induction y with
  | nil =>
    intro k p out r hk hm
    obtain ⟨k, rfl⟩ : ∃ j, k = j + 1 := ⟨k - 1, by simp at hk; omega⟩
    unfold scanL
    simp [quoteB, sg, bodyB]
  | cons c y ih =>
    intro k p out r hk hm
    obtain ⟨k, rfl⟩ : ∃ j, k = j + 1 := ⟨k - 1, by omega⟩
    have hs := sg_app (sg_sign c) (quoteB y ++ 34 :: r)
    have hh : (signL c ++ (quoteB y ++ 34 :: r)).head? ≠ some 34 := by
      have := sign_head c
      cases hc : signL c with
      | nil => exact absurd hc this.2
      | cons a t => rw [hc] at this; simpa using this.1
    have hq : quoteB (c :: y) ++ 34 :: r = signL c ++ (quoteB y ++ 34 :: r) := by simp [quoteB]
    rw [hq]
    unfold scanL
    simp only [List.length_append, List.length_cons] at hm
    rw [if_neg (by rintro ⟨h1, _⟩; omega), hs]
    simp only
    rw [if_neg hh]
    have hd : (signL c ++ (quoteB y ++ 34 :: r)).drop (signL c).length = quoteB y ++ 34 :: r := by simp
    rw [hd, ih k _ _ _ (by simp at hk; omega) (by simp; omega)]
    simp [quoteB, Nat.add_assoc]
theorem quoted_sound {l x : List UInt8} {n a : Int} {m : Nat} (h : quotedR l m = (x, n, 0, a)) : (∃ r, l = quoteL x ++ r) ∧ n = (quoteL x).length ∧ x.length ≤ m := by
  unfold quotedR at h
  cases hr : scanR l (max (m : Int) (-1)) with
  | wrong p => rw [hr] at h; simp [quotedOf] at h
  | long p => rw [hr] at h; simp [quotedOf] at h
  | ok out last =>
    rw [hr] at h
    simp only [quotedOf, Prod.mk.injEq] at h
    obtain ⟨rfl, rfl, _, rfl⟩ := h
    unfold scanR at hr
    split at hr
    · rename_i h1
      cases l with
      | nil => simp at h1
      | cons c l =>
        obtain rfl : c = 34 := by simpa using h1
        obtain ⟨y, r, e1, e2, e3, e4⟩ := scanL_sound _ _ _ _ _ _ _ hr (by simp; omega)
        simp only [List.nil_append] at e1
        subst e1
        simp only [List.drop_succ_cons, List.drop_zero] at e2
        refine ⟨⟨r, by rw [e2]; simp [quoteL]⟩, by rw [e3]; simp [quoteL]; omega, by omega⟩
    · simp at hr
theorem quoteB_len (l : List UInt8) : l.length ≤ (quoteB l).length := by
  induction l with
  | nil => simp
  | cons c l ih =>
    have := (sign_head c).2
    have h2 : 0 < (signL c).length := List.length_pos_iff.2 this
    simp only [quoteB, List.flatMap_cons, List.length_append, List.length_cons] at ih ⊢
    omega
theorem quoted_complete (x r : List UInt8) (m : Nat) (h : x.length ≤ m) : quotedR (quoteL x ++ r) m = (x, ((quoteL x).length : Int), 0, 0) := by
  have hl : quoteL x ++ r = 34 :: (quoteB x ++ 34 :: r) := by simp [quoteL]
  have h1 := quoteB_len x
  unfold quotedR scanR
  rw [hl, if_pos (show (34 :: (quoteB x ++ 34 :: r)).head? = some 34 from rfl)]
  simp only [List.drop_succ_cons, List.drop_zero]
  rw [scanL_complete _ x _ 1 [] r (by simp; omega) (by simp; omega)]
  simp [quotedOf, quoteL]; omega

/-! ### Numbers -/
theorem numL_snoc (l : List UInt8) (d : UInt8) : numL (l ++ [d]) = 10 * numL l + ((d.toNat : Int) - 48) := by simp [numL, List.foldl_append]
theorem dec_num (n : Nat) : numL (Lib.decDigits n) = n ∧ (∀ d ∈ Lib.decDigits n, digitB d.toNat = true) ∧ (0 < n → (Lib.decDigits n).head? ≠ some 48) ∧ Lib.decDigits n ≠ [] := by
  induction n using Nat.strongRecOn with
  | _ n ih =>
    unfold Lib.decDigits
    split
    · rename_i h
      have h2 : (UInt8.ofNat (48 + n)).toNat = 48 + n := UInt8.toNat_ofNat_of_lt' (by simp [UInt8.size]; omega)
      refine ⟨by simp [numL, h2]; omega, by intro d hd; obtain rfl : d = UInt8.ofNat (48 + n) := by simpa using hd
                                            simp [digitB, h2]; omega, ?_, by simp⟩
      intro h0 hx
      have hy : UInt8.ofNat (48 + n) = 48 := by simpa using hx
      have := congrArg UInt8.toNat hy
      rw [h2] at this
      simp at this
      omega
    · rename_i h
      obtain ⟨h1, h2, h3, h4⟩ := ih (n / 10) (by omega)
      have h5 : (UInt8.ofNat (48 + n % 10)).toNat = 48 + n % 10 := UInt8.toNat_ofNat_of_lt' (by simp [UInt8.size]; omega)
      refine ⟨by rw [numL_snoc, h1, h5]; omega, ?_, ?_, by simp⟩
      · intro d hd
        rcases List.mem_append.1 hd with hd | hd
        · exact h2 d hd
        · obtain rfl : d = UInt8.ofNat (48 + n % 10) := by simpa using hd
          simp [digitB, h5]; omega
      · intro _ hx
        cases hc : Lib.decDigits (n / 10) with
        | nil => exact h4 hc
        | cons a t => rw [hc] at hx h3; exact h3 (by omega) (by simpa using hx)
theorem num_dec : ∀ (k : Nat) (l : List UInt8), l.length = k + 1 → (∀ d ∈ l, digitB d.toNat = true) → l.head? ≠ some 48 → 0 < numL l ∧ Lib.decDigits (numL l).toNat = l := by
  intro k
  induction k with
  | zero =>
    intro l hl hd h0
    match l with
    | [a] =>
      have := hd a (by simp)
      simp [digitB] at this
      have h1 : a.toNat ≠ 48 := fun hx => h0 (by simp; exact UInt8.toNat_inj.1 hx)
      have hn : numL [a] = (a.toNat : Int) - 48 := by simp [numL]
      rw [hn]
      refine ⟨by omega, ?_⟩
      unfold Lib.decDigits
      rw [dif_pos (by omega)]
      congr 1
      apply UInt8.toNat_inj.1
      rw [UInt8.toNat_ofNat_of_lt' (by simp [UInt8.size]; omega)]; omega
  | succ k ih =>
    intro l hl hd h0
    have hne : l ≠ [] := by intro h; simp [h] at hl
    obtain ⟨a, d, rfl⟩ : ∃ a d, l = a ++ [d] := ⟨l.dropLast, l.getLast hne, (List.dropLast_concat_getLast hne).symm⟩
    have hla : a.length = k + 1 := by simpa using hl
    have hha : a.head? ≠ some 48 := by
      cases a with
      | nil => simp at hla
      | cons b t => simpa using h0
    obtain ⟨h1, h2⟩ := ih a hla (fun x hx => hd x (by simp [hx])) hha
    have h3 := hd d (by simp)
    simp [digitB] at h3
    rw [numL_snoc]
    refine ⟨by omega, ?_⟩
    unfold Lib.decDigits
    rw [dif_neg (by omega)]
    have e1 : (10 * numL a + ((d.toNat : Int) - 48)).toNat / 10 = (numL a).toNat := by omega
    have e2 : (10 * numL a + ((d.toNat : Int) - 48)).toNat % 10 = d.toNat - 48 := by omega
    rw [e1, h2, e2]
    congr 2
    apply UInt8.toNat_inj.1
    rw [UInt8.toNat_ofNat_of_lt' (by simp [UInt8.size]; omega)]; omega
end Go.Proofs.YtonjhdmnndffkaaDoor
