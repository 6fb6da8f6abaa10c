/- dragomanlaw12.LexBlanks: whatever the text and the gaps, it answers true. -/
import Derived.Test.YtonjhdmnndffkaaDoorWorks12
import Derived.Test.YtonjhdmnndffkaaDoorBlanksLaw
import Derived.Test.YtonjhdmnndffkaaDoorOpen
namespace Go.Proofs.YtonjhdmnndffkaaDoor
open Go.RowKit Go.Proofs.YtonjhdmnndffkaaDoorW.PrintWords
set_option maxRecDepth 100000
set_option linter.unusedSimpArgs false
set_option linter.unusedVariables false

def strE (m : List UInt8) : Value := .string ⟨m.toArray⟩
def kStr : Kd (List UInt8) := Kd.scalar strE (fun _ => rfl)
def kGap : Kd (Int × Int) := Kd.pair (Kd.int .i64) (Kd.int .i64)
theorem kGap_at {w : World} {A : Option Addr} {n : Nat} {xs : List (Int × Int)} (h : kGap.C w A n xs) (i : Nat) (h1 : i < n) :
    ∃ ad x, A = some ad ∧ xs[i]? = some x ∧ w.cell? (ad.add (i * 2)) = some (.int .i64 x.1) ∧ w.cell? ⟨(ad.add (i * 2)).block, (ad.add (i * 2)).off + 1, none⟩ = some (.int .i64 x.2) := by
  obtain ⟨hl, _, hc⟩ := h
  obtain ⟨ad, e, hc⟩ := hc (by omega)
  obtain ⟨c, hl2, ⟨c0, c1, rfl, rfl, rfl⟩, hcell⟩ := hc i _ (List.getElem?_eq_getElem (by omega))
  refine ⟨ad, xs[i]'(by omega), e, List.getElem?_eq_getElem (by omega), hcell 0 _ rfl, ?_⟩
  rw [← add_field _ _ 1 (by omega)]
  exact hcell 1 _ rfl

/-- The gaps so far, behind i of them. -/
def BlI (B gm cm : Nat) (l : List Tok) (i : Nat) (w : World) : Prop :=
  ∃ ms : List (List UInt8), GapsI l ms ∧ (∀ m ∈ ms, m.length ≤ 14 * i) ∧ kStr.R 9 w B (fun _ => True) (.slice (some ⟨gm, 0, none⟩) (l.length + 1) cm) ms

theorem str_app0 (a b : List UInt8) : (⟨a.toArray⟩ ++ ⟨b.toArray⟩ : ByteArray) = ⟨(a ++ b).toArray⟩ := by apply ByteArray.ext; simp
theorem bl_step {B gm cm i kk : Nat} {l : List Tok} {w : World} (h : BlI B gm cm l i w) (hk : kk ≤ l.length) :
    ∃ m : List UInt8, m.length ≤ 14 * i ∧ w.cell? ⟨gm, kk, none⟩ = some (.string ⟨m.toArray⟩) ∧ w.frozen? ⟨gm, kk, none⟩ = false ∧ BlI B gm cm l (i + 1) w ∧
      ∀ x : List UInt8, Piece (isEnd l kk) x → x.length ≤ 14 → BlI B gm cm l (i + 1) (w.setCell ⟨gm, kk, none⟩ (.string (⟨m.toArray⟩ ++ ⟨x.toArray⟩))) := by
  obtain ⟨ms, h1, h2, h3⟩ := h
  have hl := h1.1
  rw [← hl] at h3
  have hkl : kk < ms.length := by omega
  have hm := List.getElem?_eq_getElem hkl
  have hc := Kd.R_cell (enc := strE) [] h3 (kk : Int) (by omega) (by omega)
  have hrd : rdOf [] ms (kk : Int) = ms[kk] := by simp [rdOf, hm]
  rw [hrd, Int.toNat_natCast] at hc
  refine ⟨ms[kk], h2 _ (List.getElem_mem hkl), hc.1, hc.2, ⟨ms, h1, fun m hm => by have := h2 m hm; omega, by rw [← hl]; exact h3⟩, fun x hx hxl => ⟨ms.set kk (ms[kk] ++ x), gaps_set h1 hm hx, fun m hmm => ?_, ?_⟩⟩
  · rcases List.mem_or_eq_of_mem_set hmm with hmm | rfl
    · have := h2 m hmm; omega
    · have := h2 _ (List.getElem_mem hkl)
      rw [List.length_append]; omega
  · have := (Kd.R_put h3 (kk : Int) (ms[kk] ++ x)).1
    rw [Int.toNat_natCast] at this
    rw [str_app0, ← hl]
    exact this

def BtI (w0 : World) (ms : List (List UInt8)) (gm cm : Nat) (l : List Tok) (T : List UInt8) (k : Nat) (v11 v12 : Value) (w : World) : Prop :=
  ∃ (i : Nat) (out : List UInt8), v11 = .string ⟨out.toArray⟩ ∧ v12 = .int .i64 i ∧ k + i = l.length ∧ out ++ blankedL (prevOf l i) (l.drop i) (ms.drop i) = T ∧ out.length ≤ 900 * i ∧
    kStr.R 9 w w0.heap.size (fun _ => True) (.slice (some ⟨gm, 0, none⟩) (l.length + 1) cm) ms ∧ Keeps noB w0 w
theorem bt_cell {w : World} {B gm cm n i : Nat} {ms : List (List UInt8)} {m : List UInt8} (h : kStr.R 9 w B (fun _ => True) (.slice (some ⟨gm, 0, none⟩) (n + 1) cm) ms) (hl : ms.length = n + 1) (hm : ms[i]? = some m) :
    w.cell? ⟨gm, i, none⟩ = some (.string ⟨m.toArray⟩) ∧ w.frozen? ⟨gm, i, none⟩ = false := by
  rw [← hl] at h
  have hlt := (List.getElem?_eq_some_iff.1 hm).1
  have hc := Kd.R_cell (enc := strE) [] h (i : Int) (by omega) (by omega)
  have hrd : rdOf [] ms (i : Int) = m := by simp [rdOf, hm]
  rw [hrd, Int.toNat_natCast] at hc
  exact hc

set_option maxHeartbeats 4000000 in
theorem lexBlanks_c (s : ByteArray) (gs : List (Int × Int)) (A0 : Option Addr) (c0 : Nat) (w : World) (hL : Lib0 w) (hg : kGap.C w A0 gs.length gs) :
    Calls Tryd.prog 4 #[.string s, .slice A0 gs.length c0] w fun e w' => e = .returned (.bool true) ∧ Keeps noB w w' := by
  have HL := Lib.hid hL
  have HZ := Lib.hid (str_len s)
  have HG := Lib.hid hg
  clear hL hg
  go_enter Tryd.func4, Tryd.ntmps4
  go_wp2_with fail
  refine (works12_c w HL.out).mono ?_
  rintro e w1 ⟨rfl, hk1⟩
  have HK1 := Lib.hid hk1
  clear hk1
  go_wp2_with fail
  refine (lex_c s w1).mono ?_
  obtain ⟨⟨l, err, at_⟩, hR⟩ : ∃ X, lexR s.data.toList = X := ⟨_, rfl⟩
  rw [hR]
  unfold LexPost
  rintro e w3 ⟨hk3, v, rfl, ho⟩
  have HK3 := Lib.hid (HK1.out.trans hk3)
  clear hk3
  dsimp only at ho ⊢
  by_cases herr : err = 0
  · subst herr
    by_cases hbig : 1000 < s.size
    · have hb1 : (1000 : Int) < (s.size : Int) := by omega
      obtain ⟨A, c, rfl⟩ := own_slice ho
      clear ho hR HL HG
      go_wp2_with fail
      go_ret
      exact ⟨rfl, HK3.out.alloc _⟩
    by_cases hmany : 40 < gs.length
    · have hb1 : ¬ (1000 : Int) < (s.size : Int) := by omega
      have hb2 : (40 : Int) < (gs.length : Int) := by omega
      obtain ⟨A, c, rfl⟩ := own_slice ho
      clear ho hR HL HG
      go_wp2_with fail
      go_ret
      exact ⟨rfl, HK3.out.alloc _⟩
    have hS := lexR_sound (s := s.data.toList) (by rw [hR])
    rw [hR] at hS
    obtain ⟨rfl, hS1, hS2⟩ := hS
    dsimp only at hS2
    have HF := Lib.hid (wf_fit _ _ (lx_wf hS2))
    have hcount := lx_count hS2
    have hl6 : l.length ≤ 1001 := by have := HZ.out; omega
    obtain ⟨A, c, rfl⟩ := own_slice ho
    obtain ⟨A2, c2, g, hT, _⟩ := TokRow.of_own ho
    have hv := hT.hv
    simp only [Value.slice.injEq, true_and] at hv
    obtain ⟨rfl, rfl⟩ := hv
    have HT := Lib.hid hT
    have HRR := Lib.hid hR
    clear hS1 hS2 hcount hT ho hR
    have HKa := Lib.hid ((Keeps.refl noB w3).alloc (.cells #[.int .i64 0, .int .i64 0] 27))
    have hb1 : ¬ (1000 : Int) < (s.size : Int) := by omega
    have hb2 : ¬ (40 : Int) < (gs.length : Int) := by omega
    have hn0 : (0 : Int) ≤ (l.length : Int) + 1 := by omega
    have hn1 : ((l.length : Int) + 1).toNat * 16 ≤ 281474976710656 := by omega
    go_wp2_with ((refine Kd.R_make kStr (w0 := w3) w3.heap.size 9 (by rfl) (N := 38) (by rfl) 33 (.tmp 37) (.tmp 37) (by rfl) ((l.length : Int) + 1) (by rfl) (by rfl) Tryd.underlying33 (.string ⟨#[]⟩) 16 (by kernel_rfl) (by rfl) (by decide) (by decide) [] (okp := fun _ => True) (ok := fun _ => True) (by rfl) (fun _ _ => trivial) trivial hn0 hn1 (by exact below_alloc (Below.refl _ _) _) (by simp) ?_); intro v1 w5 hR1 hB1 hg1 hat1)
    have hR1' : kStr.R 9 w5 w3.heap.size (fun _ => True) v1 (List.replicate (l.length + 1) []) := by
      have : ((l.length : Int) + 1).toNat = l.length + 1 := by omega
      rw [this] at hR1; exact hR1
    obtain ⟨gm, cm, rfl, hgm, hgml, _⟩ := Kd.R_form hR1' (by simp)
    rw [List.length_replicate] at hR1' ⊢
    have HK5 := Lib.hid (Keeps.of_below hB1)
    have HBI := Lib.hid (show BlI w3.heap.size gm cm l 0 w5 from ⟨_, gaps_new l, by simp, hR1'⟩)
    clear hR1 hR1' hat1 hg1 hB1 HKa hn0 hn1
    go_loopg [8] gs.length (fun k v8 wr => ∃ i : Nat, v8 = .int .i64 i ∧ k + i = gs.length ∧ BlI w3.heap.size gm cm l i wr ∧ Keeps noB w3 wr)
    case atStart => exact ⟨0, rfl, by omega, HBI.out, HK5.out⟩
    case round =>
      obtain ⟨i, rfl, hk, hbi, hkr⟩ := hrel
      have HK := Lib.hid hkr
      have HB := Lib.hid hbi
      clear hbi hkr HBI
      by_cases hi : i < gs.length
      · obtain ⟨ad, x, rfl, hx, x0, x1⟩ := kGap_at (Kd.C_below HG.out (HK3.out.trans HK.out).below0) i hi
        have HX := Lib.hid hx
        have hu1 : (0 : Int) ≤ (i : Int) := by omega
        have hu2 : (i : Int) < (gs.length : Int) := by omega
        clear hx
        obtain ⟨q, hq⟩ : ∃ q : Int, x.1.tmod ((l.length : Int) + 1) = q := ⟨_, rfl⟩
        have hq1 : -((l.length : Int) + 1) < q ∧ q < (l.length : Int) + 1 := by
          rw [← hq]
          have h1 := Int.tmod_lt_of_pos x.1 (show (0 : Int) < (l.length : Int) + 1 by omega)
          have h2 := Int.lt_tmod_of_pos x.1 (show (0 : Int) < (l.length : Int) + 1 by omega)
          exact ⟨h2, h1⟩
        obtain ⟨hq1, hq2⟩ := hq1
        have hl63 : (l.length : Int) + 1 ≤ 2000 := by omega
        have hl64 : (0 : Int) < (l.length : Int) + 1 := by omega
        go_upto_if 55 with fail
        go_cut [9] from 56 to 57 (fun v9 wx => ∃ kk : Nat, v9 = .int .i64 kk ∧ kk ≤ l.length ∧ wr = wx)
        case first =>
          by_cases hneg : q < 0
          · go_wp2_with fail
            go_meet
            exact ⟨(-q).toNat, by rw [Int.toNat_of_nonneg (by omega)], by omega, rfl⟩
          · go_wp2_with fail
            go_meet
            exact ⟨q.toNat, by rw [Int.toNat_of_nonneg (by omega)], by omega, rfl⟩
        case rest =>
          obtain ⟨kk, rfl, hkk, rfl⟩ := hcut
          clear hq1 hq2 hq x0
          obtain ⟨m, hm1, m0, mf, hbn, hbs⟩ := bl_step HB.out hkk
          have HBN := Lib.hid hbn
          have HBS := Lib.hid hbs
          have hu3 : (0 : Int) ≤ (kk : Int) := by omega
          have hu4 : (kk : Int) < (l.length : Int) + 1 := by omega
          have hms : (⟨m.toArray⟩ : ByteArray).size = m.length := mk_size _
          have hma : m.length ≤ 2000 := by omega
          clear hbn hbs
          obtain ⟨en, hen⟩ : ∃ en, isEnd l kk = en := ⟨_, rfl⟩
          have HEN := Lib.hid hen
          clear hen
          go_upto_region 13 with fail
          go_cut [10] from 58 to 69 (fun v10 wx => v10 = .bool en ∧ wr = wx)
          case first =>
            by_cases hkl : kk < l.length
            · obtain rfl := HT.out.hA (by omega)
              obtain ⟨a0, a1, a2, a3⟩ := (HT.out.keep HK.out id).at_ kk hkl
              have hen : (l[kk].kind == 6) = en := by rw [← HEN.out]; simp [isEnd, hkl]
              generalize l[kk].kind = tk at a0 hen
              subst hen
              clear a1 a2 a3
              have hkl2 : (kk : Int) < (l.length : Int) := by omega
              go_wp2_with fail
              go_meet
              exact ⟨rfl, rfl⟩
            · have hen : en = false := by rw [← HEN.out]; simp [isEnd, hkl]
              subst hen
              have hkl2 : ¬ (kk : Int) < (l.length : Int) := by omega
              go_wp2_with fail
              go_meet
              exact ⟨rfl, rfl⟩
          case rest =>
            obtain ⟨rfl, rfl⟩ := hcut
            obtain ⟨h4, hh4⟩ : ∃ h4, Go.bits .and .i64 x.2 3 = h4 := ⟨_, rfl⟩
            have hbo : w3.heap.size ≤ gm := hgm
            cases en with
            | true =>
              go_wp2_with fail
              all_goals
                go_roundg (gs.length - (i + 1))
                case measure => omega
                case rel =>
                  first
                    | exact ⟨i + 1, by simp, by omega, HBS.out [32] (.inl rfl) (by decide), HK.out.setCell _ _ (.inr hbo)⟩
                    | exact ⟨i + 1, by simp, by omega, HBS.out [9] (.inr (.inl rfl)) (by decide), HK.out.setCell _ _ (.inr hbo)⟩
                    | exact ⟨i + 1, by simp, by omega, HBS.out gRem (.inr (.inr ⟨HEN.out, .inl rfl⟩)) (by decide), HK.out.setCell _ _ (.inr hbo)⟩
                    | exact ⟨i + 1, by simp, by omega, HBS.out gLine (.inr (.inr ⟨HEN.out, .inr rfl⟩)) (by decide), HK.out.setCell _ _ (.inr hbo)⟩
            | false =>
              go_wp2_with fail
              all_goals
                go_roundg (gs.length - (i + 1))
                case measure => omega
                case rel =>
                  first
                    | exact ⟨i + 1, by simp, by omega, HBS.out [32] (.inl rfl) (by decide), HK.out.setCell _ _ (.inr hbo)⟩
                    | exact ⟨i + 1, by simp, by omega, HBS.out [9] (.inr (.inl rfl)) (by decide), HK.out.setCell _ _ (.inr hbo)⟩
                    | exact ⟨i + 1, by simp, by omega, HBN.out, HK.out⟩
      · obtain rfl : i = gs.length := by omega
        have hi' : ¬ (gs.length : Int) < (gs.length : Int) := by omega
        go_wp2_with fail
        obtain ⟨ms, hms, hmb, hmr⟩ := HB.out
        obtain ⟨T, hT⟩ : ∃ T, blankedL false l ms = T := ⟨_, rfl⟩
        have HTX := Lib.hid hT
        have HTX0 := Lib.hid hT
        have HMS := Lib.hid hms
        have HMB := Lib.hid hmb
        have HMR := Lib.hid hmr
        clear hT hms hmb hmr HB
        go_loopg [11, 12] l.length (fun k v11 v12 wx => BtI w3 ms gm cm l T k v11 v12 wx)
        case atStart => exact ⟨0, [], rfl, rfl, by omega, by simpa [prevOf] using HTX.out, by simp, HMR.out, HK.out⟩
        case round =>
          clear HMR HK HTX
          obtain ⟨i, out, rfl, rfl, hk, hr, hol, hmr, hkr⟩ := hrel
          have HQ := Lib.hid hr
          have HK := Lib.hid hkr
          have HMR := Lib.hid hmr
          have hmsl := HMS.out.1
          have hil : i < ms.length := by omega
          obtain ⟨m, hm⟩ : ∃ m, ms[i]? = some m := ⟨_, List.getElem?_eq_getElem hil⟩
          obtain ⟨m0, mf⟩ := bt_cell hmr hmsl hm
          have hml : m.length ≤ 600 := by have := HMB.out m (List.mem_of_getElem? hm); omega
          have hms1 : (⟨m.toArray⟩ : ByteArray).size = m.length := mk_size _
          have HDM := Lib.hid (show ms.drop i = m :: ms.drop (i + 1) by rw [List.drop_eq_getElem_cons hil]; congr 1; exact Option.some.inj ((List.getElem?_eq_getElem hil).symm.trans hm))
          clear hr hkr hmr hm mf
          have hu1 : (0 : Int) ≤ (i : Int) := by omega
          have hu3 : (i : Int) < (l.length : Int) + 1 := by omega
          have hos : (⟨out.toArray⟩ : ByteArray).size = out.length := mk_size out
          by_cases hi : i < l.length
          · obtain rfl := HT.out.hA (by omega)
            obtain ⟨a0, a1, a2, a3⟩ := (HT.out.keep HK.out id).at_ i hi
            have hfit := HF.out l[i] (List.getElem_mem hi)
            have hD := List.drop_eq_getElem_cons hi
            generalize l[i] = t at a0 a1 a2 a3 hfit hD
            have hP := prevOf_succ l i t _ hD
            have hwl := wordL_len t hfit
            have HFT := Lib.hid hfit
            have HD := Lib.hid hD
            have HP := Lib.hid hP
            clear hD hP hfit
            have hu2 : (i : Int) < (l.length : Int) := by omega
            have hot : (out.length : Int) ≤ 900 * (i : Int) := by omega
            have hop : (⟨out.toArray⟩ ++ ⟨m.toArray⟩ : ByteArray).size = out.length + m.length := by rw [str_app0, mk_size]; simp
            by_cases h6 : t.kind = 6
            · have f6 : (t.kind != 6) = false := by simp [h6]
              have f6' : (t.kind == 6) = true := by simp [h6]
              have hos1 : (⟨#[10]⟩ : ByteArray).size = 1 := rfl
              have hps : (out ++ (m ++ [10])) ++ blankedL (prevOf l (i + 1)) (l.drop (i + 1)) (ms.drop (i + 1)) = T := by
                have := HQ.out
                rw [HD.out, HDM.out] at this
                rw [HP.out]
                simpa [blankedL, h6] using this
              have HPS := Lib.hid hps
              clear hps HQ
              go_wp2_with fail
              all_goals
                go_roundg (l.length - (i + 1))
                case measure => omega
                case rel => exact ⟨i + 1, out ++ (m ++ [10]), by rw [← str_app0, ← str_app0, ByteArray.append_assoc], by simp, by omega, HPS.out, by simp; omega, HMR.out, HK.out⟩
            · have f6 : (t.kind != 6) = true := by simp [h6]
              have f6' : (t.kind == 6) = false := by simp [h6]
              have hps : (out ++ ((if prevOf l i = true then [32] else []) ++ (m ++ wordL t))) ++ blankedL (prevOf l (i + 1)) (l.drop (i + 1)) (ms.drop (i + 1)) = T := by
                have := HQ.out
                rw [HD.out, HDM.out] at this
                rw [HP.out]
                simpa [blankedL, h6] using this
              have HPS := Lib.hid hps
              clear hps
              have hwt : (⟨(wordL t).toArray⟩ : ByteArray).size = (wordL t).length := mk_size _
              cases i with
              | zero =>
                go_wp2_with fail
                refine (word_c t _ (HL.out.keep0 (HK3.out.trans HK.out)) (by have := HFT.out.1; omega) HFT.out.2.1 HFT.out.2.2).mono ?_
                rintro e w6 ⟨rfl, hk2⟩
                have HK2 := Lib.hid (HK.out.trans hk2)
                have HMR2 := Lib.hid (Kd.R_below HMR.out hk2.below0)
                clear hk2
                go_wp2_with fail
                go_roundg (l.length - 1)
                case measure => omega
                case rel => exact ⟨1, out ++ (m ++ wordL t), by rw [← str_app0, ← str_app0, ByteArray.append_assoc], by simp, by omega, by simpa [prevOf] using HPS.out, by simp; omega, HMR2.out, HK2.out⟩
              | succ j =>
                have hj : j < l.length := by omega
                obtain ⟨p0, p1, p2, p3⟩ := (HT.out.keep HK.out id).at_ j hj
                have hprev : prevOf l (j + 1) = !(l[j].kind == 6) := by simp [prevOf, hj]
                generalize l[j] = u at p0 p1 p2 p3 hprev
                clear p1 p2 p3
                have hos1 : (⟨#[32]⟩ : ByteArray).size = 1 := rfl
                have hop2 : (⟨out.toArray⟩ ++ ⟨#[32]⟩ : ByteArray).size = out.length + 1 := by rw [show (⟨#[32]⟩ : ByteArray) = ⟨[(32 : UInt8)].toArray⟩ from rfl, str_app0, mk_size]; simp
                have hop3 : (⟨out.toArray⟩ ++ ⟨#[32]⟩ ++ ⟨m.toArray⟩ : ByteArray).size = out.length + 1 + m.length := by rw [show (⟨#[32]⟩ : ByteArray) = ⟨[(32 : UInt8)].toArray⟩ from rfl, str_app0, str_app0, mk_size]; simp; omega
                by_cases hu6 : u.kind = 6
                · have g6 : (u.kind != 6) = false := by simp [hu6]
                  have hpf : prevOf l (j + 1) = false := by rw [hprev]; simp [hu6]
                  rw [hpf] at HPS
                  clear hprev hpf HQ
                  go_wp2_with fail
                  refine (word_c t _ (HL.out.keep0 (HK3.out.trans HK.out)) (by have := HFT.out.1; omega) HFT.out.2.1 HFT.out.2.2).mono ?_
                  rintro e w6 ⟨rfl, hk2⟩
                  have HK2 := Lib.hid (HK.out.trans hk2)
                  have HMR2 := Lib.hid (Kd.R_below HMR.out hk2.below0)
                  clear hk2
                  go_wp2_with fail
                  go_roundg (l.length - (j + 2))
                  case measure => omega
                  case rel => exact ⟨j + 2, out ++ (m ++ wordL t), by rw [← str_app0, ← str_app0, ByteArray.append_assoc], by simp; omega, by omega, by simpa using HPS.out, by simp; omega, HMR2.out, HK2.out⟩
                · have g6 : (u.kind != 6) = true := by simp [hu6]
                  have hpf : prevOf l (j + 1) = true := by rw [hprev]; simp [hu6]
                  rw [hpf] at HPS
                  clear hprev hpf HQ
                  go_wp2_with fail
                  refine (word_c t _ (HL.out.keep0 (HK3.out.trans HK.out)) (by have := HFT.out.1; omega) HFT.out.2.1 HFT.out.2.2).mono ?_
                  rintro e w6 ⟨rfl, hk2⟩
                  have HK2 := Lib.hid (HK.out.trans hk2)
                  have HMR2 := Lib.hid (Kd.R_below HMR.out hk2.below0)
                  clear hk2
                  go_wp2_with fail
                  go_roundg (l.length - (j + 2))
                  case measure => omega
                  case rel => exact ⟨j + 2, out ++ ([32] ++ (m ++ wordL t)), by rw [← str_app0, ← str_app0, ← str_app0]; simp [ByteArray.append_assoc], by simp; omega, by omega, by simpa using HPS.out, by simp; omega, HMR2.out, HK2.out⟩
          · obtain rfl : i = l.length := by omega
            have hr : out ++ m = T := by
              have := HQ.out
              rw [HDM.out, List.drop_eq_nil_of_le (Nat.le_refl _)] at this
              simpa [blankedL] using this
            have HTT := Lib.hid hr
            have hi' : ¬ (l.length : Int) < (l.length : Int) := by omega
            have hot : (out.length : Int) ≤ 900 * (l.length : Int) := by omega
            have hop : (⟨out.toArray⟩ ++ ⟨m.toArray⟩ : ByteArray) = ⟨T.toArray⟩ := by rw [str_app0, hr]
            have hts : (⟨T.toArray⟩ : ByteArray).size = T.length := mk_size _
            clear hr HQ
            by_cases hlong : 2048 < T.length
            · have hlt : ((2048 : Int) < (T.length : Int)) := by omega
              go_wp2_with fail
              go_ret
              exact ⟨rfl, HK3.out.trans HK.out⟩
            · have hlt : ¬ ((2048 : Int) < (T.length : Int)) := by omega
              have hB := lex_blanks (s := s.data.toList) (by rw [HRR.out]) (ms := ms) (by rw [HRR.out]; exact gaps_ok _ _ HMS.out) (by rw [HRR.out, HTX0.out]; omega)
              rw [HRR.out] at hB
              obtain ⟨l', hB2, hB3⟩ := hB
              dsimp only at hB2 hB3
              rw [HTX0.out] at hB2
              have hS' := lexR_sound (s := T) (by rw [hB2])
              rw [hB2] at hS'
              have hcount' := lx_count hS'.2.2
              have hl6' : l'.length ≤ 1000000 := by have := hS'.2.1; dsimp only at hcount'; omega
              have HB2 := Lib.hid hB2
              have HB3 := Lib.hid hB3
              clear hB2 hB3 hS' hcount'
              go_wp2_with fail
              refine (lex_c ⟨T.toArray⟩ wr).mono ?_
              rw [show (⟨T.toArray⟩ : ByteArray).data.toList = T from rfl, HB2.out]
              unfold LexPost
              rintro e w6 ⟨hk6, v', rfl, ho'⟩
              dsimp only at ho' ⊢
              obtain ⟨A', c', rfl⟩ := own_slice ho'
              obtain ⟨A2', c2', g', hT', _⟩ := TokRow.of_own ho'
              have HT' := Lib.hid hT'
              have HK6 := Lib.hid (HK.out.trans hk6)
              have HKa := Lib.hid ((Keeps.refl noB w6).alloc (.cells #[.int .i64 0, .int .i64 0] 27))
              clear ho' hT' hk6
              go_wp2_with fail
              refine (same_c l' l _ _ A2' A c2' c g' g _ (HT'.out.keep HKa.out id) ((HT.out.keep HK6.out id).keep HKa.out id) hl6').mono ?_
              rw [HB3.out]
              rintro e w7 ⟨rfl, hk7⟩
              have HK7 := Lib.hid (HK3.out.trans (HK6.out.trans (HKa.out.trans hk7)))
              clear hk7 HKa
              go_wp2_with fail
              go_ret
              exact ⟨rfl, HK7.out⟩
  · have e2 : (err != 0) = true := by simp [herr]
    obtain ⟨A, c, rfl⟩ := own_slice ho
    clear ho hR HL HG
    go_wp2_with fail
    go_ret
    exact ⟨rfl, HK3.out.alloc _⟩
end Go.Proofs.YtonjhdmnndffkaaDoor
