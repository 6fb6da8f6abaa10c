/- dragomanlaw12.LexPlaces: whatever the text, it answers true. -/
import Derived.Test.YtonjhdmnndffkaaDoorWorks12
import Derived.Test.YtonjhdmnndffkaaDoorPlacesLaw
namespace Go.Proofs.YtonjhdmnndffkaaDoor
open Go.RowKit
set_option maxRecDepth 100000
set_option linter.unusedSimpArgs false
set_option linter.unusedVariables false

/-- At the head of the outer loop. -/
def PlI (w0 : World) (s : ByteArray) (l : List Tok) (k : Nat) (v5 v6 : Value) (wr : World) : Prop :=
  ∃ (i a : Nat), v6 = .int .i64 i ∧ v5 = .int .i64 a ∧ k + i = l.length ∧ a ≤ s.size ∧ Lx (s.data.toList.drop a) a (prevOf l i) (l.drop i) ∧ Keeps noB w0 wr
/-- At the head of the inner one: at place k, up to place q. -/
def GaI (s : ByteArray) (so : Bool) (x : List UInt8) (q : Nat) (n : Nat) (v8 : Value) : Prop :=
  ∃ k : Nat, v8 = .int .i64 k ∧ n + k = q + 1 ∧ (k < q → ∃ g, GapP so g ∧ s.data.toList.drop k = g ++ x ∧ k + g.length = q)
def ReI (s : ByteArray) (y : List UInt8) (K : Nat) (n : Nat) (v8 : Value) : Prop :=
  ∃ (k : Nat) (r : List UInt8), v8 = .int .i64 k ∧ n = r.length ∧ (∀ c ∈ r, c ≠ 10) ∧ s.data.toList.drop k = r ++ y ∧ k + r.length = K
theorem drop_len {s : ByteArray} {k : Nat} {l : List UInt8} (h : s.data.toList.drop k = l) (hk : k ≤ s.size) : k + l.length = s.size := by
  have := congrArg List.length h
  rw [List.length_drop, str_len] at this
  omega
theorem head_byte {s : ByteArray} {k : Nat} (hk : k < s.size) {c : UInt8} {l : List UInt8} (h : s.data.toList.drop k = c :: l) : s[k] = c ∧ s.data.toList.drop (k + 1) = l := by
  rw [data_get s k hk] at h
  exact ⟨(List.cons.inj h).1, (List.cons.inj h).2⟩

set_option maxHeartbeats 4000000 in
theorem lexPlaces_c (s : ByteArray) (w : World) (hL : Lib0 w) : Calls Tryd.prog 5 #[.string s] w fun e w' => e = .returned (.bool true) ∧ Keeps noB w w' := by
  have HL := Lib.hid hL
  have HZ := Lib.hid (str_len s)
  clear hL
  go_enter Tryd.func5, Tryd.ntmps5
  go_wp2_with fail
  refine (works12_c w HL.out).mono ?_
  rintro e w1 ⟨rfl, hk1⟩
  have HK1 := Lib.hid hk1
  clear hk1
  go_wp2_with fail
  refine (great_c s w1).mono ?_
  rintro e w2 ⟨rfl, rfl⟩
  by_cases hbig : 65536 < s.size
  · have e1 : decide (65536 < s.size) = true := by simp [hbig]
    go_wp2_with fail
    go_ret
    exact ⟨rfl, HK1.out⟩
  · have e1 : decide (65536 < s.size) = false := by simp [hbig]
    go_wp2_with fail
    refine (lex_c s w2).mono ?_
    obtain ⟨⟨l, err, at_⟩, hR⟩ : ∃ X, lexR s.data.toList = X := ⟨_, rfl⟩
    rw [hR]
    unfold LexPost
    rintro e w3 ⟨hk3, v, rfl, ho⟩
    have HK3 := Lib.hid (HK1.out.trans hk3)
    clear hk3
    dsimp only at ho ⊢
    by_cases herr : err = 0
    · subst herr
      have hS := lexR_sound (s := s.data.toList) (by rw [hR])
      rw [hR] at hS
      obtain ⟨rfl, hS1, hS2⟩ := hS
      dsimp only at hS2
      have HF := Lib.hid (wf_fit _ _ (lx_wf hS2))
      have HWL := Lib.hid (wf_last _ _ (lx_wf hS2))
      have HX := Lib.hid hS2
      have hcount := lx_count hS2
      have hl6 : l.length ≤ 1000000 := by have := HZ.out; omega
      obtain ⟨A, c, rfl⟩ := own_slice ho
      obtain ⟨A2, c2, g, hT, _⟩ := TokRow.of_own ho
      have hv := hT.hv
      simp only [Value.slice.injEq, true_and] at hv
      obtain ⟨rfl, rfl⟩ := hv
      have HT := Lib.hid hT
      clear hS1 hS2 hcount hT ho hR
      have HKa := Lib.hid ((Keeps.refl noB w3).alloc (.cells #[.int .i64 0, .int .i64 0] 27))
      go_wp2_with fail
      generalize (w3.alloc (Obj.cells #[Value.int IntKind.i64 0, Value.int IntKind.i64 0] 27)) = w4 at HKa ⊢
      go_loopg [5, 6] l.length (fun k v5 v6 wr => PlI w3 s l k v5 v6 wr)
      case atStart => exact ⟨0, 0, rfl, rfl, by omega, by omega, by simpa [prevOf] using HX.out, HKa.out⟩
      case round =>
        clear HX HKa
        obtain ⟨i, a, rfl, rfl, hk, ha, hx, hkr⟩ := hrel
        have HK := Lib.hid hkr
        clear hkr
        by_cases hi : i < l.length
        · obtain rfl := HT.out.hA (by omega)
          obtain ⟨a0, a1, a2, a3⟩ := (HT.out.keep HK.out id).at_ i hi
          have HFT := Lib.hid (HF.out l[i] (List.getElem_mem hi))
          have hD := List.drop_eq_getElem_cons hi
          generalize l[i] = t at a0 a1 a2 a3 HFT hD
          have HP := Lib.hid (prevOf_succ l i t _ hD)
          obtain ⟨gp, x, hN1, hN2, hN3, hN4⟩ := next_tok hx t _ hD
          have HN1 := Lib.hid hN1
          have HN2 := Lib.hid hN2
          have HN3 := Lib.hid hN3
          have HN4 := Lib.hid hN4
          have hlen := drop_len hN1 ha
          have HDX := Lib.hid (show s.data.toList.drop t.at_ = x by rw [hN2, ← List.drop_drop, hN1, List.drop_left])
          have hta : a ≤ t.at_ ∧ t.at_ ≤ s.size := by rw [List.length_append] at hlen; omega
          clear hx hD hN1 hN2 hN3 hN4 hlen
          have hu1 : (0 : Int) ≤ (i : Int) := by omega
          have hu2 : (i : Int) < (l.length : Int) := by omega
          have hu3 : (t.at_ : Int) ≤ (s.size : Int) := by omega
          have hu4 : (a : Int) ≤ (t.at_ : Int) := by omega
          have hq1 : decide (t.at_ < a) = false := by simp; omega
          have hq2 : decide (s.size < t.at_) = false := by simp; omega
          have HK' := Lib.hid (HK.out.alloc (.cells #[.int .i64 t.kind, .string ⟨t.text.toArray⟩, .int .i64 t.n, .int .i64 t.at_] 37))
          have HB := Lib.hid (blk_new wr (.cells #[.int .i64 t.kind, .string ⟨t.text.toArray⟩, .int .i64 t.n, .int .i64 t.at_] 37))
          go_wp2_with fail
          generalize (wr.alloc (Obj.cells #[.int .i64 t.kind, .string ⟨t.text.toArray⟩, .int .i64 t.n, .int .i64 t.at_] 37)) = w5 at HK' HB ⊢
          have d0 := blk_at HB.out 0 rfl
          have d1 := blk_at HB.out 1 rfl
          have d2 := blk_at HB.out 2 rfl
          have d3 := blk_at HB.out 3 rfl
          clear HB a0 a1 a2 a3
          go_loopg [8] (t.at_ + 1 - a) (fun n v8 wx => GaI s (prevOf l i) x t.at_ n v8 ∧ wx = w5)
          case atStart =>
            refine ⟨⟨a, rfl, by omega, fun _ => ⟨gp, HN3.out, HN1.out, by have := HN2.out; omega⟩⟩, rfl⟩
          case round =>
            obtain ⟨⟨k, rfl, hkn, hg⟩, rfl⟩ := hrel
            have HG := Lib.hid hg
            clear hg
            by_cases hkq : k < t.at_
            · obtain ⟨g1, hgp, hd, hgl⟩ := HG.out hkq
              have hks : k < s.size := by omega
              have hkq' : (k : Int) < (t.at_ : Int) := by omega
              have hks' : (k : Int) < (s.size : Int) := by omega
              have hk0 : (0 : Int) ≤ (k : Int) := by omega
              clear HG
              cases hgp with
              | nil => simp at hgl; omega
              | @blank c0 g2 hc hg2 =>
                obtain ⟨hb1, hb2⟩ := head_byte hks hd
                have HB2 := Lib.hid hb2
                have HGL := Lib.hid hgl
                have HG2 := Lib.hid hg2
                clear hd hb2 hgl hg2
                have hrel : GaI s (prevOf l i) x t.at_ (t.at_ - k) (.int .i64 ((k + 1 : Nat) : Int)) := ⟨k + 1, rfl, by omega, fun _ => ⟨g2, HG2.out, HB2.out, by have := HGL.out; simp at this; omega⟩⟩
                have HRL := Lib.hid hrel
                clear hrel
                have hcc : c0 = 32 ∨ c0 = 9 ∨ c0 = 10 ∧ prevOf l i = false := hc
                rcases hc with rfl | rfl | ⟨rfl, hso⟩
                · have b1 : ((s[k].toNat : Int) == 35) = false := by rw [hb1]; rfl
                  have b2 : ((s[k].toNat : Int) != 32) = false := by rw [hb1]; rfl
                  go_wp2_with fail
                  go_roundg (t.at_ - k)
                  case measure => omega
                  case rel => exact ⟨HRL.out, rfl⟩
                · have b1 : ((s[k].toNat : Int) == 35) = false := by rw [hb1]; rfl
                  have b2 : ((s[k].toNat : Int) != 32) = true := by rw [hb1]; rfl
                  have b3 : ((s[k].toNat : Int) != 9) = false := by rw [hb1]; rfl
                  go_wp2_with fail
                  go_roundg (t.at_ - k)
                  case measure => omega
                  case rel => exact ⟨HRL.out, rfl⟩
                · have b1 : ((s[k].toNat : Int) == 35) = false := by rw [hb1]; rfl
                  have b2 : ((s[k].toNat : Int) != 32) = true := by rw [hb1]; rfl
                  have b3 : ((s[k].toNat : Int) != 9) = true := by rw [hb1]; rfl
                  have b4 : ((s[k].toNat : Int) != 10) = false := by rw [hb1]; rfl
                  cases i with
                  | zero =>
                    go_wp2_with fail
                    go_roundg (t.at_ - k)
                    case measure => omega
                    case rel => exact ⟨HRL.out, rfl⟩
                  | succ j =>
                    have hj : j < l.length := by omega
                    obtain ⟨p0, p1, p2, p3⟩ := (HT.out.keep HK'.out id).at_ j hj
                    have hpv : (l[j].kind != 6) = false := by simpa [prevOf, hj] using hso
                    generalize l[j].kind = jk at p0 hpv
                    clear p1 p2 p3 hso
                    go_wp2_with fail
                    go_roundg (t.at_ - k)
                    case measure => omega
                    case rel => exact ⟨HRL.out, rfl⟩
              | @remark r hr =>
                obtain ⟨hb1, _⟩ := head_byte hks hd
                have b1 : ((s[k].toNat : Int) == 35) = true := by rw [hb1]; rfl
                have HD := Lib.hid hd
                have HR := Lib.hid (show ∀ c ∈ (35 :: r : List UInt8), c ≠ 10 from fun c hc => by
                  rcases List.mem_cons.1 hc with rfl | hc
                  · decide
                  · exact hr c hc)
                have HGL := Lib.hid hgl
                clear hd hr hgl
                go_wp2_with fail
                go_loopg [8] (r.length + 1) (fun m v8 wx => ReI s x t.at_ m v8 ∧ wx = wr)
                case atStart => exact ⟨⟨k, 35 :: r, rfl, rfl, HR.out, HD.out, HGL.out⟩, rfl⟩
                case round =>
                  clear HR HD HGL
                  obtain ⟨⟨k2, r2, rfl, hm, hr2, hd2, hk2⟩, rfl⟩ := hrel
                  cases r2 with
                  | nil =>
                    have hkq2 : ¬ (k2 : Int) < (t.at_ : Int) := by simp at hk2; omega
                    obtain rfl : k2 = t.at_ := by simpa using hk2
                    clear hr2 hd2 hm hk2
                    go_wp2_with fail
                    go_roundg 0
                    case measure => omega
                    case rel => exact ⟨⟨t.at_ + 1, by simp, by omega, fun h => by omega⟩, rfl⟩
                  | cons c2 r2 =>
                    simp only [List.length_cons] at hk2 hm
                    have hkq2 : (k2 : Int) < (t.at_ : Int) := by omega
                    have hks2 : k2 < s.size := by omega
                    have hks3 : (k2 : Int) < (s.size : Int) := by omega
                    have hk20 : (0 : Int) ≤ (k2 : Int) := by omega
                    obtain ⟨hb1', hb2'⟩ := head_byte hks2 hd2
                    have b1' : ((s[k2].toNat : Int) != 10) = true := by
                      have := hr2 c2 (by simp)
                      rw [hb1']
                      simp
                      intro h
                      exact this (UInt8.toNat_inj.1 (by show c2.toNat = 10; omega))
                    have HREL := Lib.hid (show ReI s x t.at_ r2.length (.int .i64 ((k2 + 1 : Nat) : Int)) from ⟨k2 + 1, r2, rfl, rfl, fun c hc => hr2 c (by simp [hc]), hb2', by omega⟩)
                    clear hr2 hd2 hb1' hb2'
                    go_wp2_with fail
                    go_roundg r2.length
                    case measure => omega
                    case rel => exact ⟨HREL.out, rfl⟩
              | @remarkLine r g2 hr hg2 =>
                obtain ⟨hb1, _⟩ := head_byte hks hd
                have b1 : ((s[k].toNat : Int) == 35) = true := by rw [hb1]; rfl
                have HD := Lib.hid (show s.data.toList.drop k = (35 :: r) ++ (10 :: (g2 ++ x)) by rw [hd]; simp)
                have HR := Lib.hid (show ∀ c ∈ (35 :: r : List UInt8), c ≠ 10 from fun c hc => by
                  rcases List.mem_cons.1 hc with rfl | hc
                  · decide
                  · exact hr c hc)
                have HG2 := Lib.hid hg2
                obtain ⟨K, hK⟩ : ∃ K, k + (35 :: r).length = K := ⟨_, rfl⟩
                have HKE := Lib.hid hK
                have hKt : K < t.at_ := by simp only [List.length_cons, List.length_append] at hgl hK; omega
                have hKk : k < K := by simp only [List.length_cons] at hK; omega
                have HGE := Lib.hid (show K + 1 + g2.length = t.at_ by simp only [List.length_cons, List.length_append] at hgl hK; omega)
                clear hd hr hgl hg2 hK
                go_wp2_with fail
                go_loopg [8] (r.length + 1) (fun m v8 wx => ReI s (10 :: (g2 ++ x)) K m v8 ∧ wx = wr)
                case atStart => exact ⟨⟨k, 35 :: r, rfl, rfl, HR.out, HD.out, HKE.out⟩, rfl⟩
                case round =>
                  clear HR HD
                  obtain ⟨⟨k2, r2, rfl, hm, hr2, hd2, hk2⟩, rfl⟩ := hrel
                  cases r2 with
                  | nil =>
                    obtain rfl : k2 = K := by simpa using hk2
                    have hkq2 : (k2 : Int) < (t.at_ : Int) := by omega
                    have hks2 : k2 < s.size := by omega
                    have hks3 : (k2 : Int) < (s.size : Int) := by omega
                    have hk20 : (0 : Int) ≤ (k2 : Int) := by omega
                    obtain ⟨hb1', hb2'⟩ := head_byte hks2 hd2
                    have b1' : ((s[k2].toNat : Int) != 10) = false := by rw [hb1']; rfl
                    have HRL := Lib.hid (show GaI s (prevOf l i) x t.at_ (t.at_ - k2) (.int .i64 ((k2 + 1 : Nat) : Int)) from ⟨k2 + 1, rfl, by omega, fun _ => ⟨g2, HG2.out, hb2', HGE.out⟩⟩)
                    clear hr2 hd2 hm hk2 hb1' hb2'
                    go_wp2_with fail
                    go_roundg (t.at_ - k2)
                    case measure => omega
                    case rel => exact ⟨HRL.out, rfl⟩
                  | cons c2 r2 =>
                    simp only [List.length_cons] at hk2 hm
                    have hkq2 : (k2 : Int) < (t.at_ : Int) := by omega
                    have hks2 : k2 < s.size := by omega
                    have hks3 : (k2 : Int) < (s.size : Int) := by omega
                    have hk20 : (0 : Int) ≤ (k2 : Int) := by omega
                    obtain ⟨hb1', hb2'⟩ := head_byte hks2 hd2
                    have b1' : ((s[k2].toNat : Int) != 10) = true := by
                      have := hr2 c2 (by simp)
                      rw [hb1']
                      simp
                      intro h
                      exact this (UInt8.toNat_inj.1 (by show c2.toNat = 10; omega))
                    have HREL := Lib.hid (show ReI s (10 :: (g2 ++ x)) K r2.length (.int .i64 ((k2 + 1 : Nat) : Int)) from ⟨k2 + 1, r2, rfl, rfl, fun c hc => hr2 c (by simp [hc]), hb2', by omega⟩)
                    clear hr2 hd2 hb1' hb2'
                    go_wp2_with fail
                    go_roundg r2.length
                    case measure => omega
                    case rel => exact ⟨HREL.out, rfl⟩
            · have hkq' : ¬ (k : Int) < (t.at_ : Int) := by omega
              clear HG
              have hat := drop_len HDX.out hta.2
              rcases HN4.out with ⟨h6, hso, hxx, hlx⟩ | ⟨hgood, x', hx', hlx⟩
              · have f6 : (t.kind == 6) = true := by simp [h6]
                have HPN := Lib.hid (show prevOf l (i + 1) = false by rw [HP.out, f6]; rfl)
                have HLX := Lib.hid hlx
                cases i with
                | zero => simp [prevOf] at hso
                | succ j =>
                  have hj : j < l.length := by omega
                  obtain ⟨p0, p1, p2, p3⟩ := (HT.out.keep HK'.out id).at_ j hj
                  have hpv : (l[j].kind == 6) = false := by simpa [prevOf, hj] using hso
                  generalize l[j].kind = jk at p0 hpv
                  clear p1 p2 p3 hso hlx hxx
                  by_cases hend : t.at_ < s.size
                  · have hend' : (t.at_ : Int) < (s.size : Int) := by omega
                    have hb10 : s[t.at_] = 10 := by
                      rcases HN4.out with ⟨_, _, hxx, _⟩ | ⟨hgood, _⟩
                      · have hd := data_get s t.at_ hend
                        rw [HDX.out] at hd
                        rcases hxx with h | h
                        · rw [h] at hd; simp at hd
                        · rw [hd] at h; simpa using h
                      · exact absurd h6 (good_kind hgood)
                    have hb : ((s[t.at_].toNat : Int) != 10) = false := by rw [hb10]; rfl
                    have ht0 : (0 : Int) ≤ (t.at_ : Int) := by omega
                    go_wp2_with fail
                    go_roundg (l.length - (j + 2))
                    case measure => omega
                    case rel => exact ⟨j + 2, t.at_, by simp; omega, rfl, by omega, by omega, by rw [HPN.out, HDX.out]; exact HLX.out, HK'.out⟩
                  · have hend' : ¬ (t.at_ : Int) < (s.size : Int) := by omega
                    go_wp2_with fail
                    go_roundg (l.length - (j + 2))
                    case measure => omega
                    case rel => exact ⟨j + 2, t.at_, by simp; omega, rfl, by omega, by omega, by rw [HPN.out, HDX.out]; exact HLX.out, HK'.out⟩
              · have hk6 := good_kind hgood
                have f6 : (t.kind == 6) = false := by simp [hk6]
                have HPN := Lib.hid (show prevOf l (i + 1) = true by rw [HP.out, f6]; rfl)
                have HLX := Lib.hid hlx
                have HX' := Lib.hid hx'
                have hlw : t.at_ + (wordL t).length ≤ s.size := by rw [hx', List.length_append] at hat; omega
                have HEX := Lib.hid (show s.extract t.at_ (t.at_ + (wordL t).length) = ⟨(wordL t).toArray⟩ by
                  rw [ext_take s _ _ (by omega) hlw, HDX.out, hx', Nat.add_sub_cancel_left, List.take_left])
                have HDN := Lib.hid (show s.data.toList.drop (t.at_ + (wordL t).length) = x' by rw [← List.drop_drop, HDX.out, hx', List.drop_left])
                have hws : (⟨(wordL t).toArray⟩ : ByteArray).size = (wordL t).length := mk_size _
                clear hgood hlx hx' hat hk6
                go_wp2_with fail
                refine (word_c t _ (HL.out.keep0 (HK3.out.trans HK'.out)) (by have := HFT.out.1; omega) HFT.out.2.1 HFT.out.2.2).mono ?_
                rintro e w6 ⟨rfl, hk6⟩
                have HK6 := Lib.hid (HK'.out.trans hk6)
                clear hk6
                obtain ⟨m, hm⟩ : ∃ m, (wordL t).length = m := ⟨_, rfl⟩
                rw [hm] at hlw hws HDN HEX HLX
                have hlw' : (t.at_ : Int) + (m : Int) ≤ (s.size : Int) := by omega
                have hlw2 : ¬ (s.size : Int) - (t.at_ : Int) < (m : Int) := by omega
                have hEq : ((s.extract t.at_ (t.at_ + m)).toList == wordL t) = true := by rw [HEX.out, ByteArray.toList_eq]; simp
                go_wp2_with fail
                go_roundg (l.length - (i + 1))
                case measure => omega
                case rel => exact ⟨i + 1, t.at_ + m, by simp, by simp, by omega, by omega, by rw [HPN.out, HDN.out]; exact HLX.out, HK6.out⟩
        · obtain rfl : i = l.length := by omega
          clear hx
          by_cases h0 : l.length = 0
          · have hz : ((l.length : Int) == 0) = true := by rw [beq_iff_eq]; omega
            go_wp2_with fail
            go_ret
            exact ⟨rfl, HK3.out.trans HK.out⟩
          · have hz : ((l.length : Int) == 0) = false := by rw [beq_eq_false_iff_ne]; omega
            have hpos : 0 < l.length := by omega
            obtain rfl := HT.out.hA hpos
            obtain ⟨n, hn⟩ := Nat.exists_eq_succ_of_ne_zero h0
            have hnl : n < l.length := by omega
            obtain ⟨p0, p1, p2, p3⟩ := (HT.out.keep HK.out id).at_ n hnl
            have h6 : l[n].kind = 6 := HWL.out l[n] (by rw [List.getLast?_eq_getElem?, show l.length - 1 = n by omega]; exact List.getElem?_eq_getElem hnl)
            rw [h6] at p0
            clear p1 p2 p3 h6
            have hn1 : (l.length : Int) - 1 = (n : Int) := by omega
            have hn2 : (0 : Int) ≤ (n : Int) := by omega
            have hn3 : (n : Int) < (l.length : Int) := by omega
            have h66 : ((6 : Int) == 6) = true := rfl
            clear hn h0 hk HWL
            go_wp2_with fail
            go_ret
            exact ⟨rfl, HK3.out.trans HK.out⟩
    · have e2 : (err != 0) = true := by simp [herr]
      clear HL ho hR
      go_wp2_with fail
      go_ret
      exact ⟨rfl, HK3.out.alloc _⟩
end Go.Proofs.YtonjhdmnndffkaaDoor
