/- lex.Lex. -/
import Derived.Test.YtonjhdmnndffkaaDoorToken
import Derived.Test.YtonjhdmnndffkaaDoorLexPure
import Derived.Test.YtonjhdmnndffkaaDoorApp
import Derived.Test.YtonjhdmnndffkaaDoorShelf
import Derived.Deep.LoopGhost
import Derived.Deep.RegionHeld3
import Derived.Deep.RegionLaw
import Derived.Deep.CutRange
namespace Go.Proofs.YtonjhdmnndffkaaDoor
open Go.RowKit
set_option maxRecDepth 100000
set_option linter.unusedSimpArgs false
set_option linter.unusedVariables false

def tokC (t : Tok) : List Value := [.int .i64 t.kind, .string ⟨t.text.toArray⟩, .int .i64 t.n, .int .i64 t.at_]
def tokCells (l : List Tok) : List Value := l.flatMap tokC
theorem tokCells_snoc (l : List Tok) (t : Tok) : tokCells (l ++ [t]) = tokCells l ++ tokC t := by simp [tokCells]
theorem tokInfo : (Tryd.prog.info? 37).map (fun i => (i.zero, i.size, i.bytes)) = some (some (.agg #[.int .i64 0, .string ⟨#[]⟩, .int .i64 0, .int .i64 0]), 4, 40) := by kernel_rfl

/-- How 'Lex' ends: the tokens, or the error and its place. -/
def LexPost (R : List Tok × Int × Nat) (w : World) (e : Ending) (w' : World) : Prop :=
  Keeps noB w w' ∧ ∃ v, e = .returned (.tuple #[v, .agg #[.int .i64 R.2.1, .int .i64 R.2.2]]) ∧ w'.ownsRow w.heap.size 37 4 v R.1.length (tokCells R.1)

structure LexS (w0 : World) (s : ByteArray) (p : Nat) (out : List Tok) (v : Value) (w : World) : Prop where
  h0 : w.heap[w0.heap.size]? = some (.cells #[.int .i64 0, .int .i64 0] 27 (0, 0))
  h1 : w.heap[w0.heap.size + 1]? = some (.cells #[.string s, .int .i64 p, v, .int .i64 0, .int .i64 0] 77 (0, 0))
  ho : w.ownsRow (w0.heap.size + 2) 37 4 v out.length (tokCells out)
  hk : Keeps noB w0 w
section
variable {w0 w w' : World} {s : ByteArray} {p : Nat} {out : List Tok} {v v' : Value}
theorem LexS.lt (h : LexS w0 s p out v w) : w0.heap.size + 1 < w.heap.size := blk_lt h.h1
theorem LexS.ne (h : LexS w0 s p out v w) (i : Nat) (hi : i < w0.heap.size + 2) : v.ownBlock ≠ some i := fun hx => by
  have := (own_ty h.ho i hx).1
  omega
theorem LexS.move (h : LexS w0 s p out v w) (k : Keeps noB w w') : LexS w0 s p out v w' := ⟨k.obj h.h0 id, k.obj h.h1 id, own_keep h.ho k fun _ _ => id, h.hk.quiet k⟩
theorem LexS.tok (h : LexS w0 s p out v w) (k : Keeps (fun k => k = w0.heap.size + 1) w w') {q : Nat} (h1 : w'.heap[w0.heap.size + 1]? = some (.cells #[.string s, .int .i64 (q : Int), v, .int .i64 0, .int .i64 0] 77 (0, 0))) : LexS w0 s q out v w' :=
  ⟨k.obj h.h0 (by omega), h1, own_keep h.ho k fun g hg hx => h.ne _ (by omega) (hx ▸ hg), h.hk.step k fun i hi hx => by omega⟩
theorem LexS.adv (h : LexS w0 s p out v w) (q : Nat) : LexS w0 s q out v (w.setCell ⟨w0.heap.size + 1, 1, none⟩ (.int .i64 (q : Int))) :=
  h.tok ((Keeps.refl _ _).setCell _ _ (.inl rfl)) (by simpa using blk_set h.h1 1 (.int .i64 (q : Int)))
theorem LexS.app (h : LexS w0 s p out v w) (hg : w.grownBy w' v.ownBlock) (t : Tok) (h' : w'.ownsRow (w0.heap.size + 2) 37 4 v' (out.length + 1) (tokCells out ++ tokC t)) :
    LexS w0 s p (out ++ [t]) v' (w'.setCell ⟨w0.heap.size + 1, 2, none⟩ v') := by
  have h1 := grown_obj h.ho hg h.h1 (.inl (by omega))
  have hk := (Keeps.refl (fun k => k = w0.heap.size + 1) w').setCell ⟨w0.heap.size + 1, 2, none⟩ v' (.inl rfl)
  refine ⟨hk.obj (grown_obj h.ho hg h.h0 (.inl (by omega))) (by omega), by simpa using blk_set h1 2 v', ?_, (grown_keeps h.hk h.ho hg (by omega)).step hk fun i hi hx => by omega⟩
  have ho : w'.ownsRow (w0.heap.size + 2) 37 4 v' (out ++ [t]).length (tokCells (out ++ [t])) := by rw [tokCells_snoc]; simpa using h'
  exact own_keep ho hk fun g hg hx => by have := (own_ty ho g hg).1; omega
theorem lex_end {R : List Tok × Int × Nat} (h : LexS w0 s p out v w) (hR : (out, 0, 0) = R) : LexPost R w0 (.returned (.tuple #[v, .agg #[.int .i64 0, .int .i64 0]])) ((w.setCell ⟨w0.heap.size, 0, none⟩ (.int .i64 0)).setCell ⟨w0.heap.size, 1, none⟩ (.int .i64 0)) := by
  subst hR
  have hk := ((Keeps.refl (fun k => k = w0.heap.size) w).setCell ⟨w0.heap.size, 0, none⟩ (.int .i64 0) (.inl rfl)).setCell ⟨w0.heap.size, 1, none⟩ (.int .i64 0) (.inl rfl)
  exact ⟨h.hk.step hk fun i hi hx => by omega, v, rfl, own_lower (own_keep h.ho hk fun g hg hx => h.ne _ (by omega) (hx ▸ hg)) (by omega)⟩
theorem lex_bad {R : List Tok × Int × Nat} {e : Int} {q : Nat} (h : LexS w0 s p out v w) (hR : ([], e, q) = R) : LexPost R w0 (.returned (.tuple #[.slice none 0 0, .agg #[.int .i64 e, .int .i64 q]])) ((w.setCell ⟨w0.heap.size, 0, none⟩ (.int .i64 e)).setCell ⟨w0.heap.size, 1, none⟩ (.int .i64 q)).drew := by
  subst hR
  exact ⟨Keeps.drew <| (h.hk.setCell _ _ (.inr (by simp))).setCell _ _ (.inr (by simp)), _, rfl, World.ownsRow_nil _ _ _ _⟩
theorem lex_long {R : List Tok × Int × Nat} (h : Keeps noB w w') (hR : R = ([], 3, 2048)) : LexPost R w (.returned (.tuple #[.slice none 0 0, .agg #[.int .i64 3, .int .i64 2048]])) w' := by
  subst hR
  exact ⟨h, _, rfl, World.ownsRow_nil _ _ _ _⟩
end

/-- What holds at each round's head. -/
def LexI (w0 : World) (s : ByteArray) (R : List Tok × Int × Nat) (k : Nat) (v5 : Value) (wr : World) : Prop :=
  ∃ (p : Nat) (so : Bool) (out : List Tok) (v : Value), v5 = .bool so ∧ lexL s.data.toList k p so out = R ∧ s.size < k + p ∧ p ≤ s.size ∧ out.length ≤ p ∧ LexS w0 s p out v wr
set_option maxHeartbeats 4000000 in
theorem lex_c (s : ByteArray) (w : World) :
    Calls Tryd.prog 16 #[.string s] w (LexPost (lexR s.data.toList) w) := by
  obtain ⟨R, hR⟩ : ∃ R, lexR s.data.toList = R := ⟨_, rfl⟩
  rw [hR]
  have HR := Lib.hid hR
  clear hR
  have hlen := str_len s
  by_cases hbig : 2048 < s.size
  · go_enter Tryd.func16, Tryd.ntmps16
    go_wp2_with fail
    have hR : R = ([], 3, 2048) := by rw [← HR.out]; unfold lexR; rw [if_neg (by omega)]
    exact bodyPost_ret (by simp [results, Tryd.results16, go_sem]) rfl (lex_long ((Keeps.refl _ _).alloc _) hR)
  · have HR2 := Lib.hid (show lexL s.data.toList (s.size + 1) 0 false [] = R by rw [← HR.out]; unfold lexR; rw [if_pos (by omega), hlen])
    clear HR
    have HL := Lib.hid hlen
    clear hlen
    have S0 : LexS w s 0 [] (.slice none 0 0) ((w.alloc (.cells #[.int .i64 0, .int .i64 0] 27)).alloc (.cells #[.string s, .int .i64 0, .slice none 0 0, .int .i64 0, .int .i64 0] 77)) :=
      ⟨blk_alloc (blk_new _ _) _, by have := blk_new (w.alloc (.cells #[.int .i64 0, .int .i64 0] 27)) (.cells #[.string s, .int .i64 0, .slice none 0 0, .int .i64 0, .int .i64 0] 77); simpa using this, World.ownsRow_nil _ _ _ _, ((Keeps.refl _ _).alloc _).alloc _⟩
    go_enter Tryd.func16, Tryd.ntmps16
    go_wp2_with fail
    generalize ((w.alloc (Obj.cells #[Value.int .i64 0, .int .i64 0] 27)).alloc (Obj.cells #[.string s, .int .i64 0, .slice none 0 0, .int .i64 0, .int .i64 0] 77)) = w1 at S0 ⊢
    go_loopg [5] (s.size + 1) (fun k v5 wr => LexI w s R k v5 wr)
    case atStart => exact ⟨0, false, [], _, rfl, HR2.out, by omega, by omega, by simp, S0⟩
    case round =>
      clear S0 HR2
      obtain ⟨p, so, out, v, rfl, hR, hk, hp, hol, S⟩ := hrel
      obtain ⟨k, rfl⟩ : ∃ k, gk = k + 1 := ⟨gk - 1, by omega⟩
      have HR := Lib.hid hR
      clear hR
      obtain ⟨c, hc⟩ : ∃ c, peekL (s.data.toList.drop p) = c := ⟨_, rfl⟩
      have HP := Lib.hid ((peekI_eq s p).trans hc)
      have HC := Lib.hid hc
      clear hc
      go_wp2_with fail
      refine (peek_c (w.heap.size + 1) p s _ _ S.h1 rfl rfl).mono ?_
      rintro e w2 ⟨rfl, hk2⟩
      rw [HP.out]
      have S2 := S.move hk2
      clear S hk2 HP
      have r1 := blk_at S2.h1 1 rfl
      have r2 := blk_at S2.h1 2 rfl
      have rf := blk_frozen S2.h1
      have hlt := S2.lt
      by_cases hb1 : c = 32
      · have e1 : (c == 32) = true := by simp [hb1]
        have HQ := Lib.hid ((lexL_blank (k := k) (so := so) (out := out) (.inl (HC.out.trans hb1))).symm.trans HR.out)
        have hps : p < s.size := by have := peek_in (s := s.data.toList) (p := p) (by rw [HC.out, hb1]; decide); have := HL.out; omega
        clear hb1 HC HR
        go_wp2_with fail
        go_roundg k
        case measure => omega
        case rel => exact ⟨p + 1, so, out, v, rfl, HQ.out, by omega, by omega, by omega, S2.adv (p + 1)⟩
      by_cases hb2 : c = 9
      · have e1 : (c == 32) = false := by simp [hb1]
        have e2 : (c == 9) = true := by simp [hb2]
        have HQ := Lib.hid ((lexL_blank (k := k) (so := so) (out := out) (.inr (HC.out.trans hb2))).symm.trans HR.out)
        have hps : p < s.size := by have := peek_in (s := s.data.toList) (p := p) (by rw [HC.out, hb2]; decide); have := HL.out; omega
        clear hb1 hb2 HC HR
        go_wp2_with fail
        go_roundg k
        case measure => omega
        case rel => exact ⟨p + 1, so, out, v, rfl, HQ.out, by omega, by omega, by omega, S2.adv (p + 1)⟩
      by_cases hb3 : c = 35
      · have e1 : (c == 32) = false := by simp [hb1]
        have e2 : (c == 9) = false := by simp [hb2]
        have e3 : (c == 35) = true := by simp [hb3]
        have hin := restN_in (s := s.data.toList) (p := p) (HC.out.trans hb3) (by have := HL.out; omega)
        have HQ := Lib.hid ((lexL_remark (k := k) (so := so) (out := out) (HC.out.trans hb3)).symm.trans HR.out)
        obtain ⟨q, hq⟩ : ∃ q, restN s.data.toList p = q := ⟨_, rfl⟩
        rw [hq] at hin
        have HN := Lib.hid hq
        have hin2 : p < q ∧ q ≤ s.size := by have := HL.out; omega
        have HX := Lib.hid (ext_drop s p)
        clear hb1 hb2 hb3 HC HR hin hq
        by_cases hx : 0 ≤ Lib.indexByte (s.data.toList.drop p) 10
        · have hq2 : (p : Int) + Lib.indexByte (s.data.toList.drop p) 10 = q := by
            have := HN.out
            unfold restN at this
            rw [if_pos hx] at this
            omega
          have HQ2 := Lib.hid hq2
          obtain ⟨m, hm⟩ : ∃ m, Lib.indexByte (s.data.toList.drop p) 10 = m := ⟨_, rfl⟩
          rw [hm] at hx hq2 HQ2
          have HM := Lib.hid hm
          clear hm
          go_wp2_with fail
          refine (Tryd.strings_IndexByte (s.extract p s.size) 10 w2).mono ?_
          rintro e w3 ⟨rfl, rfl⟩
          rw [HX.out, show (10 : Int).toNat.toUInt8 = 10 from rfl, HM.out]
          have hm1 : m ≤ s.size := by omega
          go_wp2_with fail
          go_roundg k
          case measure => omega
          case rel => exact ⟨q, so, out, v, rfl, by rw [← HN.out]; exact HQ.out, by omega, by omega, by omega, S2.adv q⟩
        · have hq2 : q = s.size := by
            have := HN.out
            unfold restN at this
            rw [if_neg hx] at this
            have := HL.out
            omega
          have HQ2 := Lib.hid hq2
          obtain ⟨m, hm⟩ : ∃ m, Lib.indexByte (s.data.toList.drop p) 10 = m := ⟨_, rfl⟩
          rw [hm] at hx
          have HM := Lib.hid hm
          clear hm hq2
          go_wp2_with fail
          refine (Tryd.strings_IndexByte (s.extract p s.size) 10 w2).mono ?_
          rintro e w3 ⟨rfl, rfl⟩
          rw [HX.out, show (10 : Int).toNat.toUInt8 = 10 from rfl, HM.out]
          go_wp2_with fail
          go_roundg k
          case measure => omega
          case rel => exact ⟨q, so, out, v, rfl, by rw [← HN.out]; exact HQ.out, by omega, by omega, by omega, by rw [HQ2.out]; exact S2.adv s.size⟩
      by_cases hb4 : c = 10
      · have e1 : (c == 32) = false := by simp [hb1]
        have e2 : (c == 9) = false := by simp [hb2]
        have e3 : (c == 35) = false := by simp [hb3]
        have e4 : (c == 10) = true := by simp [hb4]
        have HB4 := Lib.hid (HC.out.trans hb4)
        clear hb1 hb2 hb3 hb4 HC
        have hne1 := S2.ne (w.heap.size + 1) (by omega)
        by_cases hso : so = true
        · subst hso
          go_upto_region 17 with fail
          go_cut [] from 17 to 112 (fun wx => ∃ g' c', LexS w s p (endT true p out) (.slice (some ⟨g', 0, none⟩) (out.length + 1) c') wx)
          case first =>
            go_region_law ((refine app1R (w.heap.size + 2) w2.heap.size (by rfl) _ _ 24 37 _ 4 40 (by rfl) Tryd.underlying24 tokInfo (by rfl) (by omega) (by omega) v out.length (tokCells out) (tokC ⟨6, [], 0, p⟩) (0, 0) (by rfl) (by rfl) (by rfl) (by rfl) ((S2.ho.alloc _).drew) (heap_alloc_new w2 _) (by omega) (by omega) ?_; intro g1 cap1 w3 hown hg; have H3 := keepG S2.h1 hg hne1; have q1 := blk_at H3 2 rfl; have q2 := blk_frozen H3 2))
            all_goals
              go_wp2_with fail
              go_meet
              exact ⟨g1, cap1, (S2.move (((Keeps.refl _ _).alloc _).drew)).app hg _ hown⟩
          case rest =>
            obtain ⟨g', c', S4⟩ := hcut
            clear S2 hne1 r1 r2 rf
            have r1 := blk_at S4.h1 1 rfl
            have r2 := blk_at S4.h1 2 rfl
            have rf := blk_frozen S4.h1
            have rg := blk_frozen S4.h0
            have ra := blk_at S4.h0 0 rfl
            have rb := blk_at S4.h0 1 rfl
            by_cases hps : p = s.size
            · have e5 : ((p : Int) == (s.size : Int)) = true := by simp [hps]
              have HQ := Lib.hid ((lexL_end (k := k) (so := true) (out := out) HB4.out (by have := HL.out; omega)).symm.trans HR.out)
              go_wp2_with fail
              exact bodyPost_ret (by simp [results, Tryd.results16, go_sem, ra, rb]) rfl (lex_end S4 (by simpa [endT] using HQ.out))
            · have e5 : ((p : Int) == (s.size : Int)) = false := by simp; omega
              have HQ := Lib.hid ((lexL_line (k := k) (so := true) (out := out) HB4.out (by have := HL.out; omega)).symm.trans HR.out)
              go_wp2_with fail
              go_roundg k
              case measure => omega
              case rel => exact ⟨p + 1, false, endT true p out, _, rfl, HQ.out, by omega, by omega, by simp [endT]; omega, S4.adv (p + 1)⟩
        · obtain rfl : so = false := by simpa using hso
          have rg := blk_frozen S2.h0
          have ra := blk_at S2.h0 0 rfl
          have rb := blk_at S2.h0 1 rfl
          obtain ⟨A', c', rfl⟩ := own_slice S2.ho
          by_cases hps : p = s.size
          · have e5 : ((p : Int) == (s.size : Int)) = true := by simp [hps]
            have HQ := Lib.hid ((lexL_end (k := k) (so := false) (out := out) HB4.out (by have := HL.out; omega)).symm.trans HR.out)
            go_wp2_with fail
            exact bodyPost_ret (by simp [results, Tryd.results16, go_sem, ra, rb]) rfl (lex_end S2 (by simpa [endT] using HQ.out))
          · have e5 : ((p : Int) == (s.size : Int)) = false := by simp; omega
            have HQ := Lib.hid ((lexL_line (k := k) (so := false) (out := out) HB4.out (by have := HL.out; omega)).symm.trans HR.out)
            go_wp2_with fail
            go_roundg k
            case measure => omega
            case rel => exact ⟨p + 1, false, endT false p out, _, rfl, HQ.out, by omega, by omega, by simp [endT]; omega, S2.adv (p + 1)⟩
      have e1 : (c == 32) = false := by simp [hb1]
      have e2 : (c == 9) = false := by simp [hb2]
      have e3 : (c == 35) = false := by simp [hb3]
      have e4 : (c == 10) = false := by simp [hb4]
      have h32 : peekL (s.data.toList.drop p) ≠ 32 := by rw [HC.out]; exact hb1
      have h9 : peekL (s.data.toList.drop p) ≠ 9 := by rw [HC.out]; exact hb2
      have h35 : peekL (s.data.toList.drop p) ≠ 35 := by rw [HC.out]; exact hb3
      have h10 : peekL (s.data.toList.drop p) ≠ 10 := by rw [HC.out]; exact hb4
      clear hb1 hb2 hb3 hb4 HC r1 r2 rf
      have hle := tokR_le (s := s.data.toList) (p := p) (by have := HL.out; omega)
      have hlt2 := tokR_lt (s := s.data.toList) (p := p) (by have := HL.out; omega)
      obtain ⟨⟨t, err, q⟩, hT⟩ : ∃ X, tokR s.data.toList p = X := ⟨_, rfl⟩
      rw [hT] at hle hlt2
      have hqs : q ≤ s.size := by have := HL.out; simp only at hle; omega
      have HLT := Lib.hid hlt2
      have HT := Lib.hid hT
      clear hle hlt2 hT
      go_wp2_with fail
      refine (token_c (w.heap.size + 1) p s _ _ _ _ (by omega) hp S2.h1).mono ?_
      rw [HT.out]
      unfold TokPost tokV
      rintro e w3 ⟨rfl, hb3, hk3⟩
      dsimp only
      have S3 := S2.tok hk3 hb3
      clear S2 hb3 hk3
      by_cases herr : err = 0
      · have hq : p < q := HLT.out herr
        have HQ := Lib.hid ((lexL_tok (k := k) (so := so) (out := out) h32 h9 h35 h10 (by rw [HT.out]; exact herr)).symm.trans HR.out)
        rw [HT.out] at HQ
        have HE := Lib.hid herr
        have e5 : (err != 0) = false := by simp [herr]
        clear h32 h9 h35 h10 HR HT HLT herr
        have r1 := blk_at S3.h1 1 rfl
        have r2 := blk_at S3.h1 2 rfl
        have rf := blk_frozen S3.h1
        have hne1 := S3.ne (w.heap.size + 1) (by omega)
        have hlt3 := S3.lt
        have hG0 : ∀ o1 o2 : Obj, ((w3.alloc o1).alloc o2).drew.heap[w3.heap.size + 1]? = some o2 := fun o1 o2 => by have := blk_new (w3.alloc o1) o2; rw [World.size_alloc] at this; exact this
        have m1 : ∀ o1 : Obj, (w3.alloc o1).cell? ⟨w.heap.size + 1, 2, none⟩ = some v := fun o1 => blk_at (blk_alloc S3.h1 o1) 2 rfl
        have m2 : ∀ o1 o2 : Obj, ((w3.alloc o1).alloc o2).cell? ⟨w.heap.size + 1, 2, none⟩ = some v := fun o1 o2 => blk_at (blk_alloc (blk_alloc S3.h1 o1) o2) 2 rfl
        have hres : w.heap.size + 2 ≤ w3.heap.size + 1 := by omega
        go_wp2_with fail
        go_region_law ((refine app1R (w.heap.size + 2) (w3.heap.size + 1) (by rfl) _ _ 24 37 _ 4 40 (by rfl) Tryd.underlying24 tokInfo (by rfl) (by omega) (by omega) v out.length (tokCells out) (tokC t) (0, 0) (by rfl) (by rfl) (by rfl) (by rfl) (((S3.ho.alloc _).alloc _).drew) (hG0 _ _) hres (by omega) ?_; intro g1 cap1 w5 hown hg; have H3 := keepG (blk_alloc S3.h1 _) hg hne1; have q1 := blk_at H3 2 rfl; have q2 := blk_frozen H3 2))
        all_goals
          go_wp2_with fail
          go_roundg k
          case measure => omega
          case rel => exact ⟨q, true, out ++ [t], _, rfl, HQ.out, by omega, by omega, by simp; omega, (S3.move ((((Keeps.refl _ _).alloc _).alloc _).drew)).app hg _ hown⟩
      · have HQ := Lib.hid ((lexL_bad (k := k) (so := so) (out := out) h32 h9 h35 h10 (by rw [HT.out]; exact herr)).symm.trans HR.out)
        rw [HT.out] at HQ
        have e5 : (err != 0) = true := by simp [herr]
        clear h32 h9 h35 h10 HR HT HLT herr
        have r1 := blk_at S3.h1 1 rfl
        have r2 := blk_at S3.h1 2 rfl
        have rf := blk_frozen S3.h1
        have rg := blk_frozen S3.h0
        have ra := blk_at S3.h0 0 rfl
        have rb := blk_at S3.h0 1 rfl
        have hlt3 := S3.lt
        have m0 : ∀ o1 : Obj, (w3.alloc o1).cell? ⟨w.heap.size + 1, 1, none⟩ = some (.int .i64 q) := fun o1 => blk_at (blk_alloc S3.h1 o1) 1 rfl
        have m1 : ∀ o1 : Obj, (w3.alloc o1).cell? ⟨w.heap.size, 0, none⟩ = some (.int .i64 0) := fun o1 => blk_at (blk_alloc S3.h0 o1) 0 rfl
        have m2 : ∀ o1 : Obj, (w3.alloc o1).cell? ⟨w.heap.size, 1, none⟩ = some (.int .i64 0) := fun o1 => blk_at (blk_alloc S3.h0 o1) 1 rfl
        have m3 : ∀ (o1 : Obj) (i : Nat), (w3.alloc o1).frozen? ⟨w.heap.size, i, none⟩ = false := fun o1 i => blk_frozen (blk_alloc S3.h0 o1) i
        go_wp2_with fail
        go_region
        all_goals
          go_wp2_with fail
          exact bodyPost_ret (by simp [results, Tryd.results16, go_sem, m1, m2]) rfl (lex_bad (S3.move ((Keeps.refl _ _).alloc _)) HQ.out)
end Go.Proofs.YtonjhdmnndffkaaDoor
