/- pattern.scan. -/
import Derived.Test.YtonjhdmnndffkaaDoorNeed
import Derived.Test.YtonjhdmnndffkaaDoorReader
import Derived.Test.YtonjhdmnndffkaaDoorApp
import Derived.Lib.UnsafeStr
import Derived.Deep.LoopGhost
namespace Go.Proofs.YtonjhdmnndffkaaDoor
open Go.RowKit
set_option maxRecDepth 100000
set_option linter.unusedSimpArgs false
set_option linter.unusedVariables false

def ints (l : List Int) : List Value := l.map (Value.int .i64)
theorem ints_len (l : List Int) : (ints l).length = l.length := by simp [ints]

/-- How the reading of a text in quotes ends. -/
def ScanPost (R : ScanR) (w : World) (e : Ending) (w' : World) : Prop :=
  Keeps noB w w' ∧ match R with
  | .ok out last => ∃ v ps, e = .returned (.tuple #[.string ⟨out.toArray⟩, v]) ∧ w'.ownsRow w.heap.size 3 1 v (ps.length + 1) (ints (ps ++ [(last : Int)])) ∧ ps.length ≤ 1000000 ∧ last ≤ 1000000
  | .wrong p => e = .panicked [{ v := .iface 138 (.int .i64 p), recovered := false }]
  | .long p => e = .panicked [{ v := .iface 139 (.int .i64 p), recovered := false }]

/-- The state of the reading: at place p, 'out' and 'ps' gathered. -/
structure ScanS (w0 : World) (s : ByteArray) (p : Nat) (out : List UInt8) (ps : List Int) (v9 v10 : Value) (w : World) : Prop where
  h0 : w.heap[w0.heap.size]? = some (.cells #[.string s] 9 (0, 0))
  h1 : w.heap[w0.heap.size + 1]? = some (.cells #[.int .i64 p] 3 (0, 0))
  h9 : w.ownsRow (w0.heap.size + 2) 5 1 v9 out.length (Lib.byteCells out)
  h10 : w.ownsRow (w0.heap.size + 2) 3 1 v10 ps.length (ints ps)
  hk : Keeps noB w0 w
theorem ScanS.at_ {w0 w : World} {s : ByteArray} {p : Nat} {out : List UInt8} {ps : List Int} {v9 v10 : Value} (h : ScanS w0 s p out ps v9 v10 w) : w.cell? ⟨w0.heap.size + 1, 0, none⟩ = some (.int .i64 p) := blk_at h.h1 0 rfl
theorem ScanS.st {w0 w : World} {s : ByteArray} {p : Nat} {out : List UInt8} {ps : List Int} {v9 v10 : Value} (h : ScanS w0 s p out ps v9 v10 w) : w.cell? ⟨w0.heap.size, 0, none⟩ = some (.string s) := blk_at h.h0 0 rfl
theorem ScanS.fz {w0 w : World} {s : ByteArray} {p : Nat} {out : List UInt8} {ps : List Int} {v9 v10 : Value} (h : ScanS w0 s p out ps v9 v10 w) : w.frozen? ⟨w0.heap.size + 1, 0, none⟩ = false := blk_frozen h.h1 0
theorem ScanS.lt {w0 w : World} {s : ByteArray} {p : Nat} {out : List UInt8} {ps : List Int} {v9 v10 : Value} (h : ScanS w0 s p out ps v9 v10 w) : w0.heap.size + 1 < w.heap.size := blk_lt h.h1
theorem ScanS.move {w0 w w' : World} {s : ByteArray} {p : Nat} {out : List UInt8} {ps : List Int} {v9 v10 : Value} (h : ScanS w0 s p out ps v9 v10 w) (k : Keeps noB w w') : ScanS w0 s p out ps v9 v10 w' :=
  ⟨k.obj h.h0 id, k.obj h.h1 id, own_keep h.h9 k fun _ _ => id, own_keep h.h10 k fun _ _ => id, h.hk.quiet k⟩
theorem ScanS.step {w0 w : World} {s : ByteArray} {p : Nat} {out : List UInt8} {ps : List Int} {v9 v10 : Value} (h : ScanS w0 s p out ps v9 v10 w) :
    ScanS w0 s (p + 1) out ps v9 v10 (w.setCell ⟨w0.heap.size + 1, 0, none⟩ (.int .i64 ((p : Int) + 1))) := by
  have hk : Keeps (fun i => i = w0.heap.size + 1) w (w.setCell ⟨w0.heap.size + 1, 0, none⟩ (.int .i64 ((p : Int) + 1))) := (Keeps.refl _ _).setCell _ _ (.inl rfl)
  refine ⟨blk_far h.h0 (by simp) _, by simpa using blk_set h.h1 0 (.int .i64 ((p : Int) + 1)), own_keep h.h9 hk ?_, own_keep h.h10 hk ?_, h.hk.setCell _ _ (.inr (by simp))⟩
  · intro g hg; have := (own_ty h.h9 g hg).1; omega
  · intro g hg; have := (own_ty h.h10 g hg).1; omega
theorem ScanS.app10 {w0 w w' : World} {s : ByteArray} {p : Nat} {out : List UInt8} {ps : List Int} {v9 v10 v' : Value} (h : ScanS w0 s p out ps v9 v10 w) (hg : w.grownBy w' v10.ownBlock) (x : Int)
    (h' : w'.ownsRow (w0.heap.size + 2) 3 1 v' (ps.length + 1) (ints ps ++ [.int .i64 x])) : ScanS w0 s p out (ps ++ [x]) v9 v' w' :=
  ⟨grown_obj h.h10 hg h.h0 (.inl (by omega)), grown_obj h.h10 hg h.h1 (.inl (by omega)), own_apart h.h9 h.h10 (by decide) hg, by simpa [ints] using h', grown_keeps h.hk h.h10 hg (by omega)⟩
theorem ScanS.app9 {w0 w w' : World} {s : ByteArray} {p : Nat} {out : List UInt8} {ps : List Int} {v9 v10 v' : Value} (h : ScanS w0 s p out ps v9 v10 w) (hg : w.grownBy w' v9.ownBlock) (x : UInt8)
    (h' : w'.ownsRow (w0.heap.size + 2) 5 1 v' (out.length + 1) (Lib.byteCells out ++ [.int .u8 x.toNat])) : ScanS w0 s p (out ++ [x]) ps v' v10 w' :=
  ⟨grown_obj h.h9 hg h.h0 (.inl (by omega)), grown_obj h.h9 hg h.h1 (.inl (by omega)), by simpa [Lib.byteCells] using h', own_apart h.h10 h.h9 (by decide) hg, grown_keeps h.hk h.h9 hg (by omega)⟩

/-- What holds at each round's head. -/
def ScanI (w0 : World) (s : ByteArray) (most : Int) (R : ScanR) (k : Nat) (v9 v10 : Value) (wr : World) : Prop :=
  ∃ (p : Nat) (out : List UInt8) (ps : List Int), scanL most k (s.data.toList.drop p) p out = R ∧ s.size < k + p ∧ p ≤ s.size ∧ out.length ≤ p ∧ ps.length ≤ p ∧ ScanS w0 s p out ps v9 v10 wr

theorem scanL_long {most : Int} {k : Nat} {l : List UInt8} {p : Nat} {out : List UInt8} (h : (out.length : Int) = most) (h2 : l.head? ≠ some 34) : scanL most (k + 1) l p out = .long p := by
  unfold scanL; rw [if_pos ⟨h, h2⟩]
theorem scanL_close {most : Int} {k : Nat} {l : List UInt8} {p : Nat} {out : List UInt8} : scanL most (k + 1) (34 :: l) p out = .ok out p := by
  unfold scanL; rw [if_neg (by simp)]; rfl
theorem scanL_bad {most : Int} {k : Nat} {l : List UInt8} {p d : Nat} {out : List UInt8} (h : ¬ (out.length : Int) = most) (h2 : sg l = .bad d) : scanL most (k + 1) l p out = .wrong (p + d) := by
  unfold scanL; rw [if_neg (fun x => h x.1), h2]
theorem scanL_got {most : Int} {k : Nat} {l : List UInt8} {p n : Nat} {c : UInt8} {out : List UInt8} (h : ¬ (out.length : Int) = most) (h2 : sg l = .got c n) (h3 : l.head? ≠ some 34) : scanL most (k + 1) l p out = scanL most k (l.drop n) (p + n) (out ++ [c]) := by
  conv => lhs; unfold scanL
  rw [if_neg (fun x => h x.1), h2]
  simp only
  rw [if_neg h3]
theorem conv_own {w : World} {B : Nat} {v : Value} {out : List UInt8} (h : w.ownsRow B 5 1 v out.length (Lib.byteCells out)) : (convert 68 9 v).run Tryd.prog w = .ok (.string ⟨out.toArray⟩) w := by
  rcases h.2 with ⟨rfl, hn⟩ | ⟨g, cap, cur, rfl, _⟩
  · obtain rfl : out = [] := List.eq_nil_of_length_eq_zero hn
    exact run_convert_bytes_nil w 68 5 Tryd.underlying68 Tryd.underlying5 0 0 9 Tryd.underlying9
  · refine run_convert_bytes_back w _ _ 5 ⟨g, 0, none⟩ cap out Tryd.underlying68 Tryd.underlying5 Tryd.underlying9 ?_
    intro j hj
    exact h.cells (g := g) rfl j _ (by simp [Lib.byteCells, hj])

theorem enters_scan2 : ∀ (args : Array Value) (W : World), (callFunc 95 args).run Tryd.prog W = .ok (.enter 95 args) W := enters_of Tryd.func95 (by kernel_rfl) rfl
theorem enters_scan3 : ∀ (args : Array Value) (W : World), (callFunc 96 args).run Tryd.prog W = .ok (.enter 96 args) W := enters_of Tryd.func96 (by kernel_rfl) rfl
theorem enters_scan4 : ∀ (args : Array Value) (W : World), (callFunc 97 args).run Tryd.prog W = .ok (.enter 97 args) W := enters_of Tryd.func97 (by kernel_rfl) rfl
theorem enters_scan5 : ∀ (args : Array Value) (W : World), (callFunc 98 args).run Tryd.prog W = .ok (.enter 98 args) W := enters_of Tryd.func98 (by kernel_rfl) rfl
theorem enters_scan6 : ∀ (args : Array Value) (W : World), (callFunc 99 args).run Tryd.prog W = .ok (.enter 99 args) W := enters_of Tryd.func99 (by kernel_rfl) rfl


theorem scanR_start (s : ByteArray) (most : Int) (h0 : 0 < s.size) (hq : quoB (s[0].toNat : Int) = true) : scanR s.data.toList most = scanL most s.size (s.data.toList.drop 1) 1 [] := by
  have hd := data_get s 0 h0
  have e34 : s[0] = 34 := UInt8.toNat_inj.1 (by simp [quoB] at hq; show s[0].toNat = 34; omega)
  simp only [List.drop_zero, Nat.zero_add] at hd
  have hl : s.data.toList.length = s.size := by rw [Array.length_toList]; rfl
  unfold scanR
  rw [if_pos (by rw [hd, e34]; rfl), hl]
theorem scanR_no (s : ByteArray) (most : Int) (h : s.data.toList.head? ≠ some 34) : scanR s.data.toList most = .wrong 0 := by
  unfold scanR; rw [if_neg h]
theorem u8Info : (Tryd.prog.info? 5).map (fun i => (i.zero, i.size, i.bytes)) = some (some (.int .u8 0), 1, 1) := by kernel_rfl
theorem intInfo : (Tryd.prog.info? 3).map (fun i => (i.zero, i.size, i.bytes)) = some (some (.int .i64 0), 1, 8) := by kernel_rfl

set_option maxHeartbeats 2000000 in
theorem scan_c (s : ByteArray) (most : Int) (w : World) (hs : s.size ≤ 1000000) :
    Calls Tryd.prog 77 #[.string s, .int .i64 0, .int .i64 most] w (ScanPost (scanR s.data.toList most) w) := by
  have hmf : ∀ (fn : Fn) (first cap : Array Value) (w : World), (Instr.makeFunc fn first cap).run Tryd.prog w = .ok (.func fn first cap) w := fun _ _ _ _ => rfl
  obtain ⟨R, hR⟩ : ∃ R, scanR s.data.toList most = R := ⟨_, rfl⟩
  rw [hR]
  have HR := Lib.hid hR
  clear hR
  have hb0 := blk_alloc (blk_new w (.cells #[.string s] 9)) (.cells #[.int .i64 0] 3)
  have hb1 := blk_new (w.alloc (.cells #[.string s] 9)) (.cells #[.int .i64 0] 3)
  have hk0 := ((Keeps.refl noB w).alloc (.cells #[.string s] 9)).alloc (.cells #[.int .i64 0] 3)
  simp only [World.size_alloc] at hb1
  have hat := blk_at hb1 0 rfl
  have hst := blk_at hb0 0 rfl
  have hfz := blk_frozen hb1 0
  have hz : w.heap.size + 2 ≤ ((w.alloc (.cells #[.string s] 9)).alloc (.cells #[.int .i64 0] 3)).heap.size := by simp
  go_enter Tryd.func77, Tryd.ntmps77
  go_wp2_with fail
  generalize ((w.alloc (Obj.cells #[Value.string s] 9)).alloc (Obj.cells #[Value.int IntKind.i64 0] 3)) = w1 at hb0 hb1 hk0 hat hst hfz hz ⊢
  by_cases h0 : 0 < s.size
  · have hd0 := data_get s 0 h0
    simp only [List.drop_zero] at hd0
    by_cases hq : quoB (s[0].toNat : Int) = true
    · refine (need_ok 95 #[] 0 s (w.heap.size + 1) w.heap.size w1 enters_scan2 (by omega) (by omega) hat hst hfz h0 ?_).mono ?_
      · exact Lib.hid (by have := quo_c (s[0].toNat : Int) w1; rw [hq] at this; exact this)
      rintro e w2 ⟨rfl, hw2⟩
      have hb0' := blk_far hb0 (p := ⟨w.heap.size + 1, 0, none⟩) (by simp) (.int .i64 (((0 : Nat) : Int) + 1))
      have hb1' := blk_set hb1 0 (.int .i64 (((0 : Nat) : Int) + 1))
      have hk2 := hk0.setCell ⟨w.heap.size + 1, 0, none⟩ (.int .i64 (((0 : Nat) : Int) + 1)) (.inr (by simp))
      rw [hw2] at hb0' hb1' hk2
      have hz2 : w.heap.size + 2 ≤ w2.heap.size := by rw [← hw2]; simpa using hz
      clear hb0 hb1 hk0 hat hst hfz hz hw2
      go_wp2_with fail
      go_loopg [9, 10] s.size (fun k v9 v10 wr => ScanI w s most R k v9 v10 wr)
      case atStart =>
        exact ⟨1, [], [], by rw [← HR.out]; exact (scanR_start s most h0 hq).symm, by omega, by omega, by simp, by simp, hb0', by simpa using hb1', World.ownsRow_nil _ _ _ _, World.ownsRow_nil _ _ _ _, hk2⟩
      case round =>
        clear hb0' hb1' hk2 hz2 hd0 HR hq
        obtain ⟨p, out, ps, hR, hk, hp, hol, hpl, S⟩ := hrel
        obtain ⟨k, rfl⟩ : ∃ k, gk = k + 1 := ⟨gk - 1, by omega⟩
        have HR := Lib.hid hR
        clear hR
        have hat := S.at_
        have hst := S.st
        have hfz := S.fz
        have hlt := S.lt
        go_wp2_with (at_builtin; refine app1 (w.heap.size + 2) rfl (.tmp 18) (.tmp 20) 51 3 (.int .i64 0) 1 8 rfl Tryd.underlying51 intInfo rfl (by decide) (by decide) _ _ _ [.int .i64 p] rfl rfl ?c1 rfl S.h10 ?c2 ?c3 ?_)
        case c1 => simp [Value.oneCell']
        case c2 => omega
        case c3 => omega
        intro v10 w3 h10' hg
        have S3 := S.app10 hg p h10'
        clear S hat hst hfz hlt h10' hg
        obtain ⟨A9, c9, rfl⟩ := own_slice S3.h9
        have hat := S3.at_
        have hst := S3.st
        have hfz := S3.fz
        have hlt := S3.lt
        by_cases hpe : p < s.size
        · have HD := Lib.hid (data_get s p hpe)
          by_cases hcl : s[p] = 34
          · have hc34 : ((s[p].toNat : Int) == 34) = true := by rw [hcl]; rfl
            have hc34n : ((s[p].toNat : Int) != 34) = false := by rw [hcl]; rfl
            have hbb : bodyB (s[p].toNat : Int) = true := by rw [hcl]; rfl
            have HC := Lib.hid hcl
            have HB := Lib.hid hbb
            clear hcl hbb
            go_wp2_with fail
            all_goals
              refine (need_ok 96 #[] p s (w.heap.size + 1) w.heap.size w3 enters_scan3 (by omega) (by omega) hat hst hfz hpe ?_).mono ?_
              · exact Lib.hid (by have := body_c (s[p].toNat : Int) w3; rw [HB.out] at this; exact this)
              rintro e w4 ⟨rfl, hw4⟩
              have S4 := S3.step
              rw [hw4] at S4
              have hcv := conv_own S4.h9
              clear hw4
              go_wp2_with fail
              go_ret2
              have hRR : R = .ok out p := by rw [← HR.out, HD.out, HC.out]; exact scanL_close
              rw [hRR]
              exact ⟨S4.hk, v10, ps, rfl, by simpa using own_lower S4.h10 (by omega), by omega, by omega⟩
          · have hc34 : ((s[p].toNat : Int) == 34) = false := by simp; intro h; exact hcl (UInt8.toNat_inj.1 (by show s[p].toNat = 34; omega))
            have hc34n : ((s[p].toNat : Int) != 34) = true := by simp; intro h; exact hcl (UInt8.toNat_inj.1 (by show s[p].toNat = 34; omega))
            have HH := Lib.hid (show (s.data.toList.drop p).head? ≠ some 34 by rw [HD.out]; simpa using hcl)
            clear hcl
            by_cases hA : (out.length : Int) = most
            · have HA := Lib.hid hA
              have hA' : ((out.length : Int) == most) = true := by simpa using hA
              clear hA
              go_wp2_with fail
              have hRR : R = .long p := by rw [← HR.out]; exact scanL_long HA.out HH.out
              rw [hRR]
              exact ⟨rfl, S3.hk, rfl⟩
            · have HA := Lib.hid hA
              have hA' : ((out.length : Int) == most) = false := by simpa using hA
              clear hA
              go_wp2_with fail
              by_cases hbb : bodyB (s[p].toNat : Int) = true
              · have HB := Lib.hid hbb
                clear hbb
                refine (need_ok 96 #[] p s (w.heap.size + 1) w.heap.size w3 enters_scan3 (by omega) (by omega) hat hst hfz hpe ?_).mono ?_
                · exact Lib.hid (by have := body_c (s[p].toNat : Int) w3; rw [HB.out] at this; exact this)
                rintro e w4 ⟨rfl, hw4⟩
                have S4 := S3.step
                rw [hw4] at S4
                clear hw4 hat hst hfz S3
                by_cases h92 : ((s[p].toNat : Int) == 92) = true
                · have h92n : ((s[p].toNat : Int) != 92) = false := by simpa [bne] using h92
                  have H92 := Lib.hid h92
                  clear h92
                  have hat := S4.at_
                  have hst := S4.st
                  have hfz := S4.fz
                  have hlt := S4.lt
                  by_cases hp1 : p + 1 < s.size
                  · have HD1 := Lib.hid (data_get s (p + 1) hp1)
                    by_cases hes : escB s[p + 1] = true
                    · have HE := Lib.hid hes
                      clear hes
                      go_wp2_with fail
                      refine (need_ok 97 #[] (p + 1) s (w.heap.size + 1) w.heap.size w4 enters_scan4 (by omega) (by omega) hat hst hfz hp1 ?_).mono ?_
                      · exact Lib.hid (by have := esc_c s[p + 1] w4; rw [HE.out] at this; exact this)
                      rintro e w5 ⟨rfl, hw5⟩
                      have S5 := S4.step
                      rw [hw5] at S5
                      clear hw5 hat hst hfz hlt S4
                      have hat := S5.at_
                      have hst := S5.st
                      have hfz := S5.fz
                      have hlt := S5.lt
                      by_cases g110 : ((s[p + 1].toNat : Int) == 110) = true
                      · have G110 := Lib.hid g110
                        go_wp2_with (at_builtin; refine app1 (w.heap.size + 2) rfl (.tmp 77) (.tmp 79) 68 5 (.int .u8 0) 1 1 rfl Tryd.underlying68 u8Info rfl (by decide) (by decide) _ _ _ [.int .u8 (10 : UInt8).toNat] rfl rfl ?d1 rfl S5.h9 ?d2 ?d3 ?_)
                        case d1 => simp [Value.oneCell']
                        case d2 => have := S5.lt; omega
                        case d3 => omega
                        intro v9 wz h9' hg
                        have SZ := S5.app9 hg (10) h9'
                        obtain ⟨Az, cz, hz9⟩ := own_slice SZ.h9
                        subst hz9
                        clear h9' hg
                        go_wp2_with fail
                        go_roundg k
                        case measure => omega
                        case rel =>
                          refine ⟨_, _, _, ?_, ?_, ?_, ?_, ?_, SZ⟩
                          · rw [← HR.out, scanL_got HA.out (c := 10) (n := 2) (by rw [HD.out, HD1.out]; simp only [sg, sgEsc, HB.out, H92.out, HE.out, G110.out]; rfl) HH.out, List.drop_drop]
                          · omega
                          · omega
                          · simp; omega
                          · simp; omega
                      · have g110' := Bool.eq_false_iff.2 g110
                        have G110 := Lib.hid g110'
                        clear g110
                        by_cases g114 : ((s[p + 1].toNat : Int) == 114) = true
                        · have G114 := Lib.hid g114
                          go_wp2_with (at_builtin; refine app1 (w.heap.size + 2) rfl (.tmp 77) (.tmp 79) 68 5 (.int .u8 0) 1 1 rfl Tryd.underlying68 u8Info rfl (by decide) (by decide) _ _ _ [.int .u8 (13 : UInt8).toNat] rfl rfl ?d1 rfl S5.h9 ?d2 ?d3 ?_)
                          case d1 => simp [Value.oneCell']
                          case d2 => have := S5.lt; omega
                          case d3 => omega
                          intro v9 wz h9' hg
                          have SZ := S5.app9 hg (13) h9'
                          obtain ⟨Az, cz, hz9⟩ := own_slice SZ.h9
                          subst hz9
                          clear h9' hg
                          go_wp2_with fail
                          go_roundg k
                          case measure => omega
                          case rel =>
                            refine ⟨_, _, _, ?_, ?_, ?_, ?_, ?_, SZ⟩
                            · rw [← HR.out, scanL_got HA.out (c := 13) (n := 2) (by rw [HD.out, HD1.out]; simp only [sg, sgEsc, HB.out, H92.out, HE.out, G110.out, G114.out]; rfl) HH.out, List.drop_drop]
                            · omega
                            · omega
                            · simp; omega
                            · simp; omega
                        · have g114' := Bool.eq_false_iff.2 g114
                          have G114 := Lib.hid g114'
                          clear g114
                          by_cases g116 : ((s[p + 1].toNat : Int) == 116) = true
                          · have G116 := Lib.hid g116
                            go_wp2_with (at_builtin; refine app1 (w.heap.size + 2) rfl (.tmp 77) (.tmp 79) 68 5 (.int .u8 0) 1 1 rfl Tryd.underlying68 u8Info rfl (by decide) (by decide) _ _ _ [.int .u8 (9 : UInt8).toNat] rfl rfl ?d1 rfl S5.h9 ?d2 ?d3 ?_)
                            case d1 => simp [Value.oneCell']
                            case d2 => have := S5.lt; omega
                            case d3 => omega
                            intro v9 wz h9' hg
                            have SZ := S5.app9 hg (9) h9'
                            obtain ⟨Az, cz, hz9⟩ := own_slice SZ.h9
                            subst hz9
                            clear h9' hg
                            go_wp2_with fail
                            go_roundg k
                            case measure => omega
                            case rel =>
                              refine ⟨_, _, _, ?_, ?_, ?_, ?_, ?_, SZ⟩
                              · rw [← HR.out, scanL_got HA.out (c := 9) (n := 2) (by rw [HD.out, HD1.out]; simp only [sg, sgEsc, HB.out, H92.out, HE.out, G110.out, G114.out, G116.out]; rfl) HH.out, List.drop_drop]
                              · omega
                              · omega
                              · simp; omega
                              · simp; omega
                          · have g116' := Bool.eq_false_iff.2 g116
                            have G116 := Lib.hid g116'
                            clear g116
                            by_cases g120 : ((s[p + 1].toNat : Int) == 120) = true
                            · have G120 := Lib.hid g120
                              by_cases hp2 : p + 1 + 1 < s.size
                              · have HD2 := Lib.hid (data_get s (p + 1 + 1) hp2)
                                by_cases hhi : highB (s[p + 1 + 1].toNat : Int) = true
                                · have HI := Lib.hid hhi
                                  clear hhi
                                  go_wp2_with fail
                                  refine (need_ok 98 #[] (p + 1 + 1) s (w.heap.size + 1) w.heap.size w5 enters_scan5 (by omega) (by omega) hat hst hfz hp2 ?_).mono ?_
                                  · exact Lib.hid (by have := high_c (s[p + 1 + 1].toNat : Int) w5; rw [HI.out] at this; exact this)
                                  rintro e w6 ⟨rfl, hw6⟩
                                  have S6 := S5.step
                                  rw [hw6] at S6
                                  clear hw6 hat hst hfz hlt S5
                                  go_wp2_with fail
                                  refine (Tryd.strings_IndexByte _ _ _).mono ?_
                                  rintro e w7 ⟨rfl, hw7⟩
                                  subst hw7
                                  rw [u8_cast, hexI_eq]
                                  have hh0 := high_hex s[p + 1 + 1] HI.out
                                  generalize hX : hexI s[p + 1 + 1] = X at hh0 ⊢
                                  have HX := Lib.hid hX
                                  clear hX
                                  have S7 := S6.move ((Keeps.refl noB _).alloc (.cells #[.int .i64 X] 3))
                                  have hX7 := blk_at (blk_new w7 (.cells #[.int .i64 X] 3)) 0 rfl
                                  have hat := S7.at_
                                  have hst := S7.st
                                  have hfz := S7.fz
                                  have hlt := S6.lt
                                  by_cases hp3 : p + 1 + 1 + 1 < s.size
                                  · have HD3 := Lib.hid (data_get s (p + 1 + 1 + 1) hp3)
                                    by_cases hlo : lowB X s[p + 1 + 1 + 1] = true
                                    · have HL := Lib.hid hlo
                                      clear hlo
                                      go_wp2_with fail
                                      refine (need_ok 99 #[.pointer (some ⟨w7.heap.size, 0, none⟩)] (p + 1 + 1 + 1) s (w.heap.size + 1) w.heap.size _ enters_scan6 (by omega) (by omega) hat hst hfz hp3 ?_).mono ?_
                                      · exact Lib.hid (by have := low_c X hh0.1 hh0.2 w7.heap.size s[p + 1 + 1 + 1] _ hX7; rw [HL.out] at this; exact this)
                                      rintro e w8 ⟨rfl, hw8⟩
                                      have S8 := S7.step
                                      have hX8 := cs_far hX7 (a := ⟨w.heap.size + 1, 0, none⟩) (by show w7.heap.size ≠ w.heap.size + 1; omega) (.int .i64 (((p + 1 + 1 + 1 : Nat) : Int) + 1))
                                      rw [hw8] at S8 hX8
                                      clear hw8 hat hst hfz hlt S7 hX7
                                      have hl0 := low_hex X s[p + 1 + 1 + 1] HL.out
                                      obtain ⟨cu, hcu⟩ := byte_of (X * 16 + hexI s[p + 1 + 1 + 1]) (by omega) (by omega)
                                      have hor := or_hex X (hexI s[p + 1 + 1 + 1]) hh0.1 hh0.2 hl0.1 hl0.2
                                      have hmo : (X * 16 + hexI s[p + 1 + 1 + 1]) % 256 = (cu.toNat : Int) := by omega
                                      have hval : bits .or .i64 (X * 16) (Lib.indexByte [48, 49, 50, 51, 52, 53, 54, 55, 56, 57, 97, 98, 99, 100, 101, 102] s[p + 1 + 1 + 1]) % 256 = (cu.toNat : Int) := by
                                        show bits .or .i64 (X * 16) (hexI s[p + 1 + 1 + 1]) % 256 = (cu.toNat : Int)
                                        rw [hor]; exact hmo
                                      have HV := Lib.hid hval
                                      clear hval hor hmo
                                      have HCU := Lib.hid hcu
                                      clear hcu
                                      go_wp2_with fail
                                      go_quiet ((go_at_call 36; exact Calls.quiet_of_same (Tryd.strings_IndexByte _ _ _)))
                                      rw [HV.out]
                                      have S9 := S8.move (Keeps.drewN (Keeps.refl noB w8) nq)
                                      go_wp2_with (at_builtin; refine app1 (w.heap.size + 2) rfl (.tmp 77) (.tmp 79) 68 5 (.int .u8 0) 1 1 rfl Tryd.underlying68 u8Info rfl (by decide) (by decide) _ _ _ [.int .u8 (cu : UInt8).toNat] rfl rfl ?d1 rfl S9.h9 ?d2 ?d3 ?_)
                                      case d1 => simp [Value.oneCell']
                                      case d2 => have := S9.lt; omega
                                      case d3 => omega
                                      intro v9 wz h9' hg
                                      have SZ := S9.app9 hg (cu) h9'
                                      obtain ⟨Az, cz, hz9⟩ := own_slice SZ.h9
                                      subst hz9
                                      clear h9' hg
                                      go_wp2_with fail
                                      go_roundg k
                                      case measure => omega
                                      case rel =>
                                        refine ⟨_, _, _, ?_, ?_, ?_, ?_, ?_, SZ⟩
                                        · rw [← HR.out, scanL_got HA.out (c := cu) (n := 4) (by rw [HD.out, HD1.out, HD2.out, HD3.out]; simp only [sg, sgEsc, sgHex, HB.out, H92.out, HE.out, G110.out, G114.out, G116.out, G120.out, HI.out, HX.out, HL.out]; simp [← HCU.out]) HH.out, List.drop_drop]
                                        · omega
                                        · omega
                                        · simp; omega
                                        · simp; omega
                                    · have HNO := Lib.hid (Bool.eq_false_iff.2 hlo)
                                      clear hlo
                                      go_wp2_with fail
                                      refine (need_no 99 #[.pointer (some ⟨w7.heap.size, 0, none⟩)] (p + 1 + 1 + 1) s (w.heap.size + 1) w.heap.size _ enters_scan6 (by omega) hat hst hp3 ?_).mono ?_
                                      · exact Lib.hid (by have := low_c X hh0.1 hh0.2 w7.heap.size s[p + 1 + 1 + 1] _ hX7; rw [HNO.out] at this; exact this)
                                      rintro e w9 ⟨rfl, hw9⟩
                                      subst hw9
                                      go_wp2_with fail
                                      have hRR : R = .wrong (p + 1 + 1 + 1) := by rw [← HR.out]; exact scanL_bad (d := 3) HA.out (by rw [HD.out, HD1.out, HD2.out, HD3.out]; simp only [sg, sgEsc, sgHex, HB.out, H92.out, HE.out, G110.out, G114.out, G116.out, G120.out, HI.out, HX.out, HNO.out]; rfl)
                                      rw [hRR]
                                      exact ⟨rfl, S7.hk, rfl⟩
                                  · have HD3 := Lib.hid (data_end s (p + 1 + 1 + 1) (by omega))
                                    go_wp2_with fail
                                    refine (need_end 99 #[.pointer (some ⟨w7.heap.size, 0, none⟩)] (p + 1 + 1 + 1) s (w.heap.size + 1) w.heap.size _ (by omega) hat hst (by omega)).mono ?_
                                    rintro e w9 ⟨rfl, hw9⟩
                                    subst hw9
                                    go_wp2_with fail
                                    have hRR : R = .wrong (p + 1 + 1 + 1) := by rw [← HR.out]; exact scanL_bad (d := 3) HA.out (by rw [HD.out, HD1.out, HD2.out, HD3.out]; simp only [sg, sgEsc, sgHex, HB.out, H92.out, HE.out, G110.out, G114.out, G116.out, G120.out, HI.out]; rfl)
                                    rw [hRR]
                                    exact ⟨rfl, S7.hk, rfl⟩
                                · have HNO := Lib.hid (Bool.eq_false_iff.2 hhi)
                                  clear hhi
                                  go_wp2_with fail
                                  refine (need_no 98 #[] (p + 1 + 1) s (w.heap.size + 1) w.heap.size _ enters_scan5 (by omega) hat hst hp2 ?_).mono ?_
                                  · exact Lib.hid (by have := high_c (s[p + 1 + 1].toNat : Int) w5; rw [HNO.out] at this; exact this)
                                  rintro e w9 ⟨rfl, hw9⟩
                                  subst hw9
                                  go_wp2_with fail
                                  have hRR : R = .wrong (p + 1 + 1) := by rw [← HR.out]; exact scanL_bad (d := 2) HA.out (by rw [HD.out, HD1.out, HD2.out]; simp only [sg, sgEsc, sgHex, HB.out, H92.out, HE.out, G110.out, G114.out, G116.out, G120.out, HNO.out]; rfl)
                                  rw [hRR]
                                  exact ⟨rfl, S5.hk, rfl⟩
                              · have HD2 := Lib.hid (data_end s (p + 1 + 1) (by omega))
                                go_wp2_with fail
                                refine (need_end 98 #[] (p + 1 + 1) s (w.heap.size + 1) w.heap.size _ (by omega) hat hst (by omega)).mono ?_
                                rintro e w9 ⟨rfl, hw9⟩
                                subst hw9
                                go_wp2_with fail
                                have hRR : R = .wrong (p + 1 + 1) := by rw [← HR.out]; exact scanL_bad (d := 2) HA.out (by rw [HD.out, HD1.out, HD2.out]; simp only [sg, sgEsc, sgHex, HB.out, H92.out, HE.out, G110.out, G114.out, G116.out, G120.out]; rfl)
                                rw [hRR]
                                exact ⟨rfl, S5.hk, rfl⟩
                            · have g120' := Bool.eq_false_iff.2 g120
                              have G120 := Lib.hid g120'
                              clear g120
                              go_wp2_with (at_builtin; refine app1 (w.heap.size + 2) rfl (.tmp 77) (.tmp 79) 68 5 (.int .u8 0) 1 1 rfl Tryd.underlying68 u8Info rfl (by decide) (by decide) _ _ _ [.int .u8 (s[p + 1] : UInt8).toNat] rfl rfl ?d1 rfl S5.h9 ?d2 ?d3 ?_)
                              case d1 => simp [Value.oneCell']
                              case d2 => have := S5.lt; omega
                              case d3 => omega
                              intro v9 wz h9' hg
                              have SZ := S5.app9 hg (s[p + 1]) h9'
                              obtain ⟨Az, cz, hz9⟩ := own_slice SZ.h9
                              subst hz9
                              clear h9' hg
                              go_wp2_with fail
                              go_roundg k
                              case measure => omega
                              case rel =>
                                refine ⟨_, _, _, ?_, ?_, ?_, ?_, ?_, SZ⟩
                                · rw [← HR.out, scanL_got HA.out (c := s[p + 1]) (n := 2) (by rw [HD.out, HD1.out]; simp only [sg, sgEsc, HB.out, H92.out, HE.out, G110.out, G114.out, G116.out, G120.out]; rfl) HH.out, List.drop_drop]
                                · omega
                                · omega
                                · simp; omega
                                · simp; omega
                    · have HE := Lib.hid (Bool.eq_false_iff.2 hes)
                      clear hes
                      go_wp2_with fail
                      refine (need_no 97 #[] (p + 1) s (w.heap.size + 1) w.heap.size w4 enters_scan4 (by omega) hat hst hp1 ?_).mono ?_
                      · exact Lib.hid (by have := esc_c s[p + 1] w4; rw [HE.out] at this; exact this)
                      rintro e w5 ⟨rfl, hw5⟩
                      subst hw5
                      go_wp2_with fail
                      have hRR : R = .wrong (p + 1) := by rw [← HR.out]; exact scanL_bad (d := 1) HA.out (by rw [HD.out, HD1.out]; simp only [sg, sgEsc, HB.out, H92.out, HE.out]; rfl)
                      rw [hRR]
                      exact ⟨rfl, S4.hk, rfl⟩
                  · have HD1 := Lib.hid (data_end s (p + 1) (by omega))
                    go_wp2_with fail
                    refine (need_end 97 #[] (p + 1) s (w.heap.size + 1) w.heap.size w4 (by omega) hat hst (by omega)).mono ?_
                    rintro e w5 ⟨rfl, hw5⟩
                    subst hw5
                    go_wp2_with fail
                    have hRR : R = .wrong (p + 1) := by rw [← HR.out]; exact scanL_bad (d := 1) HA.out (by rw [HD.out, HD1.out]; simp only [sg, sgEsc, HB.out, H92.out]; rfl)
                    rw [hRR]
                    exact ⟨rfl, S4.hk, rfl⟩
                · have h92n : ((s[p].toNat : Int) != 92) = true := by simpa [bne] using h92
                  have H92 := Lib.hid (Bool.eq_false_iff.2 h92)
                  clear h92
                  go_wp2_with (at_builtin; refine app1 (w.heap.size + 2) rfl (.tmp 49) (.tmp 51) 68 5 (.int .u8 0) 1 1 rfl Tryd.underlying68 u8Info rfl (by decide) (by decide) _ _ _ [.int .u8 (s[p] : UInt8).toNat] rfl rfl ?d1 rfl S4.h9 ?d2 ?d3 ?_)
                  case d1 => simp [Value.oneCell']
                  case d2 => have := S4.lt; omega
                  case d3 => omega
                  intro v9 wz h9' hg
                  have SZ := S4.app9 hg (s[p]) h9'
                  obtain ⟨Az, cz, hz9⟩ := own_slice SZ.h9
                  subst hz9
                  clear h9' hg
                  go_wp2_with fail
                  go_roundg k
                  case measure => omega
                  case rel =>
                    refine ⟨_, _, _, ?_, ?_, ?_, ?_, ?_, SZ⟩
                    · rw [← HR.out, scanL_got HA.out (c := s[p]) (n := 1) (by rw [HD.out]; simp only [sg, HB.out, H92.out]; rfl) HH.out, List.drop_drop]
                    · omega
                    · omega
                    · simp; omega
                    · simp; omega
              · have HB := Lib.hid (Bool.eq_false_iff.2 hbb)
                clear hbb
                refine (need_no 96 #[] p s (w.heap.size + 1) w.heap.size w3 enters_scan3 (by omega) hat hst hpe ?_).mono ?_
                · exact Lib.hid (by have := body_c (s[p].toNat : Int) w3; rw [HB.out] at this; exact this)
                rintro e w4 ⟨rfl, hw4⟩
                subst hw4
                go_wp2_with fail
                have hRR : R = .wrong p := by rw [← HR.out]; exact scanL_bad (d := 0) HA.out (by rw [HD.out]; simp only [sg, HB.out]; rfl)
                rw [hRR]
                exact ⟨rfl, S3.hk, rfl⟩
        · have HD := Lib.hid (data_end s p (by omega))
          by_cases hA : (out.length : Int) = most
          · have HA := Lib.hid hA
            have hA' : ((out.length : Int) == most) = true := by simpa using hA
            clear hA
            go_wp2_with fail
            have hRR : R = .long p := by rw [← HR.out]; exact scanL_long HA.out (by rw [HD.out]; simp)
            rw [hRR]
            exact ⟨rfl, S3.hk, rfl⟩
          · have HA := Lib.hid hA
            have hA' : ((out.length : Int) == most) = false := by simpa using hA
            clear hA
            go_wp2_with fail
            refine (need_end 96 #[] p s (w.heap.size + 1) w.heap.size w3 (by omega) hat hst (by omega)).mono ?_
            rintro e w4 ⟨rfl, hw4⟩
            subst hw4
            go_wp2_with fail
            have hRR : R = .wrong p := by rw [← HR.out]; exact scanL_bad (d := 0) HA.out (by rw [HD.out]; rfl)
            rw [hRR]
            exact ⟨rfl, S3.hk, rfl⟩
    · have HQ := Lib.hid (Bool.eq_false_iff.2 hq)
      clear hq
      refine (need_no 95 #[] 0 s (w.heap.size + 1) w.heap.size w1 enters_scan2 (by omega) hat hst h0 ?_).mono ?_
      · exact Lib.hid (by have := quo_c (s[0].toNat : Int) w1; rw [HQ.out] at this; exact this)
      rintro e w2 ⟨rfl, hw2⟩
      subst hw2
      go_wp2_with fail
      have hRR : R = .wrong 0 := by
        rw [← HR.out]
        refine scanR_no s most ?_
        rw [hd0]
        intro h
        simp at h
        have := HQ.out
        rw [h] at this
        simp [quoB] at this
      rw [hRR]
      exact ⟨rfl, hk0, rfl⟩
  · refine (need_end 95 #[] 0 s (w.heap.size + 1) w.heap.size w1 (by omega) hat hst (by omega)).mono ?_
    rintro e w2 ⟨rfl, hw2⟩
    subst hw2
    go_wp2_with fail
    have hRR : R = .wrong 0 := by
      rw [← HR.out]
      refine scanR_no s most ?_
      have := data_end s 0 (by omega)
      simp only [List.drop_zero] at this
      rw [this]
      simp
    rw [hRR]
    exact ⟨rfl, hk0, rfl⟩
end Go.Proofs.YtonjhdmnndffkaaDoor
