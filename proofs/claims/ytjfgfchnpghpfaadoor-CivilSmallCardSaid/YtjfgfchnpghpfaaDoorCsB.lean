/- CivilSmall answers true: all dates of its years, all pairs of its numbers, all texts that differ from two in a byte, and lists of holidays are as the reference has them. The listed variables hold what the program's text lays in them. -/
import Derived.Test.YtjfgfchnpghpfaaDoorCsA
import Derived.Test.YtjfgfchnpghpfaaDoorRgx
import Derived.Laws.BytesArg
namespace Go.Proofs.YtjfgfchnpghpfaaDoor
open Go Go.RowKit
theorem wf64 {x : Int} (h0 : -9223372036854775808 ≤ x) (h1 : x ≤ 9223372036854775807) : (Lit.int .i64 x).wf = true := by
  have hmin : IntKind.i64.min = -9223372036854775808 := rfl
  have hmax : IntKind.i64.max = 9223372036854775807 := rfl
  simp only [Lit.wf, Bool.and_eq_true, decide_eq_true_eq, hmin, hmax]
  exact ⟨h0, h1⟩
def I64 (x : Int) : Prop := -9223372036854775808 ≤ x ∧ x ≤ 9223372036854775807
theorem tells_law {y m k n t : Int} (hy : I64 y) (hm : I64 m) (hk : I64 k) (hn : I64 n) (ht : I64 t) {w : World} (hT : Hid (Tab w)) :
    Calls Tryd.prog 4 #[.int .i64 y, .int .i64 m, .int .i64 k, .int .i64 n, .int .i64 t] w fun e w' => e = .returned (.bool true) ∧ Below w.heap.size w w' :=
  walk_CivilTells y (wf64 hy.1 hy.2) m (wf64 hm.1 hm.2) k (wf64 hk.1 hk.2) n (wf64 hn.1 hn.2) t (wf64 ht.1 ht.2) w hT.out
theorem seven {k : Nat} (h : k < 7) : ∃ d : Int, Ls.nth [0, 1, 28, 29, 30, 31, 32] k = d ∧ 0 ≤ d ∧ d ≤ 32 := by
  have : k = 0 ∨ k = 1 ∨ k = 2 ∨ k = 3 ∨ k = 4 ∨ k = 5 ∨ k = 6 := by omega
  rcases this with rfl | rfl | rfl | rfl | rfl | rfl | rfl <;> exact ⟨_, rfl, by decide, by decide⟩
def numbersL : List Int := [-1, 0, 1, 1439, 1440, 730483, 730484, 730485, 1051898399, 1051898400, -9223372036854775808, 9223372036854775807]
theorem twelve {k : Nat} (h : k < 12) : ∃ d : Int, Ls.nth numbersL k = d ∧ I64 d := by
  have : k = 0 ∨ k = 1 ∨ k = 2 ∨ k = 3 ∨ k = 4 ∨ k = 5 ∨ k = 6 ∨ k = 7 ∨ k = 8 ∨ k = 9 ∨ k = 10 ∨ k = 11 := by omega
  rcases this with rfl | rfl | rfl | rfl | rfl | rfl | rfl | rfl | rfl | rfl | rfl | rfl <;> exact ⟨_, rfl, by unfold I64; decide⟩
def S0 : ByteArray := ⟨#[50, 48, 48, 52, 45, 48, 50, 45, 50, 57]⟩
def S1 : ByteArray := ⟨#[52, 48, 48, 48, 45, 49, 50, 45, 51, 49, 32, 50, 51, 58, 53, 57]⟩
theorem two_texts {k : Nat} (h : k < 2) : ∃ s : ByteArray, (#[Value.string S0, .string S1] : Array Value)[k]? = some (.string s) ∧ s.size ≤ 16 := by
  have : k = 0 ∨ k = 1 := by omega
  rcases this with rfl | rfl
  · exact ⟨S0, rfl, by decide⟩
  · exact ⟨S1, rfl, by decide⟩
/-- A text whose byte at i is another one. -/
def putb (s : ByteArray) (i c n : Nat) : ByteArray := s.extract 0 i ++ strOfNums [(c : Int)] ++ s.extract (i + 1) n
theorem putb_size (s : ByteArray) (i c n : Nat) (h : s.size = n) (hn : n ≤ 16) : (putb s i c n).size ≤ maxLen := by
  unfold putb maxLen
  rw [ByteArray.size_append, ByteArray.size_append, ByteArray.size_extract, ByteArray.size_extract, strOfNums_size]
  simp only [List.length_cons, List.length_nil]
  omega
theorem cut0_size (s : ByteArray) (i n : Nat) (h : s.size = n) (hn : n ≤ 16) : (s.extract 0 i).size ≤ maxLen := by
  unfold maxLen
  rw [ByteArray.size_extract]
  omega
theorem cut1_size (s : ByteArray) (i n : Nat) (h : s.size = n) (hn : n ≤ 16) : (s.extract 0 i ++ s.extract (i + 1) n).size ≤ maxLen := by
  unfold maxLen
  rw [ByteArray.size_append, ByteArray.size_extract, ByteArray.size_extract]
  omega
theorem cut2_size (s : ByteArray) (i n : Nat) (h : s.size = n) (hn : n ≤ 16) : (s.extract 0 i ++ ⟨#[32]⟩ ++ s.extract i n).size ≤ maxLen := by
  unfold maxLen
  rw [ByteArray.size_append, ByteArray.size_append, ByteArray.size_extract, ByteArray.size_extract]
  have : (⟨#[32]⟩ : ByteArray).size = 1 := rfl
  omega
theorem reads_law (s : ByteArray) (ws : s.size ≤ maxLen) {w0 w : World} (hT : Hid (Tab w0)) (hb : Below w0.heap.size w0 w) :
    Calls Tryd.prog 7 #[.string s] w fun e w' => e = .returned (.bool true) ∧ Below w.heap.size w w' := walk_CivilReads s ws w (hT.out.on hb)
theorem blk_kp {w w' : World} {g : Nat} {T : TypeId} {cs : Array Value} (h : Kt.Blk w g T cs) (hk : Kt.Kp (fun _ => False) w w') : Kt.Blk w' g T cs := (hk.same g h.lt (fun h => h)).trans h
def csaSlot : Nat → Nat := fun j => match j with | 0 => 105 | 1 => 106 | 2 => 107 | 3 => 108 | 4 => 109 | 5 => 110 | 6 => 111 | 7 => 112 | 8 => 113 | 9 => 114 | 10 => 115 | 11 => 116 | 12 => 117 | 13 => 14 | _ => 999999
def csaS : List Nat := [105, 106, 107, 108, 109, 110, 111, 112, 113, 114, 115, 116, 117, 14]
set_option linter.unusedVariables false in
def csaR (s : ByteArray) (i c n : Nat) : Nat → Value → World → Prop := fun j u w => match j with | 0 => u = (.string s) | 1 => u = (.int .i64 (i : Int)) | 2 => u = (.string (s.extract 0 i)) | 3 => u = (.int .i64 (c : Int)) | 4 => u = (.int .u8 (c : Int)) | 5 => ∃ g : Nat, u = .slice (some ⟨g, 0, none⟩) 1 1 ∧ Kt.Blk w g 5 #[.int .u8 (c : Int)] | 6 => u = (.string (strOfNums [(c : Int)])) | 7 => u = (.string (s.extract 0 i ++ strOfNums [(c : Int)])) | 8 => u = (.string s) | 9 => u = (.int .i64 (i : Int)) | 10 => u = (.int .i64 ((i : Int) + 1)) | 11 => u = (.string (s.extract (i + 1) n)) | 12 => u = (.string (putb s i c n)) | 13 => u = (.string (putb s i c n)) | _ => True
def csaP (a0 : Act) (W : World) (s : ByteArray) (i c n : Nat) : Kt.RxP := ⟨14, csaSlot, csaS, a0, W, fun _ => False, csaR s i c n, fun _ _ _ => True⟩
theorem csa_ok {a0 : Act} {W : World} {s : ByteArray} {i c n : Nat} {listed : Array Bool} {act : Act} {w : World} (_ : Kt.RxI (csaP a0 W s i c n) listed act w) : Kt.RxOk (csaP a0 W s i c n) := by
  refine ⟨fun i hi j hj => (by decide : ∀ i, i < 14 → ∀ j, j < 14 → csaSlot i = csaSlot j → i = j) i hi j hj, fun j u w w' h hk => ?_⟩
  rcases j with _ | _ | _ | _ | _ | _ | _ | _ | _ | _ | _ | _ | _ | _ | j
  · exact h
  · exact h
  · exact h
  · exact h
  · exact h
  · exact (by obtain ⟨g, e, hb⟩ := h; exact ⟨g, e, blk_kp hb hk⟩)
  · exact h
  · exact h
  · exact h
  · exact h
  · exact h
  · exact h
  · exact h
  · exact h
  · exact h
def csbSlot : Nat → Nat := fun j => match j with | 0 => 121 | 1 => 122 | 2 => 123 | 3 => 124 | 4 => 125 | 5 => 126 | 6 => 127 | 7 => 128 | 8 => 129 | 9 => 130 | 10 => 131 | 11 => 132 | 12 => 133 | 13 => 134 | 14 => 135 | 15 => 136 | 16 => 137 | 17 => 138 | 18 => 139 | 19 => 140 | 20 => 141 | 21 => 142 | 22 => 143 | 23 => 144 | 24 => 145 | 25 => 146 | 26 => 147 | 27 => 148 | 28 => 149 | _ => 999999
def csbS : List Nat := [121, 122, 123, 124, 125, 126, 127, 128, 129, 130, 131, 132, 133, 134, 135, 136, 137, 138, 139, 140, 141, 142, 143, 144, 145, 146, 147, 148, 149]
set_option linter.unusedVariables false in
def csbR (s : ByteArray) (i n : Nat) : Nat → Value → World → Prop := fun j u w => match j with | 0 => u = (.string s) | 1 => u = (.int .i64 (i : Int)) | 2 => u = (.string (s.extract 0 i)) | 3 => u = (.bool true) | 4 => u = (.bool false) | 5 => u = (.bool false) | 6 => u = (.string s) | 7 => u = (.int .i64 (i : Int)) | 8 => u = (.string (s.extract 0 i)) | 9 => u = (.string s) | 10 => u = (.int .i64 (i : Int)) | 11 => u = (.int .i64 ((i : Int) + 1)) | 12 => u = (.string (s.extract (i + 1) n)) | 13 => u = (.string (s.extract 0 i ++ s.extract (i + 1) n)) | 14 => u = (.bool true) | 15 => u = (.bool false) | 16 => u = (.bool false) | 17 => u = (.bool false) | 18 => u = (.string s) | 19 => u = (.int .i64 (i : Int)) | 20 => u = (.string (s.extract 0 i)) | 21 => u = (.string (s.extract 0 i ++ (⟨#[32]⟩ : ByteArray))) | 22 => u = (.string s) | 23 => u = (.int .i64 (i : Int)) | 24 => u = (.string (s.extract i n)) | 25 => u = (.string (s.extract 0 i ++ (⟨#[32]⟩ : ByteArray) ++ s.extract i n)) | 26 => u = (.bool true) | 27 => u = (.bool false) | 28 => u = (.bool false) | _ => True
def csbP (a0 : Act) (W : World) (s : ByteArray) (i n : Nat) : Kt.RxP := ⟨29, csbSlot, csbS, a0, W, fun _ => False, csbR s i n, fun _ _ _ => True⟩
theorem csb_ok {a0 : Act} {W : World} {s : ByteArray} {i n : Nat} {listed : Array Bool} {act : Act} {w : World} (_ : Kt.RxI (csbP a0 W s i n) listed act w) : Kt.RxOk (csbP a0 W s i n) := by
  refine ⟨fun i hi j hj => (by decide : ∀ i, i < 29 → ∀ j, j < 29 → csbSlot i = csbSlot j → i = j) i hi j hj, fun j u w w' h hk => ?_⟩
  rcases j with _ | _ | _ | _ | _ | _ | _ | _ | _ | _ | _ | _ | _ | _ | _ | _ | _ | _ | _ | _ | _ | _ | _ | _ | _ | _ | _ | _ | _ | j
  · exact h
  · exact h
  · exact h
  · exact h
  · exact h
  · exact h
  · exact h
  · exact h
  · exact h
  · exact h
  · exact h
  · exact h
  · exact h
  · exact h
  · exact h
  · exact h
  · exact h
  · exact h
  · exact h
  · exact h
  · exact h
  · exact h
  · exact h
  · exact h
  · exact h
  · exact h
  · exact h
  · exact h
  · exact h
  · exact h

set_option maxRecDepth 100000 in
set_option maxHeartbeats 16000000 in
theorem walk_CivilSmall (w : World) (ht : Tab w) :
    Calls Tryd.prog 3 #[] w fun e w' => e = .returned (.bool true) ∧ Below w.heap.size w w' := by
  have HT := Lib.hid ht
  clear ht
  go_enter Tryd.func3, Tryd.ntmps3
  go_wp2_with fail
  go_loopw [1] (fun v wr => ∃ y : Int, 2000 ≤ y ∧ y ≤ 4002 ∧ v = .int .i64 y ∧ Below w.heap.size w wr) (fun v _ => (4002 - intOf v).toNat)
  case atStart => exact ⟨2000, by omega, by omega, rfl, Below.refl _ _⟩
  case round =>
    obtain ⟨y, y0, y1, rfl, hb1⟩ := hrel
    by_cases hy : y ≤ 4001
    · have hmod := Int.emod_nonneg y (show (20 : Int) ≠ 0 by omega)
      have hmod2 := Int.emod_lt_of_pos y (show (0 : Int) < 20 by omega)
      have hme : y.tmod 20 = y % 20 := Int.tmod_eq_emod_of_nonneg (by omega)
      obtain ⟨r, hr⟩ : ∃ r, y % 20 = r := ⟨_, rfl⟩
      rw [hr] at hme hmod hmod2
      clear hr
      obtain ⟨w1, hw1⟩ : ∃ w1, w1 = wr := ⟨_, rfl⟩
      subst hw1
      go_wp2_with fail
      go_loopw [2] (fun v wq => ∃ m : Int, 0 ≤ m ∧ m ≤ 14 ∧ v = .int .i64 m ∧ Below w.heap.size w wq) (fun v _ => (14 - intOf v).toNat)
      case atStart => exact ⟨0, by omega, by omega, rfl, hb1⟩
      case round =>
        obtain ⟨m, m0, m1, rfl, hb2⟩ := hrel
        clear hb1
        by_cases hm : m ≤ 13
        · obtain ⟨w2, hw2⟩ : ∃ w2, w2 = wr := ⟨_, rfl⟩
          subst hw2
          have HZ : Kt.Ints (w2.alloc (.cells #[.int .i64 0, .int .i64 1, .int .i64 28, .int .i64 29, .int .i64 30, .int .i64 31, .int .i64 32] 3)) (w2.alloc (.cells #[.int .i64 0, .int .i64 1, .int .i64 28, .int .i64 29, .int .i64 30, .int .i64 31, .int .i64 32] 3)).heap.size .i64 (some ⟨w2.heap.size, 0, none⟩) [0, 1, 28, 29, 30, 31, 32] := Kt.ints_lit _ _ _ _ _ rfl
          have hb3 : Below w.heap.size w (w2.alloc (.cells #[.int .i64 0, .int .i64 1, .int .i64 28, .int .i64 29, .int .i64 30, .int .i64 31, .int .i64 32] 3)) := hb2.alloc hb2.size _
          obtain ⟨wA, hwA⟩ : ∃ wA, w2.alloc (.cells #[.int .i64 0, .int .i64 1, .int .i64 28, .int .i64 29, .int .i64 30, .int .i64 31, .int .i64 32] 3) = wA := ⟨_, rfl⟩
          rw [hwA] at HZ hb3
          go_wp2_with fail
          clear hwA
          go_loopw [26] (fun v wq => ∃ k : Nat, k ≤ 7 ∧ v = .int .i64 k ∧ Below wA.heap.size wA wq) (fun v _ => 7 - (intOf v).toNat)
          case atStart => exact ⟨0, by omega, rfl, Below.refl _ _⟩
          case round =>
            obtain ⟨k, hk, rfl, hb4⟩ := hrel
            have hb5 := Kt.next hb3 hb4
            by_cases hlt : k < 7
            · obtain ⟨g, o, hA, hgl, hc⟩ := (HZ.on hb4) (by simp)
              injection hA with hA
              injection hA with hA1 hA2
              subst hA1 hA2
              have hcell := hc k (by simpa using hlt)
              obtain ⟨d, hd, d0, d1⟩ := seven hlt
              rw [hd, Nat.zero_add] at hcell
              have HT5 := Lib.hid (HT.out.on hb5)
              clear hc hd
              by_cases c1 : 2005 < y
              · by_cases c2 : y < 3996
                · by_cases c3 : 1 < r
                  · go_wp2_with fail
                    go_roundw
                    case rel => exact ⟨k + 1, by omega, by go_num, hb4⟩
                    case measure => simp [intOf]; omega
                  · go_wp2_with fail
                    refine (tells_law (by unfold I64; omega) (by unfold I64; omega) (by unfold I64; omega) (by unfold I64; omega) (by unfold I64; omega) HT5).mono ?_
                    rintro e w3 ⟨rfl, b3⟩
                    go_wp2_with fail
                    go_roundw
                    case rel => exact ⟨k + 1, by omega, by go_num, Kt.next hb4 b3⟩
                    case measure => simp [intOf]; omega
                · go_wp2_with fail
                  refine (tells_law (by unfold I64; omega) (by unfold I64; omega) (by unfold I64; omega) (by unfold I64; omega) (by unfold I64; omega) HT5).mono ?_
                  rintro e w3 ⟨rfl, b3⟩
                  go_wp2_with fail
                  go_roundw
                  case rel => exact ⟨k + 1, by omega, by go_num, Kt.next hb4 b3⟩
                  case measure => simp [intOf]; omega
              · go_wp2_with fail
                refine (tells_law (by unfold I64; omega) (by unfold I64; omega) (by unfold I64; omega) (by unfold I64; omega) (by unfold I64; omega) HT5).mono ?_
                rintro e w3 ⟨rfl, b3⟩
                go_wp2_with fail
                go_roundw
                case rel => exact ⟨k + 1, by omega, by go_num, Kt.next hb4 b3⟩
                case measure => simp [intOf]; omega
            · clear hme
              go_wp2_with fail
              go_roundw
              case rel => exact ⟨m + 1, by omega, by omega, by go_num, hb5⟩
              case measure => simp [intOf]; omega
        · clear hme
          go_wp2_with fail
          go_roundw
          case rel => exact ⟨y + 1, by omega, by omega, by go_num, hb2⟩
          case measure => simp [intOf]; omega
    · have HZ : Kt.Ints (wr.alloc (.cells #[.int .i64 (-1), .int .i64 0, .int .i64 1, .int .i64 1439, .int .i64 1440, .int .i64 730483, .int .i64 730484, .int .i64 730485, .int .i64 1051898399, .int .i64 1051898400, .int .i64 (-9223372036854775808), .int .i64 9223372036854775807] 3)) (wr.alloc (.cells #[.int .i64 (-1), .int .i64 0, .int .i64 1, .int .i64 1439, .int .i64 1440, .int .i64 730483, .int .i64 730484, .int .i64 730485, .int .i64 1051898399, .int .i64 1051898400, .int .i64 (-9223372036854775808), .int .i64 9223372036854775807] 3)).heap.size .i64 (some ⟨wr.heap.size, 0, none⟩) numbersL := Kt.ints_lit _ _ _ _ _ rfl
      have hb3 : Below w.heap.size w (wr.alloc (.cells #[.int .i64 (-1), .int .i64 0, .int .i64 1, .int .i64 1439, .int .i64 1440, .int .i64 730483, .int .i64 730484, .int .i64 730485, .int .i64 1051898399, .int .i64 1051898400, .int .i64 (-9223372036854775808), .int .i64 9223372036854775807] 3)) := hb1.alloc hb1.size _
      obtain ⟨wN, hwN⟩ : ∃ wN, wr.alloc (.cells #[.int .i64 (-1), .int .i64 0, .int .i64 1, .int .i64 1439, .int .i64 1440, .int .i64 730483, .int .i64 730484, .int .i64 730485, .int .i64 1051898399, .int .i64 1051898400, .int .i64 (-9223372036854775808), .int .i64 9223372036854775807] 3) = wN := ⟨_, rfl⟩
      rw [hwN] at HZ hb3
      obtain ⟨w1, hw1⟩ : ∃ w1, w1 = wr := ⟨_, rfl⟩
      subst hw1
      go_wp2_with fail
      clear hwN
      go_loopw [50] (fun v wq => ∃ k : Nat, k ≤ 12 ∧ v = .int .i64 k ∧ Below wN.heap.size wN wq) (fun v _ => 12 - (intOf v).toNat)
      case atStart => exact ⟨0, by omega, rfl, Below.refl _ _⟩
      case round =>
        obtain ⟨k, hk, rfl, hb4⟩ := hrel
        by_cases hlt : k < 12
        · obtain ⟨g, o, hA, hgl, hc⟩ := (HZ.on hb4) (by simp [numbersL])
          injection hA with hA
          injection hA with hA1 hA2
          subst hA1 hA2
          have hcell := hc k (by simpa [numbersL] using hlt)
          obtain ⟨a, hd, ha⟩ := twelve hlt
          rw [hd, Nat.zero_add] at hcell
          clear hc hd
          obtain ⟨wq, hwq⟩ : ∃ w1, w1 = wr := ⟨_, rfl⟩
          subst hwq
          go_wp2_with fail
          clear hcell
          go_loopw [56] (fun v wq => ∃ j : Nat, j ≤ 12 ∧ v = .int .i64 j ∧ Below wN.heap.size wN wq) (fun v _ => 12 - (intOf v).toNat)
          case atStart => exact ⟨0, by omega, rfl, hb4⟩
          case round =>
            obtain ⟨j, hj, rfl, hb5⟩ := hrel
            by_cases hlj : j < 12
            · obtain ⟨g, o, hA, hgl, hc⟩ := (HZ.on hb5) (by simp [numbersL])
              injection hA with hA
              injection hA with hA1 hA2
              subst hA1 hA2
              have hcell := hc j (by simpa [numbersL] using hlj)
              obtain ⟨b, hd, hb⟩ := twelve hlj
              rw [hd, Nat.zero_add] at hcell
              have hb6 := Kt.next hb3 hb5
              have HT6 := Lib.hid (HT.out.on hb6)
              have HA := Lib.hid ha
              have HB := Lib.hid hb
              clear hc hd hb
              go_wp2_with fail
              refine (lawdate_any a b _ HT6.out).mono ?_
              rintro e w7 ⟨rfl, b7⟩
              have HT7 := Lib.hid (HT6.out.on b7)
              go_wp2_with fail
              refine (tells_law HA.out HB.out HA.out HB.out HA.out HT7).mono ?_
              rintro e w8 ⟨rfl, b8⟩
              replace b8 := Kt.next b7 b8
              go_wp2_with fail
              refine (works_law none 0 0 [] a b 0 101 1231 _ rfl (by omega) Kt.Ints.nil (fun _ => ⟨rfl, rfl⟩) (by omega) (by omega) (by omega) (by omega) (by omega)).mono ?_
              rintro e w9 ⟨rfl, b9⟩
              replace b9 := Kt.next b8 b9
              have HZ9 : Kt.Ints (w9.alloc (.cells #[.int .i64 0, .int .i64 1] 3)) (w9.alloc (.cells #[.int .i64 0, .int .i64 1] 3)).heap.size .i64 (some ⟨w9.heap.size, 0, none⟩) [0, 1] := Kt.ints_lit _ _ _ _ _ rfl
              have b10 := (Kt.next hb5 b9).alloc (Kt.next hb5 b9).size (.cells #[.int .i64 0, .int .i64 1] 3)
              obtain ⟨w10, hw10⟩ : ∃ wA, w9.alloc (.cells #[.int .i64 0, .int .i64 1] 3) = wA := ⟨_, rfl⟩
              rw [hw10] at HZ9 b10
              go_wp2_with fail
              refine (works_law _ 2 2 [0, 1] a a b 228 301 _ rfl (by omega) HZ9 (fun e => by cases e) HB.out.2 (by omega) (by omega) (by omega) (by omega)).mono ?_
              rintro e w11 ⟨rfl, b11⟩
              go_wp2_with fail
              go_roundw
              case rel => exact ⟨j + 1, by omega, by go_num, Kt.next b10 b11⟩
              case measure => simp [intOf]; omega
            · go_wp2_with fail
              go_roundw
              case rel => exact ⟨k + 1, by omega, by go_num, hb5⟩
              case measure => simp [intOf]; omega
        · have hb5 := Kt.next hb3 hb4
          have hB : Kt.Blk (wr.alloc (.cells #[.string S0, .string S1] 9)) wr.heap.size 9 #[.string S0, .string S1] := Kt.Blk.new _ _ _
          have hb6 : Below w.heap.size w (wr.alloc (.cells #[.string S0, .string S1] 9)) := hb5.alloc hb5.size _
          obtain ⟨wS, hwS⟩ : ∃ wS, wr.alloc (.cells #[.string S0, .string S1] 9) = wS := ⟨_, rfl⟩
          rw [hwS] at hB hb6
          obtain ⟨wq, hwq⟩ : ∃ w1, w1 = wr := ⟨_, rfl⟩
          subst hwq
          go_wp2_with fail
          refine cs_rename (w' := wS) (by rw [← hwS]; rfl) ?_
          clear hwS HZ hb4 hb5 hb3
          go_loopw [91] (fun v wq => ∃ k : Nat, k ≤ 2 ∧ v = .int .i64 k ∧ Below wS.heap.size wS wq) (fun v _ => 2 - (intOf v).toNat)
          case atStart => exact ⟨0, by omega, rfl, Below.refl _ _⟩
          case round =>
            obtain ⟨k, hk, rfl, hb7⟩ := hrel
            by_cases hlt : k < 2
            · have hdk : decide ((k : Int) < 2) = true := by simp; omega
              obtain ⟨s, hs, hn⟩ := two_texts hlt
              have hcell := (hB.on hb7).cell k
              rw [hs] at hcell
              obtain ⟨n, hn2⟩ : ∃ n, s.size = n := ⟨_, rfl⟩
              rw [hn2] at hn
              have hn16 := hn
              clear hs
              go_wp2_with fail
              have HB7 := Lib.hid (Kt.next hb6 hb7)
              have HT7 := Lib.hid (HT.out.on HB7.out)
              obtain ⟨w7, hw7⟩ : ∃ w1, w1 = wr := ⟨_, rfl⟩
              subst hw7
              go_loopw [12] (fun v wq => ∃ i : Nat, i ≤ n ∧ v = .int .i64 i ∧ Below w7.heap.size w7 wq) (fun v _ => n - (intOf v).toNat)
              case atStart => exact ⟨0, by omega, rfl, Below.refl _ _⟩
              case round =>
                obtain ⟨i, hi, rfl, hb8⟩ := hrel
                by_cases hin : i < n
                · obtain ⟨w8, hw8⟩ : ∃ w1, w1 = wr := ⟨_, rfl⟩
                  subst hw8
                  have hie : i ≤ s.size := by omega
                  have hie2 : i + 1 ≤ s.size := by omega
                  have hti : ((i : Int) + 1).toNat = i + 1 := by omega
                  go_wp2_with fail
                  go_loopw [13] (fun v wq => ∃ c : Nat, c ≤ 256 ∧ v = .int .i64 c ∧ Below w7.heap.size w7 wq) (fun v _ => 256 - (intOf v).toNat)
                  case atStart => exact ⟨0, by omega, rfl, hb8⟩
                  case round =>
                    obtain ⟨c, hc, rfl, hb9⟩ := hrel
                    by_cases hlc : c < 256
                    · have hwc : IntKind.u8.wrap (c : Int) = (c : Int) := IntWalk.u8_in _ (by omega)
                      obtain ⟨w9, hw9⟩ : ∃ w1, w1 = wr := ⟨_, rfl⟩
                      subst hw9
                      go_upto_region 34 with fail
                      refine Kt.wp_any_act ?_
                      intro a0 ha0
                      have q11 : Kt.val a0 11 = .string s := by rw [ha0]; rfl
                      have q12 : Kt.val a0 12 = .int .i64 (i : Int) := by rw [ha0]; rfl
                      have q13 : Kt.val a0 13 = .int .i64 (c : Int) := by rw [ha0]; rfl
                      have qsz : 118 ≤ a0.tmps.size := by rw [ha0]; exact Nat.le_of_ble_eq_true rfl
                      have HA0 := Lib.hid ha0
                      clear ha0
                      refine Kt.region_inv2 (Kt.RxI (csaP a0 w9 s i c n)) (by kernel_rfl) (Kt.RxI.start trivial) ?hstep ?hdone
                      case hstep =>
                        intro listed act w2 q o hI ho hn hpre
                        have ok := csa_ok hI
                        rcases q with _ | _ | _ | _ | _ | _ | _ | _ | _ | _ | _ | _ | _ | _ | q
                        · cases Option.some.inj ho
                          refine Kt.no_guard rfl ?_
                          refine Kt.op_move rfl ?_
                          rw [show act.eval (.tmp 11) = .string s from (hI.frame.val_out (s := 11) (show 11 ∉ csaS by decide)).trans q11]
                          exact hI.put ok (j := 0) (Nat.le_of_ble_eq_true rfl) rfl (show (105 : Nat) ∈ csaS by decide) (Nat.lt_of_lt_of_le (show 105 < 118 by decide) qsz) (Kt.Kp.refl _ _) rfl hI.st
                        · cases Option.some.inj ho
                          refine Kt.no_guard rfl ?_
                          refine Kt.op_move rfl ?_
                          rw [show act.eval (.tmp 12) = .int .i64 (i : Int) from (hI.frame.val_out (s := 12) (show 12 ∉ csaS by decide)).trans q12]
                          exact hI.put ok (j := 1) (Nat.le_of_ble_eq_true rfl) rfl (show (106 : Nat) ∈ csaS by decide) (Nat.lt_of_lt_of_le (show 106 < 118 by decide) qsz) (Kt.Kp.refl _ _) rfl hI.st
                        · cases Option.some.inj ho
                          refine Kt.no_guard rfl ?_
                          have e0 : act.tmps[105]?.getD undef = .string s := hI.eq (j := 0) (Nat.le_of_ble_eq_true rfl) rfl (fun _ _ h => h) (hpre ⟨0, .data⟩ (by simp) rfl)
                          have e1 : act.tmps[106]?.getD undef = .int .i64 (i : Int) := hI.eq (j := 1) (Nat.le_of_ble_eq_true rfl) rfl (fun _ _ h => h) (hpre ⟨1, .data⟩ (by simp) rfl)
                          have hk := hI.put ok (j := 2) (s := 107) (v := .string (s.extract 0 i)) (Nat.le_of_ble_eq_true rfl) rfl (show (107 : Nat) ∈ csaS by decide) (Nat.lt_of_lt_of_le (show 107 < 118 by decide) qsz) (Kt.Kp.refl _ _) rfl hI.st
                          refine Kt.op_opq hk ?_
                          clear hk
                          intro KK hkk
                          unfold Oper.wp
                          go_simp
                          exact hkk
                        · cases Option.some.inj ho
                          refine Kt.no_guard rfl ?_
                          refine Kt.op_move rfl ?_
                          rw [show act.eval (.tmp 13) = .int .i64 (c : Int) from (hI.frame.val_out (s := 13) (show 13 ∉ csaS by decide)).trans q13]
                          exact hI.put ok (j := 3) (Nat.le_of_ble_eq_true rfl) rfl (show (108 : Nat) ∈ csaS by decide) (Nat.lt_of_lt_of_le (show 108 < 118 by decide) qsz) (Kt.Kp.refl _ _) rfl hI.st
                        · cases Option.some.inj ho
                          refine Kt.no_guard rfl ?_
                          have e3 : act.tmps[108]?.getD undef = .int .i64 (c : Int) := hI.eq (j := 3) (Nat.le_of_ble_eq_true rfl) rfl (fun _ _ h => h) (hpre ⟨3, .data⟩ (by simp) rfl)
                          have hk := hI.put ok (j := 4) (s := 109) (v := .int .u8 (c : Int)) (Nat.le_of_ble_eq_true rfl) rfl (show (109 : Nat) ∈ csaS by decide) (Nat.lt_of_lt_of_le (show 109 < 118 by decide) qsz) (Kt.Kp.refl _ _) rfl hI.st
                          refine Kt.op_opq hk ?_
                          clear hk
                          intro KK hkk
                          unfold Oper.wp
                          go_simp
                          exact hkk
                        · cases Option.some.inj ho
                          refine Kt.no_guard rfl ?_
                          have e4 : act.tmps[109]?.getD undef = .int .u8 (c : Int) := hI.eq (j := 4) (Nat.le_of_ble_eq_true rfl) rfl (fun _ _ h => h) (hpre ⟨4, .data⟩ (by simp) rfl)
                          refine Kt.op_opc (s := 110) (fun v w3 => v = .slice (some ⟨w2.heap.size, 0, none⟩) 1 1 ∧ w2.alloc (.cells #[.int .u8 (c : Int)] 5) = w3) ?_ ?_
                          · intro KK hkk
                            unfold Oper.wp
                            go_simp
                            exact hkk _ _ ⟨rfl, rfl⟩
                          rintro v3 w3 ⟨rfl, rfl⟩
                          exact hI.put ok (j := 5) (s := 110) (v := .slice (some ⟨w2.heap.size, 0, none⟩) 1 1) (w' := w2.alloc (.cells #[.int .u8 (c : Int)] 5)) (Nat.le_of_ble_eq_true rfl) rfl (show (110 : Nat) ∈ csaS by decide) (Nat.lt_of_lt_of_le (show 110 < 118 by decide) qsz) (Kt.Kp.alloc _ _ _) ⟨w2.heap.size, rfl, Kt.Blk.new _ _ _⟩ trivial
                        · cases Option.some.inj ho
                          refine Kt.no_guard rfl ?_
                          have r5 := hI.get (j := 5) (s := 110) (Nat.le_of_ble_eq_true rfl) rfl (hpre ⟨5, .data⟩ (by simp) rfl)
                          obtain ⟨g, r5, hbk⟩ := r5
                          have hcv := run_convert_bytes_arg (P := Tryd.prog) w2 27 5 Tryd.underlying27 Tryd.underlying5 g 0 1 1 [(c : Int)] rfl (fun q hq => by
                            obtain rfl : q = 0 := by omega
                            exact hbk.cell 0) 9 Tryd.underlying9
                          have hk := hI.put ok (j := 6) (s := 111) (v := .string (strOfNums [(c : Int)])) (Nat.le_of_ble_eq_true rfl) rfl (show (111 : Nat) ∈ csaS by decide) (Nat.lt_of_lt_of_le (show 111 < 118 by decide) qsz) (Kt.Kp.refl _ _) rfl hI.st
                          refine Kt.op_opq hk ?_
                          clear hk
                          intro KK hkk
                          unfold Oper.wp
                          go_simp
                          exact hkk
                        · cases Option.some.inj ho
                          refine Kt.no_guard rfl ?_
                          have e2 : act.tmps[107]?.getD undef = .string (s.extract 0 i) := hI.eq (j := 2) (Nat.le_of_ble_eq_true rfl) rfl (fun _ _ h => h) (hpre ⟨2, .data⟩ (by simp) rfl)
                          have e6 : act.tmps[111]?.getD undef = .string (strOfNums [(c : Int)]) := hI.eq (j := 6) (Nat.le_of_ble_eq_true rfl) rfl (fun _ _ h => h) (hpre ⟨6, .data⟩ (by simp) rfl)
                          have hz1 : (strOfNums [(c : Int)]).size = 1 := strOfNums_size _
                          have hq : ¬ (9223372036854775807 < i + 1) := by omega
                          have hk := hI.put ok (j := 7) (s := 112) (v := .string (s.extract 0 i ++ strOfNums [(c : Int)])) (Nat.le_of_ble_eq_true rfl) rfl (show (112 : Nat) ∈ csaS by decide) (Nat.lt_of_lt_of_le (show 112 < 118 by decide) qsz) (Kt.Kp.refl _ _) rfl hI.st
                          refine Kt.op_opq hk ?_
                          clear hk
                          intro KK hkk
                          unfold Oper.wp
                          go_simp
                          exact hkk
                        · cases Option.some.inj ho
                          refine Kt.no_guard rfl ?_
                          refine Kt.op_move rfl ?_
                          rw [show act.eval (.tmp 11) = .string s from (hI.frame.val_out (s := 11) (show 11 ∉ csaS by decide)).trans q11]
                          exact hI.put ok (j := 8) (Nat.le_of_ble_eq_true rfl) rfl (show (113 : Nat) ∈ csaS by decide) (Nat.lt_of_lt_of_le (show 113 < 118 by decide) qsz) (Kt.Kp.refl _ _) rfl hI.st
                        · cases Option.some.inj ho
                          refine Kt.no_guard rfl ?_
                          refine Kt.op_move rfl ?_
                          rw [show act.eval (.tmp 12) = .int .i64 (i : Int) from (hI.frame.val_out (s := 12) (show 12 ∉ csaS by decide)).trans q12]
                          exact hI.put ok (j := 9) (Nat.le_of_ble_eq_true rfl) rfl (show (114 : Nat) ∈ csaS by decide) (Nat.lt_of_lt_of_le (show 114 < 118 by decide) qsz) (Kt.Kp.refl _ _) rfl hI.st
                        · cases Option.some.inj ho
                          refine Kt.no_guard rfl ?_
                          have e9 : act.tmps[114]?.getD undef = .int .i64 (i : Int) := hI.eq (j := 9) (Nat.le_of_ble_eq_true rfl) rfl (fun _ _ h => h) (hpre ⟨9, .data⟩ (by simp) rfl)
                          have hwi : IntKind.i64.wrap ((i : Int) + 1) = (i : Int) + 1 := IntWalk.i64_in _ (by omega)
                          have hk := hI.put ok (j := 10) (s := 115) (v := .int .i64 ((i : Int) + 1)) (Nat.le_of_ble_eq_true rfl) rfl (show (115 : Nat) ∈ csaS by decide) (Nat.lt_of_lt_of_le (show 115 < 118 by decide) qsz) (Kt.Kp.refl _ _) rfl hI.st
                          refine Kt.op_opq hk ?_
                          clear hk
                          intro KK hkk
                          unfold Oper.wp
                          go_simp
                          exact hkk
                        · cases Option.some.inj ho
                          refine Kt.no_guard rfl ?_
                          have e8 : act.tmps[113]?.getD undef = .string s := hI.eq (j := 8) (Nat.le_of_ble_eq_true rfl) rfl (fun _ _ h => h) (hpre ⟨8, .data⟩ (by simp) rfl)
                          have e10 : act.tmps[115]?.getD undef = .int .i64 ((i : Int) + 1) := hI.eq (j := 10) (Nat.le_of_ble_eq_true rfl) rfl (fun _ _ h => h) (hpre ⟨10, .data⟩ (by simp) rfl)
                          have hq0 : (0 : Int) ≤ (i : Int) + 1 := by omega
                          have hq1 : (i : Int) + 1 ≤ (n : Int) := by omega
                          have hk := hI.put ok (j := 11) (s := 116) (v := .string (s.extract (i + 1) n)) (Nat.le_of_ble_eq_true rfl) rfl (show (116 : Nat) ∈ csaS by decide) (Nat.lt_of_lt_of_le (show 116 < 118 by decide) qsz) (Kt.Kp.refl _ _) rfl hI.st
                          refine Kt.op_opq hk ?_
                          clear hk
                          intro KK hkk
                          unfold Oper.wp
                          go_simp
                          exact hkk
                        · cases Option.some.inj ho
                          refine Kt.no_guard rfl ?_
                          have e7 : act.tmps[112]?.getD undef = .string (s.extract 0 i ++ strOfNums [(c : Int)]) := hI.eq (j := 7) (Nat.le_of_ble_eq_true rfl) rfl (fun _ _ h => h) (hpre ⟨7, .data⟩ (by simp) rfl)
                          have e11 : act.tmps[116]?.getD undef = .string (s.extract (i + 1) n) := hI.eq (j := 11) (Nat.le_of_ble_eq_true rfl) rfl (fun _ _ h => h) (hpre ⟨11, .data⟩ (by simp) rfl)
                          have hz1 : (strOfNums [(c : Int)]).size = 1 := strOfNums_size _
                          have hq : ¬ (9223372036854775807 < i + 1 + (n - (i + 1))) := by omega
                          have hk := hI.put ok (j := 12) (s := 117) (v := .string (putb s i c n)) (Nat.le_of_ble_eq_true rfl) rfl (show (117 : Nat) ∈ csaS by decide) (Nat.lt_of_lt_of_le (show 117 < 118 by decide) qsz) (Kt.Kp.refl _ _) rfl hI.st
                          refine Kt.op_opq hk ?_
                          clear hk
                          intro KK hkk
                          unfold Oper.wp
                          go_simp
                          exact hkk
                        · cases Option.some.inj ho
                          refine Kt.no_guard rfl ?_
                          have e12 : act.tmps[117]?.getD undef = .string (putb s i c n) := hI.eq (j := 12) (Nat.le_of_ble_eq_true rfl) rfl (fun _ _ h => h) (hpre ⟨12, .data⟩ (by simp) rfl)
                          refine Kt.op_assign rfl ?_
                          rw [show act.eval (.tmp 117) = .string (putb s i c n) from (Kt.val_get act 117).trans e12]
                          exact hI.put ok (j := 13) (Nat.le_of_ble_eq_true rfl) rfl (show (14 : Nat) ∈ csaS by decide) (Nat.lt_of_lt_of_le (show 14 < 118 by decide) qsz) (Kt.Kp.refl _ _) rfl hI.st
                        · exfalso; simp at ho
                      case hdone =>
                        intro listed act w2 hI hr
                        have hup := Kt.all_up (fun q o ho => by
                          rcases q with _ | _ | _ | _ | _ | _ | _ | _ | _ | _ | _ | _ | _ | _ | q
                          all_goals first | (cases Option.some.inj ho; decide) | (exfalso; simp at ho)) hI.size hr
                        have z14 : Kt.val act 14 = .string (putb s i c n) := hI.res 13 (Nat.le_of_ble_eq_true rfl) (hup 13 (Nat.le_of_ble_eq_true rfl))
                        have hst := hI.st
                        have hkept := hI.kept
                        have ha0 := HA0.out
                        subst ha0
                        rw [hI.frame.out]
                        simp only [csaP, csaS, Kt.sets]
                        have hkb : Below w9.heap.size w9 w2 := hkept.to_below (Nat.le_refl _) (fun _ _ h => h)
                        generalize Kt.val act 105 = v105
                        generalize Kt.val act 106 = v106
                        generalize Kt.val act 107 = v107
                        generalize Kt.val act 108 = v108
                        generalize Kt.val act 109 = v109
                        generalize Kt.val act 110 = v110
                        generalize Kt.val act 111 = v111
                        generalize Kt.val act 112 = v112
                        generalize Kt.val act 113 = v113
                        generalize Kt.val act 114 = v114
                        generalize Kt.val act 115 = v115
                        generalize Kt.val act 116 = v116
                        generalize Kt.val act 117 = v117
                        generalize Kt.val act 14 = v14 at z14 ⊢
                        simp only [List.setIfInBounds_toArray, List.set_cons_zero, List.set_cons_succ]
                        subst z14
                        clear hI hr hup
                        clear hst hkept q11 q12 q13 qsz HA0
                        have hps := putb_size s i c n hn2 hn16
                        generalize putb s i c n = pb at hps ⊢
                        go_wp2_with fail
                        refine (reads_law pb hps HT7 (hb9.trans (hkb.mono hb9.size))).mono ?_
                        rintro e wf ⟨rfl, bf⟩
                        go_wp2_with fail
                        go_roundw
                        case rel => exact ⟨c + 1, by omega, by go_num, Kt.next (hb9.trans (hkb.mono hb9.size)) bf⟩
                        case measure => simp [intOf]; omega
                    · obtain ⟨w9, hw9⟩ : ∃ w1, w1 = wr := ⟨_, rfl⟩
                      subst hw9
                      go_upto_region 37 with fail
                      refine Kt.wp_any_act ?_
                      intro a0 ha0
                      have q11 : Kt.val a0 11 = .string s := by rw [ha0]; rfl
                      have q12 : Kt.val a0 12 = .int .i64 (i : Int) := by rw [ha0]; rfl
                      have qsz : 150 ≤ a0.tmps.size := by rw [ha0]; exact Nat.le_of_ble_eq_true rfl
                      have HA0 := Lib.hid ha0
                      clear ha0
                      refine Kt.region_inv2 (Kt.RxI (csbP a0 w9 s i n)) (by kernel_rfl) (Kt.RxI.start trivial) ?hstep ?hdone
                      case hstep =>
                        intro listed act w2 q o hI ho hn hpre
                        have ok := csb_ok hI
                        rcases q with _ | _ | _ | _ | _ | _ | _ | _ | _ | _ | _ | _ | _ | _ | _ | _ | _ | _ | _ | _ | _ | _ | _ | _ | _ | _ | _ | _ | _ | q
                        · cases Option.some.inj ho
                          refine Kt.no_guard rfl ?_
                          refine Kt.op_move rfl ?_
                          rw [show act.eval (.tmp 11) = .string s from (hI.frame.val_out (s := 11) (show 11 ∉ csbS by decide)).trans q11]
                          exact hI.put ok (j := 0) (Nat.le_of_ble_eq_true rfl) rfl (show (121 : Nat) ∈ csbS by decide) (Nat.lt_of_lt_of_le (show 121 < 150 by decide) qsz) (Kt.Kp.refl _ _) rfl hI.st
                        · cases Option.some.inj ho
                          refine Kt.no_guard rfl ?_
                          refine Kt.op_move rfl ?_
                          rw [show act.eval (.tmp 12) = .int .i64 (i : Int) from (hI.frame.val_out (s := 12) (show 12 ∉ csbS by decide)).trans q12]
                          exact hI.put ok (j := 1) (Nat.le_of_ble_eq_true rfl) rfl (show (122 : Nat) ∈ csbS by decide) (Nat.lt_of_lt_of_le (show 122 < 150 by decide) qsz) (Kt.Kp.refl _ _) rfl hI.st
                        · cases Option.some.inj ho
                          refine Kt.no_guard rfl ?_
                          have e0 : act.tmps[121]?.getD undef = .string s := hI.eq (j := 0) (Nat.le_of_ble_eq_true rfl) rfl (fun _ _ h => h) (hpre ⟨0, .data⟩ (by simp) rfl)
                          have e1 : act.tmps[122]?.getD undef = .int .i64 (i : Int) := hI.eq (j := 1) (Nat.le_of_ble_eq_true rfl) rfl (fun _ _ h => h) (hpre ⟨1, .data⟩ (by simp) rfl)
                          have hk := hI.put ok (j := 2) (s := 123) (v := .string (s.extract 0 i)) (Nat.le_of_ble_eq_true rfl) rfl (show (123 : Nat) ∈ csbS by decide) (Nat.lt_of_lt_of_le (show 123 < 150 by decide) qsz) (Kt.Kp.refl _ _) rfl hI.st
                          refine Kt.op_opq hk ?_
                          clear hk
                          intro KK hkk
                          unfold Oper.wp
                          go_simp
                          exact hkk
                        · cases Option.some.inj ho
                          refine Kt.no_guard rfl ?_
                          have e2 : act.tmps[123]?.getD undef = .string (s.extract 0 i) := hI.eq (j := 2) (Nat.le_of_ble_eq_true rfl) rfl (fun _ _ h => h) (hpre ⟨2, .data⟩ (by simp) rfl)
                          have hbw : Below w9.heap.size w9 w2 := hI.kept.to_below (Nat.le_refl _) (fun _ _ h => h)
                          refine Kt.op_opc (s := 124) (fun v w3 => v = .bool true ∧ Below w2.heap.size w2 w3) ?_ ?_
                          · intro KK hkk
                            unfold Oper.wp
                            go_simp
                            refine (reads_law _ (cut0_size s i n hn2 hn16) HT7 (hb9.trans (hbw.mono hb9.size))).mono ?_
                            rintro e w3 ⟨rfl, hb3⟩
                            exact hkk _ _ ⟨rfl, hb3⟩
                          rintro v3 w3 ⟨rfl, hb3⟩
                          exact hI.put ok (j := 3) (s := 124) (v := .bool true) (w' := w3) (Nat.le_of_ble_eq_true rfl) rfl (show (124 : Nat) ∈ csbS by decide) (Nat.lt_of_lt_of_le (show 124 < 150 by decide) qsz) (Kt.Kp.below _ hb3) rfl trivial
                        · cases Option.some.inj ho
                          refine Kt.no_guard rfl ?_
                          have e3 : act.tmps[124]?.getD undef = .bool true := hI.eq (j := 3) (Nat.le_of_ble_eq_true rfl) rfl (fun _ _ h => h) (hpre ⟨3, .data⟩ (by simp) rfl)
                          have hk := hI.put ok (j := 4) (s := 125) (v := .bool false) (Nat.le_of_ble_eq_true rfl) rfl (show (125 : Nat) ∈ csbS by decide) (Nat.lt_of_lt_of_le (show 125 < 150 by decide) qsz) (Kt.Kp.refl _ _) rfl hI.st
                          refine Kt.op_opq hk ?_
                          clear hk
                          intro KK hkk
                          unfold Oper.wp
                          go_simp
                          exact hkk
                        · cases Option.some.inj ho
                          refine Kt.no_guard rfl ?_
                          have e4 : act.tmps[125]?.getD undef = .bool false := hI.eq (j := 4) (Nat.le_of_ble_eq_true rfl) rfl (fun _ _ h => h) (hpre ⟨4, .data⟩ (by simp) rfl)
                          refine Kt.op_move rfl ?_
                          rw [show act.eval (.tmp 125) = .bool false from (Kt.val_get act 125).trans e4]
                          exact hI.put ok (j := 5) (Nat.le_of_ble_eq_true rfl) rfl (show (126 : Nat) ∈ csbS by decide) (Nat.lt_of_lt_of_le (show 126 < 150 by decide) qsz) (Kt.Kp.refl _ _) rfl hI.st
                        · cases Option.some.inj ho
                          have eg : act.tmps[126]?.getD undef = .bool false := hI.eq (j := 5) (Nat.le_of_ble_eq_true rfl) rfl (fun _ _ h => h) (hpre ⟨5, .guard⟩ (by simp) rfl)
                          refine Kt.yes_guard rfl rfl rfl eg rfl ?_
                          refine Kt.op_move rfl ?_
                          rw [show act.eval (.tmp 11) = .string s from (hI.frame.val_out (s := 11) (show 11 ∉ csbS by decide)).trans q11]
                          exact hI.put ok (j := 6) (Nat.le_of_ble_eq_true rfl) rfl (show (127 : Nat) ∈ csbS by decide) (Nat.lt_of_lt_of_le (show 127 < 150 by decide) qsz) (Kt.Kp.refl _ _) rfl hI.st
                        · cases Option.some.inj ho
                          have eg : act.tmps[126]?.getD undef = .bool false := hI.eq (j := 5) (Nat.le_of_ble_eq_true rfl) rfl (fun _ _ h => h) (hpre ⟨5, .guard⟩ (by simp) rfl)
                          refine Kt.yes_guard rfl rfl rfl eg rfl ?_
                          refine Kt.op_move rfl ?_
                          rw [show act.eval (.tmp 12) = .int .i64 (i : Int) from (hI.frame.val_out (s := 12) (show 12 ∉ csbS by decide)).trans q12]
                          exact hI.put ok (j := 7) (Nat.le_of_ble_eq_true rfl) rfl (show (128 : Nat) ∈ csbS by decide) (Nat.lt_of_lt_of_le (show 128 < 150 by decide) qsz) (Kt.Kp.refl _ _) rfl hI.st
                        · cases Option.some.inj ho
                          have eg : act.tmps[126]?.getD undef = .bool false := hI.eq (j := 5) (Nat.le_of_ble_eq_true rfl) rfl (fun _ _ h => h) (hpre ⟨5, .guard⟩ (by simp) rfl)
                          refine Kt.yes_guard rfl rfl rfl eg rfl ?_
                          have e6 : act.tmps[127]?.getD undef = .string s := hI.eq (j := 6) (Nat.le_of_ble_eq_true rfl) rfl (fun _ _ h => h) (hpre ⟨6, .data⟩ (by simp) rfl)
                          have e7 : act.tmps[128]?.getD undef = .int .i64 (i : Int) := hI.eq (j := 7) (Nat.le_of_ble_eq_true rfl) rfl (fun _ _ h => h) (hpre ⟨7, .data⟩ (by simp) rfl)
                          have hk := hI.put ok (j := 8) (s := 129) (v := .string (s.extract 0 i)) (Nat.le_of_ble_eq_true rfl) rfl (show (129 : Nat) ∈ csbS by decide) (Nat.lt_of_lt_of_le (show 129 < 150 by decide) qsz) (Kt.Kp.refl _ _) rfl hI.st
                          refine Kt.op_opq hk ?_
                          clear hk
                          intro KK hkk
                          unfold Oper.wp
                          go_simp
                          exact hkk
                        · cases Option.some.inj ho
                          have eg : act.tmps[126]?.getD undef = .bool false := hI.eq (j := 5) (Nat.le_of_ble_eq_true rfl) rfl (fun _ _ h => h) (hpre ⟨5, .guard⟩ (by simp) rfl)
                          refine Kt.yes_guard rfl rfl rfl eg rfl ?_
                          refine Kt.op_move rfl ?_
                          rw [show act.eval (.tmp 11) = .string s from (hI.frame.val_out (s := 11) (show 11 ∉ csbS by decide)).trans q11]
                          exact hI.put ok (j := 9) (Nat.le_of_ble_eq_true rfl) rfl (show (130 : Nat) ∈ csbS by decide) (Nat.lt_of_lt_of_le (show 130 < 150 by decide) qsz) (Kt.Kp.refl _ _) rfl hI.st
                        · cases Option.some.inj ho
                          have eg : act.tmps[126]?.getD undef = .bool false := hI.eq (j := 5) (Nat.le_of_ble_eq_true rfl) rfl (fun _ _ h => h) (hpre ⟨5, .guard⟩ (by simp) rfl)
                          refine Kt.yes_guard rfl rfl rfl eg rfl ?_
                          refine Kt.op_move rfl ?_
                          rw [show act.eval (.tmp 12) = .int .i64 (i : Int) from (hI.frame.val_out (s := 12) (show 12 ∉ csbS by decide)).trans q12]
                          exact hI.put ok (j := 10) (Nat.le_of_ble_eq_true rfl) rfl (show (131 : Nat) ∈ csbS by decide) (Nat.lt_of_lt_of_le (show 131 < 150 by decide) qsz) (Kt.Kp.refl _ _) rfl hI.st
                        · cases Option.some.inj ho
                          have eg : act.tmps[126]?.getD undef = .bool false := hI.eq (j := 5) (Nat.le_of_ble_eq_true rfl) rfl (fun _ _ h => h) (hpre ⟨5, .guard⟩ (by simp) rfl)
                          refine Kt.yes_guard rfl rfl rfl eg rfl ?_
                          have e10 : act.tmps[131]?.getD undef = .int .i64 (i : Int) := hI.eq (j := 10) (Nat.le_of_ble_eq_true rfl) rfl (fun _ _ h => h) (hpre ⟨10, .data⟩ (by simp) rfl)
                          have hwi : IntKind.i64.wrap ((i : Int) + 1) = (i : Int) + 1 := IntWalk.i64_in _ (by omega)
                          have hk := hI.put ok (j := 11) (s := 132) (v := .int .i64 ((i : Int) + 1)) (Nat.le_of_ble_eq_true rfl) rfl (show (132 : Nat) ∈ csbS by decide) (Nat.lt_of_lt_of_le (show 132 < 150 by decide) qsz) (Kt.Kp.refl _ _) rfl hI.st
                          refine Kt.op_opq hk ?_
                          clear hk
                          intro KK hkk
                          unfold Oper.wp
                          go_simp
                          exact hkk
                        · cases Option.some.inj ho
                          have eg : act.tmps[126]?.getD undef = .bool false := hI.eq (j := 5) (Nat.le_of_ble_eq_true rfl) rfl (fun _ _ h => h) (hpre ⟨5, .guard⟩ (by simp) rfl)
                          refine Kt.yes_guard rfl rfl rfl eg rfl ?_
                          have e9 : act.tmps[130]?.getD undef = .string s := hI.eq (j := 9) (Nat.le_of_ble_eq_true rfl) rfl (fun _ _ h => h) (hpre ⟨9, .data⟩ (by simp) rfl)
                          have e11 : act.tmps[132]?.getD undef = .int .i64 ((i : Int) + 1) := hI.eq (j := 11) (Nat.le_of_ble_eq_true rfl) rfl (fun _ _ h => h) (hpre ⟨11, .data⟩ (by simp) rfl)
                          have hq0 : (0 : Int) ≤ (i : Int) + 1 := by omega
                          have hq1 : (i : Int) + 1 ≤ (n : Int) := by omega
                          have hk := hI.put ok (j := 12) (s := 133) (v := .string (s.extract (i + 1) n)) (Nat.le_of_ble_eq_true rfl) rfl (show (133 : Nat) ∈ csbS by decide) (Nat.lt_of_lt_of_le (show 133 < 150 by decide) qsz) (Kt.Kp.refl _ _) rfl hI.st
                          refine Kt.op_opq hk ?_
                          clear hk
                          intro KK hkk
                          unfold Oper.wp
                          go_simp
                          exact hkk
                        · cases Option.some.inj ho
                          have eg : act.tmps[126]?.getD undef = .bool false := hI.eq (j := 5) (Nat.le_of_ble_eq_true rfl) rfl (fun _ _ h => h) (hpre ⟨5, .guard⟩ (by simp) rfl)
                          refine Kt.yes_guard rfl rfl rfl eg rfl ?_
                          have e8 : act.tmps[129]?.getD undef = .string (s.extract 0 i) := hI.eq (j := 8) (Nat.le_of_ble_eq_true rfl) rfl (fun _ _ h => h) (hpre ⟨8, .data⟩ (by simp) rfl)
                          have e12 : act.tmps[133]?.getD undef = .string (s.extract (i + 1) n) := hI.eq (j := 12) (Nat.le_of_ble_eq_true rfl) rfl (fun _ _ h => h) (hpre ⟨12, .data⟩ (by simp) rfl)
                          have hq : ¬ (9223372036854775807 < i + (n - (i + 1))) := by omega
                          have hk := hI.put ok (j := 13) (s := 134) (v := .string (s.extract 0 i ++ s.extract (i + 1) n)) (Nat.le_of_ble_eq_true rfl) rfl (show (134 : Nat) ∈ csbS by decide) (Nat.lt_of_lt_of_le (show 134 < 150 by decide) qsz) (Kt.Kp.refl _ _) rfl hI.st
                          refine Kt.op_opq hk ?_
                          clear hk
                          intro KK hkk
                          unfold Oper.wp
                          go_simp
                          exact hkk
                        · cases Option.some.inj ho
                          have eg : act.tmps[126]?.getD undef = .bool false := hI.eq (j := 5) (Nat.le_of_ble_eq_true rfl) rfl (fun _ _ h => h) (hpre ⟨5, .guard⟩ (by simp) rfl)
                          refine Kt.yes_guard rfl rfl rfl eg rfl ?_
                          have e13 : act.tmps[134]?.getD undef = .string (s.extract 0 i ++ s.extract (i + 1) n) := hI.eq (j := 13) (Nat.le_of_ble_eq_true rfl) rfl (fun _ _ h => h) (hpre ⟨13, .data⟩ (by simp) rfl)
                          have hbw : Below w9.heap.size w9 w2 := hI.kept.to_below (Nat.le_refl _) (fun _ _ h => h)
                          refine Kt.op_opc (s := 135) (fun v w3 => v = .bool true ∧ Below w2.heap.size w2 w3) ?_ ?_
                          · intro KK hkk
                            unfold Oper.wp
                            go_simp
                            refine (reads_law _ (cut1_size s i n hn2 hn16) HT7 (hb9.trans (hbw.mono hb9.size))).mono ?_
                            rintro e w3 ⟨rfl, hb3⟩
                            exact hkk _ _ ⟨rfl, hb3⟩
                          rintro v3 w3 ⟨rfl, hb3⟩
                          exact hI.put ok (j := 14) (s := 135) (v := .bool true) (w' := w3) (Nat.le_of_ble_eq_true rfl) rfl (show (135 : Nat) ∈ csbS by decide) (Nat.lt_of_lt_of_le (show 135 < 150 by decide) qsz) (Kt.Kp.below _ hb3) rfl trivial
                        · cases Option.some.inj ho
                          have eg : act.tmps[126]?.getD undef = .bool false := hI.eq (j := 5) (Nat.le_of_ble_eq_true rfl) rfl (fun _ _ h => h) (hpre ⟨5, .guard⟩ (by simp) rfl)
                          refine Kt.yes_guard rfl rfl rfl eg rfl ?_
                          have e14 : act.tmps[135]?.getD undef = .bool true := hI.eq (j := 14) (Nat.le_of_ble_eq_true rfl) rfl (fun _ _ h => h) (hpre ⟨14, .data⟩ (by simp) rfl)
                          have hk := hI.put ok (j := 15) (s := 136) (v := .bool false) (Nat.le_of_ble_eq_true rfl) rfl (show (136 : Nat) ∈ csbS by decide) (Nat.lt_of_lt_of_le (show 136 < 150 by decide) qsz) (Kt.Kp.refl _ _) rfl hI.st
                          refine Kt.op_opq hk ?_
                          clear hk
                          intro KK hkk
                          unfold Oper.wp
                          go_simp
                          exact hkk
                        · cases Option.some.inj ho
                          refine Kt.no_guard rfl ?_
                          have e5 : act.tmps[126]?.getD undef = .bool false := hI.eq (j := 5) (Nat.le_of_ble_eq_true rfl) rfl (fun _ _ h => h) (hpre ⟨5, .data⟩ (by simp) rfl)
                          have e15 : act.tmps[136]?.getD undef = .bool false := hI.eq (j := 15) (Nat.le_of_ble_eq_true rfl) rfl (fun _ _ h => h) (hpre ⟨15, .data⟩ (by simp) rfl)
                          have hk := hI.put ok (j := 16) (s := 137) (v := .bool false) (Nat.le_of_ble_eq_true rfl) rfl (show (137 : Nat) ∈ csbS by decide) (Nat.lt_of_lt_of_le (show 137 < 150 by decide) qsz) (Kt.Kp.refl _ _) rfl hI.st
                          refine Kt.op_opq hk ?_
                          clear hk
                          intro KK hkk
                          unfold Oper.wp
                          go_simp
                          exact hkk
                        · cases Option.some.inj ho
                          refine Kt.no_guard rfl ?_
                          have e16 : act.tmps[137]?.getD undef = .bool false := hI.eq (j := 16) (Nat.le_of_ble_eq_true rfl) rfl (fun _ _ h => h) (hpre ⟨16, .data⟩ (by simp) rfl)
                          refine Kt.op_move rfl ?_
                          rw [show act.eval (.tmp 137) = .bool false from (Kt.val_get act 137).trans e16]
                          exact hI.put ok (j := 17) (Nat.le_of_ble_eq_true rfl) rfl (show (138 : Nat) ∈ csbS by decide) (Nat.lt_of_lt_of_le (show 138 < 150 by decide) qsz) (Kt.Kp.refl _ _) rfl hI.st
                        · cases Option.some.inj ho
                          have eg : act.tmps[138]?.getD undef = .bool false := hI.eq (j := 17) (Nat.le_of_ble_eq_true rfl) rfl (fun _ _ h => h) (hpre ⟨17, .guard⟩ (by simp) rfl)
                          refine Kt.yes_guard rfl rfl rfl eg rfl ?_
                          refine Kt.op_move rfl ?_
                          rw [show act.eval (.tmp 11) = .string s from (hI.frame.val_out (s := 11) (show 11 ∉ csbS by decide)).trans q11]
                          exact hI.put ok (j := 18) (Nat.le_of_ble_eq_true rfl) rfl (show (139 : Nat) ∈ csbS by decide) (Nat.lt_of_lt_of_le (show 139 < 150 by decide) qsz) (Kt.Kp.refl _ _) rfl hI.st
                        · cases Option.some.inj ho
                          have eg : act.tmps[138]?.getD undef = .bool false := hI.eq (j := 17) (Nat.le_of_ble_eq_true rfl) rfl (fun _ _ h => h) (hpre ⟨17, .guard⟩ (by simp) rfl)
                          refine Kt.yes_guard rfl rfl rfl eg rfl ?_
                          refine Kt.op_move rfl ?_
                          rw [show act.eval (.tmp 12) = .int .i64 (i : Int) from (hI.frame.val_out (s := 12) (show 12 ∉ csbS by decide)).trans q12]
                          exact hI.put ok (j := 19) (Nat.le_of_ble_eq_true rfl) rfl (show (140 : Nat) ∈ csbS by decide) (Nat.lt_of_lt_of_le (show 140 < 150 by decide) qsz) (Kt.Kp.refl _ _) rfl hI.st
                        · cases Option.some.inj ho
                          have eg : act.tmps[138]?.getD undef = .bool false := hI.eq (j := 17) (Nat.le_of_ble_eq_true rfl) rfl (fun _ _ h => h) (hpre ⟨17, .guard⟩ (by simp) rfl)
                          refine Kt.yes_guard rfl rfl rfl eg rfl ?_
                          have e18 : act.tmps[139]?.getD undef = .string s := hI.eq (j := 18) (Nat.le_of_ble_eq_true rfl) rfl (fun _ _ h => h) (hpre ⟨18, .data⟩ (by simp) rfl)
                          have e19 : act.tmps[140]?.getD undef = .int .i64 (i : Int) := hI.eq (j := 19) (Nat.le_of_ble_eq_true rfl) rfl (fun _ _ h => h) (hpre ⟨19, .data⟩ (by simp) rfl)
                          have hk := hI.put ok (j := 20) (s := 141) (v := .string (s.extract 0 i)) (Nat.le_of_ble_eq_true rfl) rfl (show (141 : Nat) ∈ csbS by decide) (Nat.lt_of_lt_of_le (show 141 < 150 by decide) qsz) (Kt.Kp.refl _ _) rfl hI.st
                          refine Kt.op_opq hk ?_
                          clear hk
                          intro KK hkk
                          unfold Oper.wp
                          go_simp
                          exact hkk
                        · cases Option.some.inj ho
                          have eg : act.tmps[138]?.getD undef = .bool false := hI.eq (j := 17) (Nat.le_of_ble_eq_true rfl) rfl (fun _ _ h => h) (hpre ⟨17, .guard⟩ (by simp) rfl)
                          refine Kt.yes_guard rfl rfl rfl eg rfl ?_
                          have e20 : act.tmps[141]?.getD undef = .string (s.extract 0 i) := hI.eq (j := 20) (Nat.le_of_ble_eq_true rfl) rfl (fun _ _ h => h) (hpre ⟨20, .data⟩ (by simp) rfl)
                          have hq2 : (⟨#[32]⟩ : ByteArray).size = 1 := rfl
                          have hq : ¬ (9223372036854775807 < i + 1) := by omega
                          have hk := hI.put ok (j := 21) (s := 142) (v := .string (s.extract 0 i ++ (⟨#[32]⟩ : ByteArray))) (Nat.le_of_ble_eq_true rfl) rfl (show (142 : Nat) ∈ csbS by decide) (Nat.lt_of_lt_of_le (show 142 < 150 by decide) qsz) (Kt.Kp.refl _ _) rfl hI.st
                          refine Kt.op_opq hk ?_
                          clear hk
                          intro KK hkk
                          unfold Oper.wp
                          go_simp
                          exact hkk
                        · cases Option.some.inj ho
                          have eg : act.tmps[138]?.getD undef = .bool false := hI.eq (j := 17) (Nat.le_of_ble_eq_true rfl) rfl (fun _ _ h => h) (hpre ⟨17, .guard⟩ (by simp) rfl)
                          refine Kt.yes_guard rfl rfl rfl eg rfl ?_
                          refine Kt.op_move rfl ?_
                          rw [show act.eval (.tmp 11) = .string s from (hI.frame.val_out (s := 11) (show 11 ∉ csbS by decide)).trans q11]
                          exact hI.put ok (j := 22) (Nat.le_of_ble_eq_true rfl) rfl (show (143 : Nat) ∈ csbS by decide) (Nat.lt_of_lt_of_le (show 143 < 150 by decide) qsz) (Kt.Kp.refl _ _) rfl hI.st
                        · cases Option.some.inj ho
                          have eg : act.tmps[138]?.getD undef = .bool false := hI.eq (j := 17) (Nat.le_of_ble_eq_true rfl) rfl (fun _ _ h => h) (hpre ⟨17, .guard⟩ (by simp) rfl)
                          refine Kt.yes_guard rfl rfl rfl eg rfl ?_
                          refine Kt.op_move rfl ?_
                          rw [show act.eval (.tmp 12) = .int .i64 (i : Int) from (hI.frame.val_out (s := 12) (show 12 ∉ csbS by decide)).trans q12]
                          exact hI.put ok (j := 23) (Nat.le_of_ble_eq_true rfl) rfl (show (144 : Nat) ∈ csbS by decide) (Nat.lt_of_lt_of_le (show 144 < 150 by decide) qsz) (Kt.Kp.refl _ _) rfl hI.st
                        · cases Option.some.inj ho
                          have eg : act.tmps[138]?.getD undef = .bool false := hI.eq (j := 17) (Nat.le_of_ble_eq_true rfl) rfl (fun _ _ h => h) (hpre ⟨17, .guard⟩ (by simp) rfl)
                          refine Kt.yes_guard rfl rfl rfl eg rfl ?_
                          have e22 : act.tmps[143]?.getD undef = .string s := hI.eq (j := 22) (Nat.le_of_ble_eq_true rfl) rfl (fun _ _ h => h) (hpre ⟨22, .data⟩ (by simp) rfl)
                          have e23 : act.tmps[144]?.getD undef = .int .i64 (i : Int) := hI.eq (j := 23) (Nat.le_of_ble_eq_true rfl) rfl (fun _ _ h => h) (hpre ⟨23, .data⟩ (by simp) rfl)
                          have hk := hI.put ok (j := 24) (s := 145) (v := .string (s.extract i n)) (Nat.le_of_ble_eq_true rfl) rfl (show (145 : Nat) ∈ csbS by decide) (Nat.lt_of_lt_of_le (show 145 < 150 by decide) qsz) (Kt.Kp.refl _ _) rfl hI.st
                          refine Kt.op_opq hk ?_
                          clear hk
                          intro KK hkk
                          unfold Oper.wp
                          go_simp
                          exact hkk
                        · cases Option.some.inj ho
                          have eg : act.tmps[138]?.getD undef = .bool false := hI.eq (j := 17) (Nat.le_of_ble_eq_true rfl) rfl (fun _ _ h => h) (hpre ⟨17, .guard⟩ (by simp) rfl)
                          refine Kt.yes_guard rfl rfl rfl eg rfl ?_
                          have e21 : act.tmps[142]?.getD undef = .string (s.extract 0 i ++ (⟨#[32]⟩ : ByteArray)) := hI.eq (j := 21) (Nat.le_of_ble_eq_true rfl) rfl (fun _ _ h => h) (hpre ⟨21, .data⟩ (by simp) rfl)
                          have e24 : act.tmps[145]?.getD undef = .string (s.extract i n) := hI.eq (j := 24) (Nat.le_of_ble_eq_true rfl) rfl (fun _ _ h => h) (hpre ⟨24, .data⟩ (by simp) rfl)
                          have hq2 : (⟨#[32]⟩ : ByteArray).size = 1 := rfl
                          have hq : ¬ (9223372036854775807 < i + 1 + (n - i)) := by omega
                          have hk := hI.put ok (j := 25) (s := 146) (v := .string (s.extract 0 i ++ (⟨#[32]⟩ : ByteArray) ++ s.extract i n)) (Nat.le_of_ble_eq_true rfl) rfl (show (146 : Nat) ∈ csbS by decide) (Nat.lt_of_lt_of_le (show 146 < 150 by decide) qsz) (Kt.Kp.refl _ _) rfl hI.st
                          refine Kt.op_opq hk ?_
                          clear hk
                          intro KK hkk
                          unfold Oper.wp
                          go_simp
                          exact hkk
                        · cases Option.some.inj ho
                          have eg : act.tmps[138]?.getD undef = .bool false := hI.eq (j := 17) (Nat.le_of_ble_eq_true rfl) rfl (fun _ _ h => h) (hpre ⟨17, .guard⟩ (by simp) rfl)
                          refine Kt.yes_guard rfl rfl rfl eg rfl ?_
                          have e25 : act.tmps[146]?.getD undef = .string (s.extract 0 i ++ (⟨#[32]⟩ : ByteArray) ++ s.extract i n) := hI.eq (j := 25) (Nat.le_of_ble_eq_true rfl) rfl (fun _ _ h => h) (hpre ⟨25, .data⟩ (by simp) rfl)
                          have hbw : Below w9.heap.size w9 w2 := hI.kept.to_below (Nat.le_refl _) (fun _ _ h => h)
                          refine Kt.op_opc (s := 147) (fun v w3 => v = .bool true ∧ Below w2.heap.size w2 w3) ?_ ?_
                          · intro KK hkk
                            unfold Oper.wp
                            go_simp
                            refine (reads_law _ (cut2_size s i n hn2 hn16) HT7 (hb9.trans (hbw.mono hb9.size))).mono ?_
                            rintro e w3 ⟨rfl, hb3⟩
                            exact hkk _ _ ⟨rfl, hb3⟩
                          rintro v3 w3 ⟨rfl, hb3⟩
                          exact hI.put ok (j := 26) (s := 147) (v := .bool true) (w' := w3) (Nat.le_of_ble_eq_true rfl) rfl (show (147 : Nat) ∈ csbS by decide) (Nat.lt_of_lt_of_le (show 147 < 150 by decide) qsz) (Kt.Kp.below _ hb3) rfl trivial
                        · cases Option.some.inj ho
                          have eg : act.tmps[138]?.getD undef = .bool false := hI.eq (j := 17) (Nat.le_of_ble_eq_true rfl) rfl (fun _ _ h => h) (hpre ⟨17, .guard⟩ (by simp) rfl)
                          refine Kt.yes_guard rfl rfl rfl eg rfl ?_
                          have e26 : act.tmps[147]?.getD undef = .bool true := hI.eq (j := 26) (Nat.le_of_ble_eq_true rfl) rfl (fun _ _ h => h) (hpre ⟨26, .data⟩ (by simp) rfl)
                          have hk := hI.put ok (j := 27) (s := 148) (v := .bool false) (Nat.le_of_ble_eq_true rfl) rfl (show (148 : Nat) ∈ csbS by decide) (Nat.lt_of_lt_of_le (show 148 < 150 by decide) qsz) (Kt.Kp.refl _ _) rfl hI.st
                          refine Kt.op_opq hk ?_
                          clear hk
                          intro KK hkk
                          unfold Oper.wp
                          go_simp
                          exact hkk
                        · cases Option.some.inj ho
                          refine Kt.no_guard rfl ?_
                          have e17 : act.tmps[138]?.getD undef = .bool false := hI.eq (j := 17) (Nat.le_of_ble_eq_true rfl) rfl (fun _ _ h => h) (hpre ⟨17, .data⟩ (by simp) rfl)
                          have e27 : act.tmps[148]?.getD undef = .bool false := hI.eq (j := 27) (Nat.le_of_ble_eq_true rfl) rfl (fun _ _ h => h) (hpre ⟨27, .data⟩ (by simp) rfl)
                          have hk := hI.put ok (j := 28) (s := 149) (v := .bool false) (Nat.le_of_ble_eq_true rfl) rfl (show (149 : Nat) ∈ csbS by decide) (Nat.lt_of_lt_of_le (show 149 < 150 by decide) qsz) (Kt.Kp.refl _ _) rfl hI.st
                          refine Kt.op_opq hk ?_
                          clear hk
                          intro KK hkk
                          unfold Oper.wp
                          go_simp
                          exact hkk
                        · exfalso; simp at ho
                      case hdone =>
                        intro listed act w2 hI hr
                        have hup := Kt.all_up (fun q o ho => by
                          rcases q with _ | _ | _ | _ | _ | _ | _ | _ | _ | _ | _ | _ | _ | _ | _ | _ | _ | _ | _ | _ | _ | _ | _ | _ | _ | _ | _ | _ | _ | q
                          all_goals first | (cases Option.some.inj ho; decide) | (exfalso; simp at ho)) hI.size hr
                        have z149 : Kt.val act 149 = .bool false := hI.res 28 (Nat.le_of_ble_eq_true rfl) (hup 28 (Nat.le_of_ble_eq_true rfl))
                        have hst := hI.st
                        have hkept := hI.kept
                        have ha0 := HA0.out
                        subst ha0
                        rw [hI.frame.out]
                        simp only [csbP, csbS, Kt.sets]
                        have hkb : Below w9.heap.size w9 w2 := hkept.to_below (Nat.le_refl _) (fun _ _ h => h)
                        generalize Kt.val act 121 = v121
                        generalize Kt.val act 122 = v122
                        generalize Kt.val act 123 = v123
                        generalize Kt.val act 124 = v124
                        generalize Kt.val act 125 = v125
                        generalize Kt.val act 126 = v126
                        generalize Kt.val act 127 = v127
                        generalize Kt.val act 128 = v128
                        generalize Kt.val act 129 = v129
                        generalize Kt.val act 130 = v130
                        generalize Kt.val act 131 = v131
                        generalize Kt.val act 132 = v132
                        generalize Kt.val act 133 = v133
                        generalize Kt.val act 134 = v134
                        generalize Kt.val act 135 = v135
                        generalize Kt.val act 136 = v136
                        generalize Kt.val act 137 = v137
                        generalize Kt.val act 138 = v138
                        generalize Kt.val act 139 = v139
                        generalize Kt.val act 140 = v140
                        generalize Kt.val act 141 = v141
                        generalize Kt.val act 142 = v142
                        generalize Kt.val act 143 = v143
                        generalize Kt.val act 144 = v144
                        generalize Kt.val act 145 = v145
                        generalize Kt.val act 146 = v146
                        generalize Kt.val act 147 = v147
                        generalize Kt.val act 148 = v148
                        generalize Kt.val act 149 = v149 at z149 ⊢
                        simp only [List.setIfInBounds_toArray, List.set_cons_zero, List.set_cons_succ]
                        subst z149
                        clear hI hr hup
                        clear hst hkept q11 q12 qsz HA0
                        go_wp2_with fail
                        go_roundw
                        case rel => exact ⟨i + 1, by omega, by go_num, hb9.trans (hkb.mono hb9.size)⟩
                        case measure => simp [intOf]; omega
                · go_wp2_with fail
                  go_roundw
                  case rel => exact ⟨k + 1, by omega, by go_num, Kt.next hb7 hb8⟩
                  case measure => simp [intOf]; omega
            · have hb8 := Kt.next hb6 hb7
              obtain ⟨w8, hw8⟩ : ∃ w1, w1 = wr := ⟨_, rfl⟩
              subst hw8
              go_wp2_with fail
              go_loopw [15] (fun v wq => ∃ q : Int, -1 ≤ q ∧ q ≤ 1301 ∧ v = .int .i64 q ∧ Below w.heap.size w wq) (fun v _ => (1301 - intOf v).toNat)
              case atStart => exact ⟨-1, by omega, by omega, rfl, hb8⟩
              case round =>
                obtain ⟨q, q0, q1, rfl, hb9⟩ := hrel
                by_cases hq : q ≤ 1300
                · go_wp2_with fail
                  refine (works_law none 0 0 [] 1154 1154 0 q 229 _ rfl (by omega) Kt.Ints.nil (fun _ => ⟨rfl, rfl⟩) (by omega) (by omega) (by omega) (by omega) (by omega)).mono ?_
                  rintro e w10 ⟨rfl, b10⟩
                  replace b10 := Kt.next hb9 b10
                  go_wp2_with fail
                  refine (works_law none 0 0 [] 1153 1154 0 229 q _ rfl (by omega) Kt.Ints.nil (fun _ => ⟨rfl, rfl⟩) (by omega) (by omega) (by omega) (by omega) (by omega)).mono ?_
                  rintro e w11 ⟨rfl, b11⟩
                  replace b11 := Kt.next b10 b11
                  go_wp2_with fail
                  go_roundw
                  case rel => exact ⟨q + 1, by omega, by omega, by go_num, b11⟩
                  case measure => simp [intOf]; omega
                · have HT9 := HT.out.on hb9
                  go_wp2_with fail
                  refine (lists_any _ HT9).mono ?_
                  rintro e w10 ⟨rfl, b10⟩
                  go_wp2_with fail
                  go_ret
                  exact ⟨rfl, Kt.next hb9 b10⟩
end Go.Proofs.YtjfgfchnpghpfaaDoor
