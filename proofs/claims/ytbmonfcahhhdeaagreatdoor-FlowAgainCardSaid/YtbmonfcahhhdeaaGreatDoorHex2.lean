/- strconv.ParseUint at base 16 over up to eight hexadecimal digits. strconv.FormatInt at base 16 of a number that is not negative. -/
import Derived.Test.YtbmonfcahhhdeaaGreatDoorStr
import Derived.Lib.ConvBytes
import Derived.Shelf.Strconv.ParseUint10
import Derived.Laws.BitsLemmas
set_option linter.unusedVariables false
set_option linter.unusedSimpArgs false
namespace Go.Proofs.YtbmonfcahhhdeaaGreatDoor
open Go.RowKit

def isHex (b : UInt8) : Bool := (decide (48 ≤ b.toNat) && decide (b.toNat ≤ 57)) || (decide (97 ≤ b.toNat) && decide (b.toNat ≤ 102)) || (decide (65 ≤ b.toNat) && decide (b.toNat ≤ 70))
def hexV (b : UInt8) : Nat := if b.toNat ≤ 57 then b.toNat - 48 else if 97 ≤ b.toNat then b.toNat - 87 else b.toNat - 55
def hexFrom (n : Nat) (l : Bs) : Nat := l.foldl (fun n b => n * 16 + hexV b) n
def hexN (l : Bs) : Nat := hexFrom 0 l
theorem isHex_cases {b : UInt8} (h : isHex b = true) : (48 ≤ b.toNat ∧ b.toNat ≤ 57) ∨ (97 ≤ b.toNat ∧ b.toNat ≤ 102) ∨ (65 ≤ b.toNat ∧ b.toNat ≤ 70) := by
  unfold isHex at h
  simp only [Bool.or_eq_true, Bool.and_eq_true, decide_eq_true_eq] at h
  omega
theorem hexV_lt {b : UInt8} (h : isHex b = true) : hexV b < 16 := by
  have := isHex_cases h
  unfold hexV
  split
  · omega
  · split <;> omega
theorem low_small : ∀ n : Nat, n < 103 → 97 ≤ n → bits .or .u8 (n : Int) 32 = n := by decide
theorem low_big : ∀ n : Nat, n < 71 → 65 ≤ n → bits .or .u8 (n : Int) 32 = n + 32 := by decide

theorem pow16_le (k : Nat) (hk : k ≤ 7) : 16 ^ k ≤ 268435456 := by
  have : 16 ^ k ≤ 16 ^ 7 := Nat.pow_le_pow_right (by decide) hk
  simpa using this

set_option maxHeartbeats 4000000 in
set_option maxRecDepth 100000 in
theorem parse16_inner (l : Bs) (hl : l.length ≤ 8) (h1 : 1 ≤ l.length) (hx : l.all isHex = true) (w : World) :
    Calls Tryz.prog 171 #[St l, .int .i64 16, .int .i64 64] w fun e w' => e = .returned (.tuple #[.int .u64 (hexN l), .nilIface]) ∧ Below w.heap.size w w' := by
  have hne : l.isEmpty = false := by cases l <;> simp_all
  have hcv := Lib.run_convert_string_bytes (P := Tryz.prog) w 9 48 5 ⟨l.toArray⟩ (u := .string) Tryz.underlying9 Tryz.underlying48 Tryz.underlying5
  have hB : ∀ j, j < l.length → (Lib.bytesWorld w 5 ⟨l.toArray⟩).cell? ⟨w.heap.size, j, none⟩ = some (.int .u8 (l.getD j 0).toNat) := fun j hj => by
    have := Lib.bytesWorld_cell w 5 ⟨l.toArray⟩ j (by rw [bs_size]; exact hj)
    rwa [bs_data] at this
  have hW := Lib.bytesWorld_below w 5 ⟨l.toArray⟩
  obtain ⟨W1, hW1⟩ : ∃ W1, W1 = Lib.bytesWorld w 5 ⟨l.toArray⟩ := ⟨_, rfl⟩
  rw [← hW1] at hcv hB hW
  rw [bs_size] at hcv
  clear hW1
  have hmv : IntKind.u64.wrap (IntKind.u64.wrap 18446744073709551616 - 1) = 18446744073709551615 := by
    rw [IntKind.wrap_u64, IntKind.wrap_u64]
    decide
  have HW := Lib.hid hW
  have HB := Lib.hid hB
  have hL := Tryz.internal_strconv_lower
  clear hW hB
  go_enter Tryz.func171, Tryz.ntmps171
  go_wp2_with fail
  go_loopw [12, 13, 101] (fun vu vn vi wr => ∃ (k acc : Nat) (a : Int), vu = .bool false ∧ vn = .int .u64 a ∧ vi = .int .i64 k ∧ k ≤ l.length ∧ wr = W1 ∧ Hid (a = (acc : Int) ∧ acc < 16 ^ k ∧ hexN l = hexFrom acc (l.drop k))) (fun _ _ vi _ => l.length - (intOf vi).toNat)
  case atStart => exact ⟨0, 0, 0, rfl, rfl, rfl, by omega, rfl, rfl, by omega, rfl⟩
  case round =>
    obtain ⟨k, acc, a, rfl, rfl, rfl, hk, rfl, hh⟩ := hrel
    obtain ⟨ha, hacc, hdec⟩ := hh.out
    clear hh
    by_cases hkn : k < l.length
    · have hc := HB.out k hkn
      have hp := pow16_le k (by omega)
      have a0 : 0 ≤ a := by omega
      have a1 : a < 268435456 := by omega
      have hdrop : l.drop k = l[k] :: l.drop (k + 1) := List.drop_eq_getElem_cons hkn
      have hget : l.getD k 0 = l[k] := by simp [List.getD, List.getElem?_eq_getElem hkn]
      have hx1 : isHex l[k] = true := List.all_eq_true.1 hx _ (List.getElem_mem hkn)
      rw [hdrop] at hdec
      rw [hget] at hc
      generalize l[k] = c at hc hdec hx1
      have hv := hexV_lt hx1
      have HD : Hid (a * 16 + hexV c = ((acc * 16 + hexV c : Nat) : Int) ∧ acc * 16 + hexV c < 16 ^ (k + 1) ∧ hexN l = hexFrom (acc * 16 + hexV c) (l.drop (k + 1))) :=
        ⟨by omega, by rw [Nat.pow_succ]; omega, hdec⟩
      have hcc := isHex_cases hx1
      clear hdec hacc ha hdrop hget hx1 hp hcv
      rcases hcc with hcc | hcc | hcc
      · obtain ⟨d0, d1⟩ := hcc
        have HE : Hid ((hexV c : Int) = (c.toNat : Int) - 48) := by show _ = _; unfold hexV; rw [if_pos d1]; omega
        clear hv
        go_wp2_with fail
        refine ⟨⟨k + 1, acc * 16 + hexV c, a * 16 + hexV c, rfl, ?_, by go_num, by omega, trivial, HD⟩, by simp [intOf]; omega⟩
        rw [HE.out]
      · obtain ⟨d0, d1⟩ := hcc
        have HE : Hid ((hexV c : Int) = (c.toNat : Int) - 97 + 10) := by show _ = _; unfold hexV; rw [if_neg (by omega), if_pos d0]; omega
        have hLc : ∀ w', Calls Tryz.prog 182 #[.int .u8 c.toNat] w' fun e w'' => e = .returned (.int .u8 (c.toNat : Int)) ∧ w'' = w' := fun w' => by
          have := hL c.toNat w'
          rwa [low_small c.toNat (by omega) d0] at this
        clear hv hL
        go_wp2_with fail
        refine (hLc _).mono ?_
        rintro e w2 ⟨rfl, rfl⟩
        go_wp2_with fail
        refine (hLc _).mono ?_
        rintro e w2 ⟨rfl, rfl⟩
        go_wp2_with fail
        refine (hLc _).mono ?_
        rintro e w2 ⟨rfl, rfl⟩
        go_wp2_with fail
        refine ⟨⟨k + 1, acc * 16 + hexV c, a * 16 + hexV c, rfl, ?_, by go_num, by omega, trivial, HD⟩, by simp [intOf]; omega⟩
        rw [HE.out]
      · obtain ⟨d0, d1⟩ := hcc
        have HE : Hid ((hexV c : Int) = ((c.toNat : Int) + 32) - 97 + 10) := by show _ = _; unfold hexV; rw [if_neg (by omega), if_neg (by omega)]; omega
        have hLc : ∀ w', Calls Tryz.prog 182 #[.int .u8 c.toNat] w' fun e w'' => e = .returned (.int .u8 ((c.toNat : Int) + 32)) ∧ w'' = w' := fun w' => by
          have := hL c.toNat w'
          rwa [low_big c.toNat (by omega) d0] at this
        clear hv hL
        go_wp2_with fail
        refine (hLc _).mono ?_
        rintro e w2 ⟨rfl, rfl⟩
        go_wp2_with fail
        refine (hLc _).mono ?_
        rintro e w2 ⟨rfl, rfl⟩
        go_wp2_with fail
        refine (hLc _).mono ?_
        rintro e w2 ⟨rfl, rfl⟩
        go_wp2_with fail
        refine ⟨⟨k + 1, acc * 16 + hexV c, a * 16 + hexV c, rfl, ?_, by go_num, by omega, trivial, HD⟩, by simp [intOf]; omega⟩
        rw [HE.out]
    · obtain rfl : k = l.length := by omega
      have HE : Hid (a = hexN l) := by
        show _ = _
        rw [hdec, List.drop_length, ha]
        rfl
      clear ha hacc hdec
      go_wp2_with fail
      go_ret2
      exact ⟨by rw [HE.out]; rfl, HW.out⟩

set_option maxHeartbeats 1000000 in
theorem str_Parse16 (l : Bs) (hl : l.length ≤ 8) (h1 : 1 ≤ l.length) (hx : l.all isHex = true) (w : World) :
    Calls Tryz.prog 170 #[St l, .int .i64 16, .int .i64 64] w fun e w' => e = .returned (.tuple #[.int .u64 (hexN l), .nilIface]) ∧ Below w.heap.size w w' := by
  have hI := parse16_inner l hl h1 hx w
  clear hl h1 hx
  generalize hexN l = n at hI ⊢
  go_enter Tryz.func170, Tryz.ntmps170
  go_wp2_with fail
  refine hI.mono ?_
  rintro e w1 ⟨rfl, hb⟩
  go_wp2_with fail
  go_ret2
  exact ⟨rfl, hb⟩
end Go.Proofs.YtbmonfcahhhdeaaGreatDoor

namespace Go.Proofs.YtbmonfcahhhdeaaGreatDoor
open Go.RowKit

set_option maxHeartbeats 4000000 in
set_option maxRecDepth 100000 in
theorem pow2_16 (w : World) : Calls Tryz.prog 187 #[.int .i64 16] w fun e w' => e = .returned (.bool true) ∧ w' = w := by
  go_enter Tryz.func187, Tryz.ntmps187
  go_wp2_with fail
  go_ret
  exact ⟨rfl, rfl⟩

set_option maxHeartbeats 4000000 in
set_option maxRecDepth 100000 in
theorem tz64_16 (w : World) (ht : w.cell? ⟨7, 15, none⟩ = some (.int .u8 4)) : Calls Tryz.prog 191 #[.int .u64 16] w fun e w' => e = .returned (.int .i64 4) ∧ w' = w := by
  have a1 : IntKind.u64.wrap (-16) = 18446744073709551600 := by kernel_rfl
  have a2 : bits .and .u64 16 18446744073709551600 = 16 := by kernel_rfl
  have a3 : IntKind.u64.wrap (16 * 285870213051353865) = 4573923408821661840 := by kernel_rfl
  go_enter Tryz.func191, Tryz.ntmps191
  go_wp2_with fail
  go_ret
  exact ⟨rfl, rfl⟩
set_option maxHeartbeats 2000000 in
set_option maxRecDepth 100000 in
theorem tz_16 (w : World) (ht : w.cell? ⟨7, 15, none⟩ = some (.int .u8 4)) : Calls Tryz.prog 188 #[.int .u64 16] w fun e w' => e = .returned (.int .i64 4) ∧ w' = w := by
  have h := tz64_16 w ht
  go_enter Tryz.func188, Tryz.ntmps188
  go_wp2_with fail
  refine h.mono ?_
  rintro e w1 ⟨rfl, rfl⟩
  go_wp2_with fail
  go_ret
  exact ⟨rfl, rfl⟩

theorem and15 (a : Int) (h0 : 0 ≤ a) (h1 : a ≤ 1114111) : bits BinOp.and IntKind.u64 a 15 = a % 16 :=
  bits_mask .u64 32 (by decide) (fun n h0 h1 => by rw [IntKind.wrap_u64]; omega) 4 (by decide) a h0 (by omega)
/-- A hexadecimal digit, and a number's. -/
def hexDig (d : Nat) : UInt8 := if d < 10 then UInt8.ofNat (48 + d) else UInt8.ofNat (87 + d)
def hexL (u : Nat) : Bs := if h : u < 16 then [hexDig u] else hexL (u / 16) ++ [hexDig (u % 16)]
termination_by u
decreasing_by omega
theorem hexL_small {u : Nat} (h : u < 16) : hexL u = [hexDig u] := by rw [hexL, dif_pos h]
theorem hexL_big {u : Nat} (h : 16 ≤ u) : hexL u = hexL (u / 16) ++ [hexDig (u % 16)] := by rw [hexL, dif_neg (by omega)]

theorem hexDig_get : ∀ d : Nat, d < 16 → ([48, 49, 50, 51, 52, 53, 54, 55, 56, 57, 97, 98, 99, 100, 101, 102, 103, 104, 105, 106, 107, 108, 109, 110, 111, 112, 113, 114, 115, 116, 117, 118, 119, 120, 121, 122] : Bs).getD d 0 = hexDig d := by decide
theorem drop_set (cur : Array Value) (i : Nat) (x : Value) (tl : List Value) (h0 : 0 < i) (h1 : i ≤ cur.size) (h : cur.toList.drop i = tl) : (cur.setIfInBounds (i - 1) x).toList.drop (i - 1) = x :: tl := by
  obtain ⟨k, rfl⟩ : ∃ k, i = k + 1 := ⟨i - 1, by omega⟩
  rw [Array.toList_setIfInBounds, Nat.add_sub_cancel, List.drop_eq_getElem_cons (by rw [List.length_set, Array.length_toList]; omega), List.getElem_set_self, List.drop_set, if_pos (by omega), h]
theorem add_plain (g k j : Nat) : (⟨g, k, none⟩ : Addr).add j = ⟨g, k + j, none⟩ := by
  unfold Addr.add; split <;> simp_all
theorem drop_get (c : Array Value) (k j : Nat) : c[k + j]? = (c.toList.drop k)[j]? := by rw [List.getElem?_drop, Array.getElem?_toList]

set_option maxHeartbeats 4000000 in
set_option maxRecDepth 100000 in
theorem fmt16_bits (n : Nat) (h1 : n ≤ 1114111) (w : World) (ht : w.cell? ⟨7, 15, none⟩ = some (.int .u8 4)) :
    Calls Tryz.prog 177 #[.slice none 0 0, .int .u64 n, .int .i64 16, .bool false, .bool false] w fun e w' => e = .returned (.tuple #[.slice none 0 0, St (hexL n)]) ∧ Below w.heap.size w w' := by
  have hP := pow2_16
  have hZ : Tryz.zeroCells198.size = 65 := by kernel_rfl
  have HZ := Lib.hid hZ
  clear hZ
  have hta : ∀ o, (w.alloc o).cell? ⟨7, 15, none⟩ = some (.int .u8 4) := fun o => by rw [World.cell?_alloc_lt _ _ _ (World.block_lt_of_cell? w _ ht)]; exact ht
  go_enter Tryz.func177, Tryz.ntmps177
  go_wp2_with fail
  refine (hP _).mono ?_
  rintro e w1 ⟨rfl, rfl⟩
  go_wp2_with fail
  refine (tz_16 _ (hta _)).mono ?_
  rintro e w1 ⟨rfl, rfl⟩
  go_wp2_with fail
  go_loopw [1, 13] (fun vu vi wr => ∃ (acc i : Nat) (a : Int), vu = .int .u64 a ∧ vi = .int .i64 i ∧ 59 ≤ i ∧ i ≤ 65 ∧ 0 ≤ a ∧ a ≤ 1114111 ∧ Hid (a = acc ∧ ∃ (tl : Bs) (cur : Array Value), hexL n = hexL acc ++ tl ∧ i + tl.length = 65 ∧ acc * 16 ^ tl.length ≤ 1114111 ∧ cur.size = 65 ∧ cur.toList.drop i = Lib.byteCells tl ∧ wr.heap[w.heap.size]? = some (.cells cur 198)) ∧ Below w.heap.size w wr) (fun vu _ _ => (intOf vu).toNat)
  case atStart => exact ⟨n, 65, n, rfl, rfl, by omega, by omega, by omega, by omega, ⟨rfl, [], _, by simp, rfl, by simpa using h1, HZ.out, by rw [List.drop_of_length_le (by rw [Array.length_toList, HZ.out]; exact Nat.le_refl _)]; rfl, blk_new _ _⟩, (Below.refl _ _).alloc (Nat.le_refl _) _⟩
  case round =>
    obtain ⟨acc, i, a, rfl, rfl, i0, i1, a0, a1, HH, hb⟩ := hrel
    by_cases hlt : 16 ≤ a
    · obtain ⟨ha, tl, cur, e1, e2, e3, e4, e5, e6⟩ := HH.out
      have ht : tl.length ≤ 4 := by
        rcases Nat.lt_or_ge 4 tl.length with h | h
        · have : 16 ^ 5 ≤ 16 ^ tl.length := Nat.pow_le_pow_right (by decide) h
          have h2 : 16 * 16 ^ 5 ≤ acc * 16 ^ tl.length := Nat.mul_le_mul (by omega) this
          have : 16 * 16 ^ 5 = 16777216 := by decide
          omega
        · exact h
      have hi : 61 ≤ i := by omega
      obtain ⟨v0, c0⟩ : ∃ v0, wr.cell? ⟨w.heap.size, i - 1, none⟩ = some v0 := by
        rw [blk_cell e6]
        exact ⟨_, Array.getElem?_eq_getElem (by omega)⟩
      have f0 := blk_free e6 (i - 1)
      have hand := and15 a a0 a1
      have m0 : 0 ≤ a % 16 := by omega
      have m1 : a % 16 < 36 := by omega
      have hdig : ∀ h, (⟨#[48, 49, 50, 51, 52, 53, 54, 55, 56, 57, 97, 98, 99, 100, 101, 102, 103, 104, 105, 106, 107, 108, 109, 110, 111, 112, 113, 114, 115, 116, 117, 118, 119, 120, 121, 122]⟩ : ByteArray)[(a % 16).toNat]'h = hexDig (acc % 16) := fun h => by
        have := bs_get [48, 49, 50, 51, 52, 53, 54, 55, 56, 57, 97, 98, 99, 100, 101, 102, 103, 104, 105, 106, 107, 108, 109, 110, 111, 112, 113, 114, 115, 116, 117, 118, 119, 120, 121, 122] (a % 16).toNat (by simp; omega) h
        rw [this, show (a % 16).toNat = acc % 16 from by omega]
        exact hexDig_get _ (by omega)
      have HX : Hid (a / 16 = ((acc / 16 : Nat) : Int) ∧ ∃ (tl' : Bs) (cur' : Array Value), hexL n = hexL (acc / 16) ++ tl' ∧ (i - 1) + tl'.length = 65 ∧ acc / 16 * 16 ^ tl'.length ≤ 1114111 ∧ cur'.size = 65 ∧ cur'.toList.drop (i - 1) = Lib.byteCells tl' ∧ (wr.setCell ⟨w.heap.size, i - 1, none⟩ (.int .u8 (hexDig (acc % 16)).toNat)).heap[w.heap.size]? = some (.cells cur' 198)) := by
        refine ⟨by omega, hexDig (acc % 16) :: tl, cur.setIfInBounds (i - 1) (.int .u8 (hexDig (acc % 16)).toNat), ?_, by simp; omega, ?_, by simpa using e4, ?_, blk_set e6⟩
        · rw [e1, hexL_big (by omega)]; simp
        · rw [List.length_cons, Nat.pow_succ]
          refine Nat.le_trans ?_ e3
          have : acc / 16 * 16 ≤ acc := Nat.div_mul_le_self _ _
          calc acc / 16 * (16 ^ tl.length * 16) = acc / 16 * 16 * 16 ^ tl.length := by rw [Nat.mul_comm (16 ^ tl.length) 16, ← Nat.mul_assoc]
            _ ≤ acc * 16 ^ tl.length := Nat.mul_le_mul_right _ this
        · exact drop_set cur i _ _ (by omega) (by omega) e5
      have HY := Lib.hid (HH.out)
      clear ha e1 e2 e3 e4 e5 e6 HH HY
      go_wp2_with fail
      exact ⟨⟨acc / 16, i - 1, a / 16, rfl, int_of (by omega), by omega, by omega, by omega, by omega, HX, hb.setCell (Nat.le_refl _) _⟩, by simp [intOf]; omega⟩
    · obtain ⟨ha, tl, cur, e1, e2, e3, e4, e5, e6⟩ := HH.out
      obtain ⟨v0, c0⟩ : ∃ v0, wr.cell? ⟨w.heap.size, i - 1, none⟩ = some v0 := by
        rw [blk_cell e6]
        exact ⟨_, Array.getElem?_eq_getElem (by omega)⟩
      have f0 := blk_free e6 (i - 1)
      have m1 : a < 36 := by omega
      have hdig : ∀ h, (⟨#[48, 49, 50, 51, 52, 53, 54, 55, 56, 57, 97, 98, 99, 100, 101, 102, 103, 104, 105, 106, 107, 108, 109, 110, 111, 112, 113, 114, 115, 116, 117, 118, 119, 120, 121, 122]⟩ : ByteArray)[a.toNat]'h = hexDig acc := fun h => by
        have := bs_get [48, 49, 50, 51, 52, 53, 54, 55, 56, 57, 97, 98, 99, 100, 101, 102, 103, 104, 105, 106, 107, 108, 109, 110, 111, 112, 113, 114, 115, 116, 117, 118, 119, 120, 121, 122] a.toNat (by simp; omega) h
        rw [this, show a.toNat = acc from by omega]
        exact hexDig_get _ (by omega)
      have e8 : hexL n = hexDig acc :: tl := by rw [e1, hexL_small (by omega)]; rfl
      have e9 := drop_set cur i (.int .u8 (hexDig acc).toNat) _ (by omega) (by omega) e5
      have e10 := blk_set (i := i - 1) (v := .int .u8 (hexDig acc).toNat) e6
      have hlen : (hexL n).length = 65 - (i - 1) := by rw [e8, List.length_cons]; omega
      have hcv : (convert 48 9 (.slice (some ⟨w.heap.size, i - 1, none⟩) (65 - (i - 1)) (65 - (i - 1)))).run Tryz.prog (wr.setCell ⟨w.heap.size, i - 1, none⟩ (.int .u8 (hexDig acc).toNat)) = .ok (St (hexL n)) (wr.setCell ⟨w.heap.size, i - 1, none⟩ (.int .u8 (hexDig acc).toNat)) := by
        have := run_convert_bytes_back (P := Tryz.prog) (wr.setCell ⟨w.heap.size, i - 1, none⟩ (.int .u8 (hexDig acc).toNat)) 48 9 5 ⟨w.heap.size, i - 1, none⟩ (65 - (i - 1)) (hexL n) Tryz.underlying48 Tryz.underlying5 Tryz.underlying9 (fun j hj => by
          rw [add_plain, blk_cell e10]
          rw [drop_get, e9]
          have h2 : (Value.int .u8 (hexDig acc).toNat :: Lib.byteCells tl) = (hexDig acc :: tl).map (fun b => Value.int .u8 (b.toNat : Int)) := by simp [Lib.byteCells]
          rw [h2, ← e8, List.getElem?_map, List.getElem?_eq_getElem hj]
          rfl)
        rwa [hlen] at this
      have hsl : ∀ w', (Instr.sliceAt 198 (.pointer (some ⟨w.heap.size, 0, none⟩)) (some (.int .i64 ((i : Int) - 1))) none none).run Tryz.prog w' = .ok (.slice (some ⟨w.heap.size, i - 1, none⟩) (65 - (i - 1)) (65 - (i - 1))) w' := fun w' => by
        have ha : Tryz.prog.arrayLen 198 = 65 := by kernel_rfl
        have he : Tryz.prog.elem 198 = 5 := by kernel_rfl
        have hu : Tryz.prog.underlying 198 = some (.array (Tryz.prog.arrayLen 198) (Tryz.prog.elem 198)) := by rw [ha, he]; kernel_rfl
        have hz : (sizeOf (Tryz.prog.elem 198)).run Tryz.prog w' = .ok 1 w' := by rw [he]; kernel_rfl
        rw [run_sliceAt_array_l w' _ ⟨w.heap.size, 0, none⟩ hu .i64 _ (by omega) (by rw [ha]; omega), hz]
        show Result.ok (slicedAt _ _ _ _ _) w' = _
        simp only [slicedAt]
        rw [ha, if_neg (by omega), show ((i : Int) - 1).toNat = i - 1 from by omega]
        rw [add_plain]; simp
      have hb2 := hb.setCell (p := Addr.mk w.heap.size (i - 1) none) (Nat.le_refl _) (.int .u8 (hexDig acc).toNat)
      clear ha e1 e2 e3 e4 e5 e6 e8 e9 e10 HH hlen
      go_wp2_with fail
      go_ret2
      exact ⟨rfl, hb2⟩
end Go.Proofs.YtbmonfcahhhdeaaGreatDoor
