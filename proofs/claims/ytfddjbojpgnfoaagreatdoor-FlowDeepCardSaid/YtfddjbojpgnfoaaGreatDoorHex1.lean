/- strconv.ParseUint at base 16 over up to eight hexadecimal digits. -/
import Derived.Test.YtfddjbojpgnfoaaGreatDoorStr
import Derived.Lib.ConvBytes
import Derived.Shelf.Strconv.ParseUint10
set_option linter.unusedVariables false
set_option linter.unusedSimpArgs false
namespace Go.Proofs.YtfddjbojpgnfoaaGreatDoor
open Go.RowKit

def isHex (b : UInt8) : Bool := (decide (48 ≤ b.toNat) && decide (b.toNat ≤ 57)) || (decide (97 ≤ b.toNat) && decide (b.toNat ≤ 102)) || (decide (65 ≤ b.toNat) && decide (b.toNat ≤ 70))
def hexV (b : UInt8) : Nat := if b.toNat ≤ 57 then b.toNat - 48 else if 97 ≤ b.toNat then b.toNat - 87 else b.toNat - 55
def hexFrom (n : Nat) (l : Bs) : Nat := l.foldl (fun n b => n * 16 + hexV b) n
def hexN (l : Bs) : Nat := hexFrom 0 l
theorem isHex_cases {b : UInt8} (h : isHex b = true) : (48 ≤ b.toNat ∧ b.toNat ≤ 57) ∨ (97 ≤ b.toNat ∧ b.toNat ≤ 102) ∨ (65 ≤ b.toNat ∧ b.toNat ≤ 70) := by
  unfold isHex at h
  simp only [Bool.or_eq_true, Bool.and_eq_true, decide_eq_true_eq] at h
  omega
theorem hexV_lt {b : UInt8} (h : isHex b = true) : hexV b < 16 := by
  have := isHex_cases h
  unfold hexV
  split
  · omega
  · split <;> omega
theorem low_small : ∀ n : Nat, n < 103 → 97 ≤ n → bits .or .u8 (n : Int) 32 = n := by decide
theorem low_big : ∀ n : Nat, n < 71 → 65 ≤ n → bits .or .u8 (n : Int) 32 = n + 32 := by decide

theorem pow16_le (k : Nat) (hk : k ≤ 7) : 16 ^ k ≤ 268435456 := by
  have : 16 ^ k ≤ 16 ^ 7 := Nat.pow_le_pow_right (by decide) hk
  simpa using this

set_option maxHeartbeats 4000000 in
set_option maxRecDepth 100000 in
theorem parse16_inner (l : Bs) (hl : l.length ≤ 8) (h1 : 1 ≤ l.length) (hx : l.all isHex = true) (w : World) :
    Calls Tryz.prog 111 #[St l, .int .i64 16, .int .i64 64] w fun e w' => e = .returned (.tuple #[.int .u64 (hexN l), .nilIface]) ∧ Below w.heap.size w w' := by
  have hne : l.isEmpty = false := by cases l <;> simp_all
  have hcv := Lib.run_convert_string_bytes (P := Tryz.prog) w 9 41 5 ⟨l.toArray⟩ (u := .string) Tryz.underlying9 Tryz.underlying41 Tryz.underlying5
  have hB : ∀ j, j < l.length → (Lib.bytesWorld w 5 ⟨l.toArray⟩).cell? ⟨w.heap.size, j, none⟩ = some (.int .u8 (l.getD j 0).toNat) := fun j hj => by
    have := Lib.bytesWorld_cell w 5 ⟨l.toArray⟩ j (by rw [bs_size]; exact hj)
    rwa [bs_data] at this
  have hW := Lib.bytesWorld_below w 5 ⟨l.toArray⟩
  obtain ⟨W1, hW1⟩ : ∃ W1, W1 = Lib.bytesWorld w 5 ⟨l.toArray⟩ := ⟨_, rfl⟩
  rw [← hW1] at hcv hB hW
  rw [bs_size] at hcv
  clear hW1
  have hmv : IntKind.u64.wrap (IntKind.u64.wrap 18446744073709551616 - 1) = 18446744073709551615 := by
    rw [IntKind.wrap_u64, IntKind.wrap_u64]
    decide
  have HW := Lib.hid hW
  have HB := Lib.hid hB
  have hL := Tryz.internal_strconv_lower
  clear hW hB
  go_enter Tryz.func111, Tryz.ntmps111
  go_wp2_with fail
  go_loopw [12, 13, 101] (fun vu vn vi wr => ∃ (k acc : Nat) (a : Int), vu = .bool false ∧ vn = .int .u64 a ∧ vi = .int .i64 k ∧ k ≤ l.length ∧ wr = W1 ∧ Hid (a = (acc : Int) ∧ acc < 16 ^ k ∧ hexN l = hexFrom acc (l.drop k))) (fun _ _ vi _ => l.length - (intOf vi).toNat)
  case atStart => exact ⟨0, 0, 0, rfl, rfl, rfl, by omega, rfl, rfl, by omega, rfl⟩
  case round =>
    obtain ⟨k, acc, a, rfl, rfl, rfl, hk, rfl, hh⟩ := hrel
    obtain ⟨ha, hacc, hdec⟩ := hh.out
    clear hh
    by_cases hkn : k < l.length
    · have hc := HB.out k hkn
      have hp := pow16_le k (by omega)
      have a0 : 0 ≤ a := by omega
      have a1 : a < 268435456 := by omega
      have hdrop : l.drop k = l[k] :: l.drop (k + 1) := List.drop_eq_getElem_cons hkn
      have hget : l.getD k 0 = l[k] := by simp [List.getD, List.getElem?_eq_getElem hkn]
      have hx1 : isHex l[k] = true := List.all_eq_true.1 hx _ (List.getElem_mem hkn)
      rw [hdrop] at hdec
      rw [hget] at hc
      generalize l[k] = c at hc hdec hx1
      have hv := hexV_lt hx1
      have HD : Hid (a * 16 + hexV c = ((acc * 16 + hexV c : Nat) : Int) ∧ acc * 16 + hexV c < 16 ^ (k + 1) ∧ hexN l = hexFrom (acc * 16 + hexV c) (l.drop (k + 1))) :=
        ⟨by omega, by rw [Nat.pow_succ]; omega, hdec⟩
      have hcc := isHex_cases hx1
      clear hdec hacc ha hdrop hget hx1 hp hcv
      rcases hcc with hcc | hcc | hcc
      · obtain ⟨d0, d1⟩ := hcc
        have HE : Hid ((hexV c : Int) = (c.toNat : Int) - 48) := by show _ = _; unfold hexV; rw [if_pos d1]; omega
        clear hv
        go_wp2_with fail
        refine ⟨⟨k + 1, acc * 16 + hexV c, a * 16 + hexV c, rfl, ?_, by go_num, by omega, trivial, HD⟩, by simp [intOf]; omega⟩
        rw [HE.out]
      · obtain ⟨d0, d1⟩ := hcc
        have HE : Hid ((hexV c : Int) = (c.toNat : Int) - 97 + 10) := by show _ = _; unfold hexV; rw [if_neg (by omega), if_pos d0]; omega
        have hLc : ∀ w', Calls Tryz.prog 122 #[.int .u8 c.toNat] w' fun e w'' => e = .returned (.int .u8 (c.toNat : Int)) ∧ w'' = w' := fun w' => by
          have := hL c.toNat w'
          rwa [low_small c.toNat (by omega) d0] at this
        clear hv hL
        go_wp2_with fail
        refine (hLc _).mono ?_
        rintro e w2 ⟨rfl, rfl⟩
        go_wp2_with fail
        refine (hLc _).mono ?_
        rintro e w2 ⟨rfl, rfl⟩
        go_wp2_with fail
        refine (hLc _).mono ?_
        rintro e w2 ⟨rfl, rfl⟩
        go_wp2_with fail
        refine ⟨⟨k + 1, acc * 16 + hexV c, a * 16 + hexV c, rfl, ?_, by go_num, by omega, trivial, HD⟩, by simp [intOf]; omega⟩
        rw [HE.out]
      · obtain ⟨d0, d1⟩ := hcc
        have HE : Hid ((hexV c : Int) = ((c.toNat : Int) + 32) - 97 + 10) := by show _ = _; unfold hexV; rw [if_neg (by omega), if_neg (by omega)]; omega
        have hLc : ∀ w', Calls Tryz.prog 122 #[.int .u8 c.toNat] w' fun e w'' => e = .returned (.int .u8 ((c.toNat : Int) + 32)) ∧ w'' = w' := fun w' => by
          have := hL c.toNat w'
          rwa [low_big c.toNat (by omega) d0] at this
        clear hv hL
        go_wp2_with fail
        refine (hLc _).mono ?_
        rintro e w2 ⟨rfl, rfl⟩
        go_wp2_with fail
        refine (hLc _).mono ?_
        rintro e w2 ⟨rfl, rfl⟩
        go_wp2_with fail
        refine (hLc _).mono ?_
        rintro e w2 ⟨rfl, rfl⟩
        go_wp2_with fail
        refine ⟨⟨k + 1, acc * 16 + hexV c, a * 16 + hexV c, rfl, ?_, by go_num, by omega, trivial, HD⟩, by simp [intOf]; omega⟩
        rw [HE.out]
    · obtain rfl : k = l.length := by omega
      have HE : Hid (a = hexN l) := by
        show _ = _
        rw [hdec, List.drop_length, ha]
        rfl
      clear ha hacc hdec
      go_wp2_with fail
      go_ret2
      exact ⟨by rw [HE.out]; rfl, HW.out⟩

set_option maxHeartbeats 1000000 in
theorem str_Parse16 (l : Bs) (hl : l.length ≤ 8) (h1 : 1 ≤ l.length) (hx : l.all isHex = true) (w : World) :
    Calls Tryz.prog 98 #[St l, .int .i64 16, .int .i64 64] w fun e w' => e = .returned (.tuple #[.int .u64 (hexN l), .nilIface]) ∧ Below w.heap.size w w' := by
  have hI := parse16_inner l hl h1 hx w
  clear hl h1 hx
  generalize hexN l = n at hI ⊢
  go_enter Tryz.func98, Tryz.ntmps98
  go_wp2_with fail
  refine hI.mono ?_
  rintro e w1 ⟨rfl, hb⟩
  go_wp2_with fail
  go_ret2
  exact ⟨rfl, hb⟩
end Go.Proofs.YtfddjbojpgnfoaaGreatDoor
