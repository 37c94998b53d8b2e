/- The library's text functions in the words of lists of bytes: IndexByte, Trim, TrimLeft, TrimRight, Itoa, Atoi. -/
import Derived.Test.YtbmonfcahhhdeaaGreatDoorLib
import Derived.Shelf.Strings.SlTrimAscii
import Derived.Lib.AtoiAllCases
set_option linter.unusedVariables false
set_option linter.unusedSimpArgs false
namespace Go.Proofs.YtbmonfcahhhdeaaGreatDoor
open Go.RowKit

theorem bs_data (l : Bs) : (⟨l.toArray⟩ : ByteArray).data.toList = l := by simp
theorem bs_size (l : Bs) : (⟨l.toArray⟩ : ByteArray).size = l.length := by simp [ByteArray.size]

theorem indexByte_neg (l : Bs) (c : UInt8) : (0 ≤ Lib.indexByte l c ↔ l.contains c = true) ∧ -1 ≤ Lib.indexByte l c ∧ Lib.indexByte l c < l.length := by
  induction l with
  | nil => simp [Lib.indexByte]
  | cons b l ih =>
    unfold Lib.indexByte
    by_cases h : b = c
    · subst h; simp
    · have h1 : (b == c) = false := by simpa using h
      have h2 : ¬ c = b := fun e => h e.symm
      obtain ⟨i1, i2, i3⟩ := ih
      simp only [h1, Bool.false_eq_true, if_false]
      by_cases h3 : Lib.indexByte l c = -1
      · have : l.contains c = false := by
          cases hc : l.contains c with
          | false => rfl
          | true => have := i1.2 hc; omega
        have h7 : ¬ c ∈ l := by simpa using this
        simp [h3, h2, h7]
        omega
      · have h4 : 0 ≤ Lib.indexByte l c := by omega
        have h5 := i1.1 h4
        have h6 : (Lib.indexByte l c == -1) = false := by simpa using h3
        simp only [h6, Bool.false_eq_true, if_false]
        refine ⟨⟨fun _ => ?_, fun _ => by omega⟩, by omega, by simp; omega⟩
        simp at h5 ⊢
        exact .inr h5

/-- strings.IndexByte, where it is only asked whether the byte is there. -/
theorem str_IndexByte (l : Bs) (c : UInt8) (w : World) :
    Calls Tryz.prog 82 #[St l, .int .u8 c.toNat] w fun e w' => e = .returned (.int .i64 (Lib.indexByte l c)) ∧ w' = w := by
  have h := Tryz.strings_IndexByte ⟨l.toArray⟩ c.toNat w
  rw [bs_data, show ((c.toNat : Int).toNat.toUInt8) = c from by simp] at h
  exact h
theorem str_IndexByte_yes (l : Bs) (c : UInt8) (w : World) (h : l.contains c = true) :
    Calls Tryz.prog 82 #[St l, .int .u8 c.toNat] w fun e w' => (∃ k : Int, 0 ≤ k ∧ e = .returned (.int .i64 k)) ∧ w' = w :=
  (str_IndexByte l c w).mono fun _ _ ⟨h1, h2⟩ => ⟨⟨_, (indexByte_neg l c).1.2 h, h1⟩, h2⟩
theorem str_IndexByte_no (l : Bs) (c : UInt8) (w : World) (h : l.contains c = false) :
    Calls Tryz.prog 82 #[St l, .int .u8 c.toNat] w fun e w' => e = .returned (.int .i64 (-1)) ∧ w' = w :=
  (str_IndexByte l c w).mono fun _ _ ⟨h1, h2⟩ => ⟨by
    have := indexByte_neg l c
    rw [h] at this
    rw [h1, show Lib.indexByte l c = -1 from by
      rcases Int.lt_or_le (Lib.indexByte l c) 0 with h' | h'
      · omega
      · exact absurd (this.1.1 h') (by decide)], h2⟩

def trimL (l cs : Bs) : Bs := l.dropWhile (cs.contains ·)
def trimR (l cs : Bs) : Bs := (l.reverse.dropWhile (cs.contains ·)).reverse
def trim (l cs : Bs) : Bs := trimL (trimR l cs) cs
theorem trimL_one (l : Bs) (c : UInt8) : Lib.trimLeftB l c = trimL l [c] := by
  unfold Lib.trimLeftB trimL
  congr 1
  funext x
  simp only [List.contains_cons, List.contains_nil, Bool.or_false]
theorem trimR_one (l : Bs) (c : UInt8) : Lib.trimRightB l c = trimR l [c] := by
  unfold Lib.trimRightB trimR
  congr 2
  funext x
  simp only [List.contains_cons, List.contains_nil, Bool.or_false]
theorem trimL_le (l cs : Bs) : (trimL l cs).length ≤ l.length := (List.dropWhile_sublist _).length_le
theorem trimR_le (l cs : Bs) : (trimR l cs).length ≤ l.length := by
  unfold trimR
  rw [List.length_reverse]
  exact Nat.le_trans (List.dropWhile_sublist _).length_le (by simp)

theorem str_TrimLeft (l : Bs) (c : UInt8) (hc : c.toNat < 128) (w : World) :
    Calls Tryz.prog 29 #[St l, St [c]] w fun e w' => e = .returned (St (trimL l [c])) ∧ w' = w := by
  have h := Tryz.strings_TrimLeft_one ⟨l.toArray⟩ c hc w
  rw [bs_data, trimL_one] at h
  exact h
theorem str_TrimRight (l : Bs) (c : UInt8) (hc : c.toNat < 128) (hl : l.length ≤ 140737488355328) (w : World) :
    Calls Tryz.prog 32 #[St l, St [c]] w fun e w' => e = .returned (St (trimR l [c])) ∧ w' = w := by
  have h := Tryz.strings_TrimRight_one ⟨l.toArray⟩ c hc w (by rw [bs_size]; omega)
  rw [bs_data, trimR_one] at h
  exact h
theorem str_Trim (l cs : Bs) (hl : l.length ≤ 140737488355328) (h1 : cs.length < 1000) (h2 : cs.all (fun b => b.toNat < 128) = true) (w : World) :
    Calls Tryz.prog 45 #[St l, St cs] w fun e w' => e = .returned (St (trim l cs)) ∧ Below w.heap.size w w' := by
  have h := Any.strings_Trim_laid Tryz.lays160 (by kernel_rfl) ⟨l.toArray⟩ ⟨cs.toArray⟩ w (by rw [bs_size]; omega) (by rw [bs_size]; omega) (by
    intro j b hb
    rw [bs_data] at hb
    have := List.all_eq_true.1 h2 b (List.mem_of_getElem? hb)
    simpa using this)
  rw [bs_data, bs_data] at h
  exact h

theorem below_grown_ (w : World) (q : Nat) (os : Array Obj) : Below w.heap.size w (Go.Sort.grow (w.drewN q) os) :=
  ⟨rfl, rfl, rfl, by simp [Go.Sort.grow], fun i hi => by
    show ((w.drewN q).heap ++ os)[i]? = _
    exact Array.getElem?_append_left hi⟩
theorem str_Itoa (n : Int) (h0 : -9223372036854775808 ≤ n) (h1 : n ≤ 9223372036854775807) (G : Nat) (w : World) (he : Env G w) :
    Calls Tryz.prog 143 #[.int .i64 n] w fun e w' => e = .returned (St (Lib.itoa n)) ∧ Below w.heap.size w w' := by
  refine (Tryz.strconv_Itoa n h0 h1 w he.facts.pow).mono ?_
  rintro e w' ⟨rfl, k, os, rfl⟩
  exact ⟨rfl, below_grown_ w k os⟩
theorem str_Atoi_ok (l : Bs) (hl : l.length ≤ 140737488355328) (v : Int) (h : Lib.atoiAll l = .ok v) (w : World) :
    Calls Tryz.prog 115 #[St l] w fun e w' => e = .returned (.tuple #[.int .i64 v, .nilIface]) ∧ Below w.heap.size w w' := by
  refine (Tryz.strconv_Atoi_ok ⟨l.toArray⟩ (by rw [bs_size]; omega) v (by rw [bs_data]; exact h) w).mono ?_
  rintro e w' ⟨rfl, h⟩
  refine ⟨rfl, ?_⟩
  rcases h with rfl | ⟨t, rfl⟩
  · exact Below.refl _ _
  · exact Lib.bytesWorld_below _ _ _
theorem str_Atoi_no (l : Bs) (hl : l.length ≤ 140737488355328) (h : ∀ v, Lib.atoiAll l ≠ .ok v) (G : Nat) (w : World) (he : Env G w) :
    Calls Tryz.prog 115 #[St l] w fun e w' => (∃ k T x, e = .returned (.tuple #[.int .i64 k, .iface T x])) ∧ Below w.heap.size w w' := by
  obtain ⟨e1, a1, a2⟩ := he.facts.syn
  obtain ⟨e2, b1, b2⟩ := he.facts.rng
  cases hc : Lib.atoiAll l
  all_goals
    first
    | exact absurd hc (h _)
    | (refine (Any.strconv_Atoi_syntax Tryz.laysC172 ⟨l.toArray⟩ (by rw [bs_size]; omega) (by rw [bs_data]; exact hc) e1 w a1 a2).mono ?_
       rintro e w' ⟨N, rfl, _, _, hb⟩
       exact ⟨⟨_, _, _, rfl⟩, hb⟩)
    | (refine (Tryz.strconv_Atoi_range ⟨l.toArray⟩ (by rw [bs_size]; omega) (by rw [bs_data]; exact hc) e2 w b1 b2).mono ?_
       rintro e w' ⟨N, rfl, _, _, hb⟩
       exact ⟨⟨_, _, _, rfl⟩, hb⟩)
end Go.Proofs.YtbmonfcahhhdeaaGreatDoor
