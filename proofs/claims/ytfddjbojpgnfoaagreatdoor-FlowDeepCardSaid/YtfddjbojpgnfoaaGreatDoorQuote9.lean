/- The walk of quote.Read. -/
import Derived.Test.YtfddjbojpgnfoaaGreatDoorQuote8
import Derived.Deep.RegionWith
set_option linter.unusedVariables false
set_option linter.unusedSimpArgs false
namespace Go.Proofs.YtfddjbojpgnfoaaGreatDoor
open Go.RowKit

theorem qescHex_bounds (many : Nat) (t : Bs) : 0 ≤ (qescHex many t).2.1 ∧ (qescHex many t).2.1 ≤ (t.length : Int) + 2 := by
  unfold qescHex
  split
  · exact ⟨by decide, by simp; omega⟩
  split
  · exact ⟨by decide, by simp; omega⟩
  split
  · exact ⟨by simp; omega, by simp; omega⟩
  · exact ⟨by decide, by simp; omega⟩
theorem qescape_bounds (l : Bs) : 0 ≤ (qescape l).2.1 ∧ (qescape l).2.1 ≤ l.length := by
  unfold qescape
  split
  · rename_i b c t
    have a1 := qescHex_bounds 2 t
    have a2 := qescHex_bounds 4 t
    have a3 := qescHex_bounds 8 t
    simp only [List.length_cons]
    repeat' split
    all_goals first | exact ⟨by decide, by simp; omega⟩ | exact ⟨a1.1, by omega⟩ | exact ⟨a2.1, by omega⟩ | exact ⟨a3.1, by omega⟩ | exact ⟨by simp, by simp; omega⟩
  · exact ⟨by decide, by simp⟩
theorem qescape_two (l : Bs) (h : (qescape l).2.2 = 0) : 2 ≤ (qescape l).2.1 := by
  have q0 : ∀ many t, (qescHex many t).2.2 = 0 → 2 ≤ (qescHex many t).2.1 := fun many t h => by
    unfold qescHex at h ⊢
    split
    · simp_all
    split
    · simp_all
    split
    · simp; omega
    · simp_all
  unfold qescape at h ⊢
  split at h
  · repeat' split
    all_goals first | decide | (apply q0; simp_all) | simp_all
  · simp at h
theorem qone_bounds (q : UInt8) (l : Bs) (h : (qone q l).2.2 = 0) : 0 ≤ (qone q l).2.1 ∧ (qone q l).2.1 ≤ l.length ∧ (((qone q l).1.length : Nat) : Int) ≤ 4 * (qone q l).2.1 := by
  rcases l with _ | ⟨b, t⟩
  · simp [qone]
  have hb := utf1_bounds (b :: t)
  have he := qescape_bounds (b :: t)
  simp only [qone] at h ⊢
  by_cases h1 : b = q
  · rw [if_pos h1] at h ⊢
    by_cases h2 : q = 39 ∧ t.head? = some 39
    · rw [if_pos h2]
      rcases t with _ | ⟨c, t⟩
      · simp at h2
      · simp; omega
    · rw [if_neg h2]; simp; try omega
  rw [if_neg h1] at h ⊢
  by_cases h2 : q = 34 ∧ b = 92
  · rw [if_pos h2] at h ⊢
    by_cases h3 : (qescape (b :: t)).2.2 = 0
    · rw [if_pos h3]
      have := qescape_two _ h3
      have := runeBs_len (qescape (b :: t)).1
      exact ⟨he.1, he.2, by simp only []; omega⟩
    · rw [if_neg h3] at h ⊢; exact absurd h h3
  rw [if_neg h2] at h ⊢
  by_cases h3 : qmay (utf1 (b :: t)).1 = true
  · rw [if_pos h3]
    exact ⟨by simp, by have := hb.2.2.1; simp only []; omega, by rw [List.length_take]; simp only []; omega⟩
  · rw [if_neg h3] at h; simp at h

/-- quote.Read behind its first byte: what was meant, how many bytes, the fault. -/
def qreadL (q : UInt8) (tot : Nat) : Nat → Nat → Bs → Bs → Bs × Int × Int × Int
  | 0, _, _, _ => ([], 0, 4, tot)
  | f + 1, k, rest, acc =>
    if rest = [] then ([], 0, 4, tot)
    else if (qone q rest).2.2 = 4 then ([], 0, 4, tot)
    else if (qone q rest).2.2 ≠ 0 then ([], 0, (qone q rest).2.2, k)
    else if (qone q rest).2.1 = 0 then (acc, k + 1, 0, 0)
    else qreadL q tot f (k + (qone q rest).2.1.toNat) (rest.drop (qone q rest).2.1.toNat) (acc ++ (qone q rest).1)
/-- quote.Read. -/
def qread : Bs → Bs × Int × Int × Int
  | [] => ([], 0, 3, 0)
  | q :: t => if q = 39 ∨ q = 34 then qreadL q (t.length + 1) t.length 1 t [] else ([], 0, 3, 0)
end Go.Proofs.YtfddjbojpgnfoaaGreatDoor
