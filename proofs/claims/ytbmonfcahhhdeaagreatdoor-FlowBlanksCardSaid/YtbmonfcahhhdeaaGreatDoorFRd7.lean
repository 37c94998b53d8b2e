/- The walks of package flow's reader: name. The walks of package flow's reader: scalar. -/
import Derived.Test.YtbmonfcahhhdeaaGreatDoorFRd5
set_option linter.unusedVariables false
set_option linter.unusedSimpArgs false
namespace Go.Proofs.YtbmonfcahhhdeaaGreatDoor
open Go.RowKit

/-- The signs of names. -/
def lettersBs : Bs := [97, 98, 99, 100, 101, 102, 103, 104, 105, 106, 107, 108, 109, 110, 111, 112, 113, 114, 115, 116, 117, 118, 119, 120, 121, 122, 65, 66, 67, 68, 69, 70, 71, 72, 73, 74, 75, 76, 77, 78, 79, 80, 81, 82, 83, 84, 85, 86, 87, 88, 89, 90, 48, 49, 50, 51, 52, 53, 54, 55, 56, 57, 45, 95]
theorem letters_ascii : lettersBs.all (fun b => b.toNat < 128) = true := by kernel_rfl
/-- name's word, and the reader behind it. -/
def FRd.cut (r : FRd) (set : Bs) : FRd := { r with s := cutL r.s set }
def FRd.name (r : FRd) : FRd :=
  if wordL r.s lettersBs = [] then (r.cut lettersBs).stray else if 32 < (wordL r.s lettersBs).length then (r.cut lettersBs).wrong 3 (r.pos + 32) else r.cut lettersBs
theorem FRd.cut_ok {r : FRd} (ok : r.Ok) (set : Bs) : (r.cut set).Ok := ⟨by
  have := word_len r.s set
  have := ok.len
  show ((cutL r.s set).length : Int) ≤ r.whole
  omega, ok.hi⟩
theorem FRd.name_ok {r : FRd} (ok : r.Ok) : r.name.Ok := by
  unfold FRd.name
  split
  · exact FRd.stray_ok (FRd.cut_ok ok _)
  split
  · exact FRd.wrong_ok (FRd.cut_ok ok _) _ _
  · exact FRd.cut_ok ok _

set_option maxHeartbeats 4000000 in
theorem frd_name (g : Nat) (r : FRd) (w : World) (h : r.At w g) (ok : r.Ok) :
    Calls Tryz.prog 59 #[.pointer (some ⟨g, 0, none⟩)] w fun e w' => e = .returned (St (wordL r.s lettersBs)) ∧ r.name.At w' g ∧ Fr (· = g) w.heap.size w w' := by
  have hA := frd_at g r w h ok
  have hW := fun w' h' => frd_word g r lettersBs letters_ascii w' h' ok
  have hb1 : 0 ≤ r.pos ∧ r.pos ≤ 140737488355328 := by have := ok.len; have := ok.hi; unfold FRd.pos; omega
  have hw1 : wrap64 (r.pos + 32) = r.pos + 32 := by unfold wrap64; omega
  have HH := Lib.hid (And.intro h ok)
  change ∀ w', _ → Calls _ _ _ w' (fun e w'' => e = .returned (St (wordL r.s lettersBs)) ∧ (r.cut lettersBs).At w'' g ∧ Fr (· = g) w'.heap.size w' w'') at hW
  have hck := FRd.cut_ok ok lettersBs
  cases hn : wordL r.s lettersBs with
  | nil =>
    have hR : r.name = (r.cut lettersBs).stray := by unfold FRd.name; rw [if_pos hn]
    have hS := fun w' h' => frd_stray g (r.cut lettersBs) w' h' hck
    rw [hR]
    rw [hn] at hW
    clear hR hn hw1 hb1 h ok
    generalize r.cut lettersBs = r2 at hW hS ⊢
    go_enter Tryz.func59, Tryz.ntmps59
    go_wp2_with fail
    refine hA.mono ?_
    rintro e w1 ⟨rfl, n, rfl⟩
    go_wp2_with fail
    refine (hW _ (by exact HH.out.1)).mono ?_
    rintro e w2 ⟨rfl, h2, fr2⟩
    go_wp2_with fail
    refine (hS _ h2).mono ?_
    rintro e w3 ⟨rfl, h3, fr3⟩
    go_wp2_with fail
    go_ret
    exact ⟨rfl, h3, (((Fr.refl _ _ _).drewN n).call fr2 (Nat.le_refl _) (fun _ _ h => h)).call fr3 fr2.size (fun _ _ h => h)⟩
  | cons b t =>
    by_cases hl : 32 < (wordL r.s lettersBs).length
    · have hR : r.name = (r.cut lettersBs).wrong 3 (r.pos + 32) := by unfold FRd.name; rw [if_neg (by rw [hn]; simp), if_pos hl]
      have hS := fun w' h' => frd_wrong g (r.cut lettersBs) 3 (r.pos + 32) w' h'
      rw [hR]
      rw [hn] at hW hl
      have hl2 : (32 : Int) < (t.length : Int) + 1 := by simp at hl; omega
      clear hR hn hl hb1 h ok hck
      generalize hp : r.pos = p at hA hw1 hS
      generalize r.cut lettersBs = r2 at hW hS ⊢
      go_enter Tryz.func59, Tryz.ntmps59
      go_wp2_with fail
      refine hA.mono ?_
      rintro e w1 ⟨rfl, n, rfl⟩
      go_wp2_with fail
      refine (hW _ (by exact HH.out.1)).mono ?_
      rintro e w2 ⟨rfl, h2, fr2⟩
      go_wp2_with fail
      refine (hS _ h2).mono ?_
      rintro e w3 ⟨rfl, h3, fr3⟩
      go_wp2_with fail
      go_ret
      exact ⟨rfl, h3, (((Fr.refl _ _ _).drewN n).call fr2 (Nat.le_refl _) (fun _ _ h => h)).call fr3 fr2.size (fun _ _ h => h)⟩
    · have hR : r.name = r.cut lettersBs := by unfold FRd.name; rw [if_neg (by rw [hn]; simp), if_neg hl]
      rw [hR]
      rw [hn] at hW hl
      have hl2 : ¬ ((32 : Int) < (t.length : Int) + 1) := by simp at hl; omega
      clear hR hn hl hb1 h ok hck
      generalize hp : r.pos = p at hA hw1
      generalize r.cut lettersBs = r2 at hW ⊢
      go_enter Tryz.func59, Tryz.ntmps59
      go_wp2_with fail
      refine hA.mono ?_
      rintro e w1 ⟨rfl, n, rfl⟩
      go_wp2_with fail
      refine (hW _ (by exact HH.out.1)).mono ?_
      rintro e w2 ⟨rfl, h2, fr2⟩
      go_wp2_with fail
      go_ret
      exact ⟨rfl, h2, ((Fr.refl _ _ _).drewN n).call fr2 (Nat.le_refl _) (fun _ _ h => h)⟩
end Go.Proofs.YtbmonfcahhhdeaaGreatDoor

namespace Go.Proofs.YtbmonfcahhhdeaaGreatDoor
open Go.RowKit

theorem qreadL_bounds (q : UInt8) (tot : Nat) : ∀ (f k : Nat) (rest acc : Bs), k + rest.length = tot → 0 ≤ (qreadL q tot f k rest acc).2.1 ∧ (qreadL q tot f k rest acc).2.1 ≤ tot ∧ 0 ≤ (qreadL q tot f k rest acc).2.2.2 ∧ (qreadL q tot f k rest acc).2.2.2 ≤ tot
  | 0, k, rest, acc, h => by simp [qreadL]
  | f + 1, k, rest, acc, h => by
    unfold qreadL
    by_cases h0 : rest = []
    · rw [if_pos h0]; simp
    rw [if_neg h0]
    by_cases h1 : (qone q rest).2.2 = 4
    · rw [if_pos h1]; simp
    rw [if_neg h1]
    by_cases h2 : (qone q rest).2.2 ≠ 0
    · rw [if_pos h2]; simp; omega
    rw [if_neg h2]
    have hb := qone_bounds q rest (by simpa using h2)
    by_cases h3 : (qone q rest).2.1 = 0
    · rw [if_pos h3]
      have := List.length_pos_iff.2 h0
      simp; omega
    rw [if_neg h3]
    exact qreadL_bounds q tot f _ _ _ (by rw [List.length_drop]; omega)
theorem qread_bounds (l : Bs) : 0 ≤ (qread l).2.1 ∧ (qread l).2.1 ≤ l.length ∧ 0 ≤ (qread l).2.2.2 ∧ (qread l).2.2.2 ≤ l.length := by
  rcases l with _ | ⟨q, t⟩
  · simp [qread]
  · simp only [qread]
    split
    · have := qreadL_bounds q (t.length + 1) t.length 1 t [] (by omega)
      simpa using this
    · simp; omega

/-- scalar's text, whether it was quoted, and the reader behind it. -/
def FRd.dropS (r : FRd) (n : Nat) : FRd := { r with s := r.s.drop n }
def FRd.scalar (r : FRd) (f : Bool) : Bs × Bool × FRd :=
  if r.well then
    (if r.next [39, 34] then ((qread r.s).1, true, (r.wrongAs (qread r.s).2.2.1 (qread r.s).2.2.2).dropS (qread r.s).2.1.toNat)
     else (pcut r.s f, false, (if pcut r.s f ≠ [] ∧ pis (pcut r.s f) f = false then r.stray else r).dropS (pcut r.s f).length))
  else ([], false, r)
theorem pcut_le (l : Bs) (f : Bool) : (pcut l f).length ≤ l.length := by
  unfold pcut
  refine Nat.le_trans (trimR_le _ _) ?_
  rw [List.length_take]; omega
theorem FRd.dropS_ok {r : FRd} (ok : r.Ok) (n : Nat) : (r.dropS n).Ok := ⟨by
  have := ok.len
  show ((r.s.drop n).length : Int) ≤ r.whole
  rw [List.length_drop]; omega, ok.hi⟩
theorem FRd.scalar_ok {r : FRd} (ok : r.Ok) (f : Bool) : (r.scalar f).2.2.Ok := by
  unfold FRd.scalar
  split
  · split
    · exact FRd.dropS_ok (FRd.wrongAs_ok ok _ _) _
    · dsimp only
      apply FRd.dropS_ok
      split
      · exact FRd.stray_ok ok
      · exact ok
  · exact ok

/-- The slice of what is left. -/
theorem slice_drop (l : Bs) (n : Nat) (hn : n ≤ l.length) (w : World) : (Instr.slice 9 (St l) (some (.int .i64 n)) none none).run Tryz.prog w = .ok (St (l.drop n)) w := by
  rw [run_slice_string_l w 9 _ Tryz.underlying9 .i64 _ (by omega) (by show (n : Int) ≤ (l.length : Int); omega)]
  show Result.ok (Value.string (ByteArray.extract ⟨l.toArray⟩ (n : Int).toNat l.length)) w = _
  rw [extract_end, Int.toNat_natCast]
end Go.Proofs.YtbmonfcahhhdeaaGreatDoor
