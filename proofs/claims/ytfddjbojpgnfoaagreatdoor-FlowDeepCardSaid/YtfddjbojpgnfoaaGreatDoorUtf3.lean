/- The walks of package utf: fault, Check, Decode. -/
import Derived.Test.YtfddjbojpgnfoaaGreatDoorUtf2
import Derived.RegionTactic
import Derived.BigRegion
set_option linter.unusedVariables false
set_option linter.unusedSimpArgs false
namespace Go.Proofs.YtfddjbojpgnfoaaGreatDoor
open Go.RowKit

abbrev Ft (why at_ : Int) : Value := .agg #[.int .i64 why, .int .i64 at_]
set_option maxHeartbeats 1000000 in
theorem utf_fault (l : Bs) (k : Nat) (w : World) (hl : l.length ≤ 140737488355328) (hk : k ≤ l.length) :
    Calls Tryz.prog 78 #[St l, .int .i64 k] w fun e w' => e = .returned (if k < l.length then Ft 8 k else Ft 0 0) ∧ Below w.heap.size w w' := by
  by_cases h : k < l.length
  · rw [if_pos h]
    go_enter Tryz.func78, Tryz.ntmps78
    go_wp2_with fail
    exact bodyPost_ret (v := Ft 8 k) (by simp [results, Tryz.results78, go_sem]) rfl ⟨rfl, (Below.refl _ _).alloc (Nat.le_refl _) _⟩
  · rw [if_neg h]
    go_enter Tryz.func78, Tryz.ntmps78
    go_wp2_with fail
    exact bodyPost_ret (v := Ft 0 0) (by simp [results, Tryz.results78, go_sem]) rfl ⟨rfl, (Below.refl _ _).alloc (Nat.le_refl _) _⟩

/-- The fault of a text that ends at place k. -/
def uflt (k n : Nat) : Int × Int := if k < n then (8, k) else (0, 0)
theorem utf_fault' (l : Bs) (k : Nat) (w : World) (hl : l.length ≤ 140737488355328) (hk : k ≤ l.length) :
    Calls Tryz.prog 78 #[St l, .int .i64 k] w fun e w' => e = .returned (Ft (uflt k l.length).1 (uflt k l.length).2) ∧ Below w.heap.size w w' := by
  refine (utf_fault l k w hl hk).mono ?_
  rintro e w' ⟨rfl, hb⟩
  refine ⟨?_, hb⟩
  unfold uflt
  split <;> rfl

/-- utf.Check. -/
def ucheck (l : Bs) : Int × Int := uflt (uw printable l) l.length
set_option maxHeartbeats 1000000 in
theorem utf_Check (l : Bs) (G : Nat) (w : World) (hl : l.length ≤ 140737488355328) (he : Env G w) :
    Calls Tryz.prog 62 #[St l] w fun e w' => e = .returned (Ft (ucheck l).1 (ucheck l).2) ∧ Below w.heap.size w w' := by
  unfold ucheck
  have hle := uw_le printable l
  have hW := fun w' (h : Env G w') => utf_walk_print l hl G w' h
  have hF := fun w' => utf_fault' l (uw printable l) w' hl hle
  obtain ⟨K, hK⟩ : ∃ K, uw printable l = K := ⟨_, rfl⟩
  rw [hK] at hW hF hle ⊢
  obtain ⟨X, hX⟩ : ∃ X, uflt K l.length = X := ⟨_, rfl⟩
  rw [hX] at hF ⊢
  obtain ⟨X1, X2⟩ := X
  simp only [] at hF ⊢
  clear hK hX
  have HE := Lib.hid he
  clear he
  go_enter Tryz.func62, Tryz.ntmps62
  go_wp2_with fail
  refine (hW _ (HE.out.alloc _)).mono ?_
  rintro e w1 ⟨rfl, hb1⟩
  go_wp2_with fail
  refine (hF _).mono ?_
  rintro e w2 ⟨rfl, hb2⟩
  have hb3 := below_call hb1 hb2 hb1.size
  have hc := blk_below (blk_new w (.cells #[.int .i64 0, .int .i64 0] 28)) hb3 (by simp)
  obtain ⟨c0, c1, f0, f1⟩ := cells2 hc
  have HC := Lib.hid (And.intro hb3 hc)
  clear hb1 hb2 hb3 hc hW hF
  go_wp2_with fail
  obtain ⟨hb3, hc⟩ := HC.out
  have hd := blk_set (i := 1) (v := .int .i64 X2) (blk_set (i := 0) (v := .int .i64 X1) hc)
  have d0 := blk_cell hd 0
  have d1 := blk_cell hd 1
  exact bodyPost_ret (v := Ft X1 X2) (by simp [results, Tryz.results62, go_sem, d0, d1]) rfl ⟨rfl, (((Below.refl _ _).alloc (Nat.le_refl _) _).trans (hb3.mono (by simp))).setCell (by simp) _ |>.setCell (by simp) _⟩

set_option maxHeartbeats 1000000 in
theorem utf_Decode_bad (l : Bs) (G : Nat) (w : World) (hl : l.length ≤ 4294967296) (he : Env G w) (hlt : uw nonneg l < l.length) :
    Calls Tryz.prog 59 #[St l] w fun e w' => e = .returned (.tuple #[.slice none 0 0, Ft 8 (uw nonneg l : Nat)]) ∧ Below w.heap.size w w' := by
  have hW := fun b w' (h : Env G w') (hG : G ≤ b) (hk : Keeps b [] w') => utf_walk_dec l hl b G w' h hG hk
  have hF := fun w' => utf_fault' l (uw nonneg l) w' (by omega) (by omega)
  simp only [uflt, if_pos hlt] at hF
  obtain ⟨K, hK⟩ : ∃ K, uw nonneg l = K := ⟨_, rfl⟩
  rw [hK] at hW hF hlt ⊢
  obtain ⟨X, hX⟩ : ∃ X, us nonneg l = X := ⟨_, rfl⟩
  rw [hX] at hW
  clear hK hX
  have HE := Lib.hid he
  clear he
  go_enter Tryz.func59, Tryz.ntmps59
  go_wp2_with fail
  refine (hW (w.heap.size + 1) _ (by exact (HE.out.alloc _).alloc _) (by have := HE.out.le; omega) ⟨.slice none 0 0, by simpa using blk_new (w.alloc _) _, ⟨rfl, .inl ⟨rfl, rfl⟩⟩⟩).mono ?_
  rintro e w1 ⟨rfl, hk1, hb1⟩
  go_wp2_with fail
  refine (hF _).mono ?_
  rintro e w2 ⟨rfl, hb2⟩
  have hz : w.heap.size + 2 ≤ w2.heap.size := by
    have a1 := hb1.size
    have a2 := hb2.size
    simp at a1
    omega
  have hb3 := hb1.trans (hb2.mono (by have := hb1.size; simp at this; omega))
  have hc := blk_below (blk_alloc (x := .cells #[.slice none 0 0] 97) (blk_new w (.cells #[.int .i64 0, .int .i64 0] 28))) hb3 (by omega)
  obtain ⟨c0, c1, f0, f1⟩ := cells2 hc
  have HC := Lib.hid (And.intro hb3 hc)
  have hz0 : w.heap.size < w2.heap.size := by omega
  have hz1 : w.heap.size + 1 < w2.heap.size := by omega
  clear hb1 hb2 hb3 hc hW hF hk1
  go_wp2_with fail
  go_region
  go_wp2_with fail
  obtain ⟨hb3, hc⟩ := HC.out
  have hd := blk_alloc (x := .cells #[.int .i64 8, .int .i64 K] 28) (blk_set (i := 1) (v := .int .i64 K) (blk_set (i := 0) (v := .int .i64 8) hc))
  have d0 := blk_cell hd 0
  have d1 := blk_cell hd 1
  exact bodyPost_ret (v := .tuple #[.slice none 0 0, Ft 8 K]) (by simp [results, Tryz.results59, go_sem, d0, d1]) rfl
    ⟨rfl, ((((((((Below.refl _ _).alloc (Nat.le_refl _) _).alloc (by simp) _).trans (hb3.mono (by simp))).setCell (by simp) _).setCell (by simp) _).alloc (by simp; omega) _)).drew⟩

set_option maxHeartbeats 1000000 in
theorem utf_Decode_ok (l : Bs) (G : Nat) (w : World) (hl : l.length ≤ 4294967296) (he : Env G w) (hlt : uw nonneg l = l.length) :
    Calls Tryz.prog 59 #[St l] w fun e w' => (∃ A c, e = .returned (.tuple #[.slice A (us nonneg l).length c, Ft 0 0]) ∧ w'.ownsRow w.heap.size 3 1 (.slice A (us nonneg l).length c) (us nonneg l).length (ints (us nonneg l))) ∧ Below w.heap.size w w' := by
  have hW := fun b w' (h : Env G w') (hG : G ≤ b) (hk : Keeps b [] w') => utf_walk_dec l hl b G w' h hG hk
  have hF := fun w' => utf_fault' l (uw nonneg l) w' (by omega) (by omega)
  have hno : ¬ (l.length < l.length) := by omega
  rw [hlt] at hW
  simp only [uflt, hlt, if_neg hno] at hF
  obtain ⟨X, hX⟩ : ∃ X, us nonneg l = X := ⟨_, rfl⟩
  rw [hX] at hW ⊢
  clear hX hlt hno
  have HE := Lib.hid he
  clear he
  go_enter Tryz.func59, Tryz.ntmps59
  go_wp2_with fail
  refine (hW (w.heap.size + 1) _ (by exact (HE.out.alloc _).alloc _) (by have := HE.out.le; omega) ⟨.slice none 0 0, by simpa using blk_new (w.alloc _) _, ⟨rfl, .inl ⟨rfl, rfl⟩⟩⟩).mono ?_
  rintro e w1 ⟨rfl, hk1, hb1⟩
  go_wp2_with fail
  refine (hF _).mono ?_
  rintro e w2 ⟨rfl, hb2⟩
  have hz : w.heap.size + 2 ≤ w2.heap.size := by
    have a1 := hb1.size
    have a2 := hb2.size
    simp at a1
    omega
  have hb3 := hb1.trans (hb2.mono (by have := hb1.size; simp at this; omega))
  have hc := blk_below (blk_alloc (x := .cells #[.slice none 0 0] 97) (blk_new w (.cells #[.int .i64 0, .int .i64 0] 28))) hb3 (by omega)
  obtain ⟨c0, c1, f0, f1⟩ := cells2 hc
  obtain ⟨v, hv1, hv2⟩ := hk1.below hb2
  obtain ⟨A, c, rfl⟩ := own_slice hv2
  have e0 : w2.cell? ⟨w.heap.size + 1, 0, none⟩ = some (.slice A X.length c) := blk_cell hv1 0
  have HC := Lib.hid (And.intro hb3 (And.intro hc hv2))
  have hz0 : w.heap.size < w2.heap.size := by omega
  have hz1 : w.heap.size + 1 < w2.heap.size := by omega
  clear hb1 hb2 hb3 hc hW hF hk1 hv1 hv2
  go_wp2_with fail
  obtain ⟨hb3, hc, hv2⟩ := HC.out
  have hd := blk_alloc (x := .cells #[.int .i64 0, .int .i64 0] 28) (blk_set (i := 1) (v := .int .i64 0) (blk_set (i := 0) (v := .int .i64 0) hc))
  have d0 := blk_cell hd 0
  have d1 := blk_cell hd 1
  exact bodyPost_ret (v := .tuple #[.slice A X.length c, Ft 0 0]) (by simp [results, Tryz.results59, go_sem, d0, d1]) rfl
    ⟨⟨A, c, rfl, own_weaken ((ownsRow_setCell_below (ownsRow_setCell_below hv2 (by simp; omega) _) (by simp; omega) _).alloc _) (by omega)⟩,
      ((((((Below.refl _ _).alloc (Nat.le_refl _) _).alloc (by simp) _).trans (hb3.mono (by simp))).setCell (by simp) _).setCell (by simp) _).alloc (by simp; omega) _⟩
end Go.Proofs.YtfddjbojpgnfoaaGreatDoor
