/- The walk of the reader's tag, the other ways. -/
import Derived.Test.YtbmonfcahhhdeaaGreatDoorFRdD
import Derived.Deep.RegionWith
set_option linter.unusedVariables false
set_option linter.unusedSimpArgs false
namespace Go.Proofs.YtbmonfcahhhdeaaGreatDoor
open Go.RowKit

@[go_sem] theorem extract_tail (l : Bs) : ByteArray.extract ⟨l.tail.toArray⟩ 1 (l.length - 1) = ⟨l.tail.tail.toArray⟩ := by
  have := extract_end l.tail 1
  rw [List.length_tail] at this
  rw [this, List.drop_one]
theorem drop_two (l : Bs) : l.drop 2 = l.tail.tail := by rw [← List.drop_one, ← List.drop_one, List.drop_drop]
theorem idx_bounds (x : ByteArray) : ∀ (zs : List ByteArray) (i : Nat), -1 ≤ Lib.idxFromS zs x i ∧ Lib.idxFromS zs x i ≤ ((i + zs.length : Nat) : Int)
  | [], i => by simp only [Lib.idxFromS]; omega
  | z :: zs, i => by
    have ih := idx_bounds x zs (i + 1)
    simp only [Lib.idxFromS, List.length_cons]
    split <;> omega
theorem kindOf_bounds (l : Bs) : 0 ≤ kindOf l ∧ kindOf l ≤ 7 := by
  have := idx_bounds ⟨l.toArray⟩ (kindsL.map fun l => (⟨l.toArray⟩ : ByteArray)) 0
  unfold kindOf Lib.idxOfS
  have e : (kindsL.map fun l => (⟨l.toArray⟩ : ByteArray)).length = 6 := rfl
  omega
theorem index_kinds_at (l : Bs) (b : Nat) (w1 : World) (hk : w1.heap[b]? = some (.cells (kindsL.map St).toArray 9)) :
    Calls Tryz.prog 132 #[.slice (some ⟨b, 0, none⟩) 6 6, St l] w1 fun e w' => e = .returned (.int .i64 (kindOf l - 1)) ∧ w' = w1 := by
  have h := Tryz.slices_Index_string b 0 6 6 (kindsL.map fun l => (⟨l.toArray⟩ : ByteArray)) ⟨l.toArray⟩ w1 (by decide) (by decide) (by
    intro j hj
    rw [blk_cell hk]
    have : j < 6 := hj
    match j, this with
    | 0, _ => rfl
    | 1, _ => rfl
    | 2, _ => rfl
    | 3, _ => rfl
    | 4, _ => rfl
    | 5, _ => rfl)
  refine h.mono ?_
  rintro e w' ⟨rfl, rfl⟩
  refine ⟨?_, rfl⟩
  unfold kindOf
  rw [show (kindsL.map fun l => (⟨l.toArray⟩ : ByteArray)).take 6 = kindsL.map fun l => (⟨l.toArray⟩ : ByteArray) from rfl]
  congr 2
  omega
theorem lowers_ascii : lowers.all (fun b => b.toNat < 128) = true := by kernel_rfl
set_option maxHeartbeats 4000000 in
theorem frd_tag_yes (g : Nat) (r : FRd) (hs : 2 ≤ r.s.length) (w : World) (h : r.At w g) (ok : r.Ok) (hn : (r.dropS 1).next [33] = true) :
    Calls Tryz.prog 98 #[.pointer (some ⟨g, 0, none⟩)] w fun e w' => e = .returned (.int .i64 r.tag.1) ∧ r.tag.2.At w' g ∧ Fr (· = g) w.heap.size w w' := by
  have hlt := blk_lt h
  obtain ⟨c0, c1, c2, c3, f0, f1, f2, f3⟩ := h.parts
  have hd1 := fun w' => slice_drop r.s 1 (by omega) w'
  have hd2 := fun w' => slice_drop r.s.tail 1 (by rw [List.length_tail]; omega) w'
  have h1 : (r.dropS 1).At (w.setCell ⟨g, 1, none⟩ (St r.s.tail)) g := by unfold FRd.dropS; rw [List.drop_one]; exact h.set1 _
  have hN := frd_next g (r.dropS 1) [33] _ h1
  rw [hn] at hN
  have h2 : (r.dropS 2).At ((w.setCell ⟨g, 1, none⟩ (St r.s.tail)).setCell ⟨g, 1, none⟩ (St r.s.tail.tail)) g := by
    unfold FRd.dropS
    rw [drop_two]
    have := h1.set1 r.s.tail.tail
    exact this
  obtain ⟨d0, d1, d2, d3, k0, k1, k2, k3⟩ := h1.parts
  have d1' : (w.setCell ⟨g, 1, none⟩ (St r.s.tail)).cell? ⟨g, 1, none⟩ = some (St r.s.tail) := by rw [d1]; unfold FRd.dropS; rw [List.drop_one]
  clear d1
  have ok2 := FRd.dropS_ok ok 2
  have hA := fun w' h' => frd_at g (r.dropS 2) w' h' ok2
  have HH := Lib.hid h2
  have hfr : Fr (· = g) w.heap.size w ((w.setCell ⟨g, 1, none⟩ (St r.s.tail)).setCell ⟨g, 1, none⟩ (St r.s.tail.tail)) := ((Fr.refl _ _ _).own _ _).own _ _
  have HF := Lib.hid hfr
  obtain ⟨e0, e1, e2, e3, i0, i1, i2, i3⟩ := h2.parts
  have e1' : ((w.setCell ⟨g, 1, none⟩ (St r.s.tail)).setCell ⟨g, 1, none⟩ (St r.s.tail.tail)).cell? ⟨g, 1, none⟩ = some (St r.s.tail.tail) := by rw [e1]; unfold FRd.dropS; rw [drop_two]
  clear e1 hfr h2 h1
  have hWd := fun w' h' => frd_word g (r.dropS 2) lowers lowers_ascii w' h' ok2
  change ∀ w', _ → Calls _ _ _ w' (fun e w'' => e = .returned (St (wordL (r.s.drop 2) lowers)) ∧ ((r.dropS 2).cut lowers).At w'' g ∧ Fr (· = g) w'.heap.size w' w'') at hWd
  have okc := FRd.cut_ok ok2 lowers
  have hkb := kindOf_bounds (wordL (r.s.drop 2) lowers)
  have hIx := fun b w1 hk => index_kinds_at (wordL (r.s.drop 2) lowers) b w1 hk
  have hw1 : IntKind.i64.wrap (kindOf (wordL (r.s.drop 2) lowers) - 1 + 1) = kindOf (wordL (r.s.drop 2) lowers) := by rw [IntKind.wrap_i64]; omega
  have hw2 : wrap64 (kindOf (wordL (r.s.drop 2) lowers) - 1 + 1) = kindOf (wordL (r.s.drop 2) lowers) := by unfold wrap64; omega
  have hw3 : kindOf (wordL (r.s.drop 2) lowers) - 1 + 1 = kindOf (wordL (r.s.drop 2) lowers) := by omega
  have hSt := fun w' h' => frd_stray g ((r.dropS 2).cut lowers) w' h' okc
  have hWr := fun w' h' => frd_wrong g ((r.dropS 2).cut lowers) 3 (r.dropS 2).pos w' h'
  have hcase : (List.isEmpty r.s.tail.tail = true ∧ r.tag = (kindOf (wordL (r.s.drop 2) lowers), ((r.dropS 2).cut lowers).stray)) ∨
      (List.isEmpty r.s.tail.tail = false ∧ (kindOf (wordL (r.s.drop 2) lowers) == 0) = true ∧ r.tag = (kindOf (wordL (r.s.drop 2) lowers), ((r.dropS 2).cut lowers).wrong 3 (r.dropS 2).pos)) ∨
      (List.isEmpty r.s.tail.tail = false ∧ (kindOf (wordL (r.s.drop 2) lowers) == 0) = false ∧ r.tag = (kindOf (wordL (r.s.drop 2) lowers), (r.dropS 2).cut lowers)) := by
    by_cases hE : r.s.drop 2 = []
    · refine .inl ⟨by rw [← drop_two, hE]; rfl, ?_⟩
      unfold FRd.tag
      rw [if_neg (by rw [hn]; decide), if_pos hE, hE]
      rfl
    · have hE' : List.isEmpty r.s.tail.tail = false := by rw [← drop_two]; simpa using hE
      by_cases h0 : kindOf (wordL (r.s.drop 2) lowers) = 0
      · refine .inr (.inl ⟨hE', by simpa using h0, ?_⟩)
        unfold FRd.tag
        rw [if_neg (by rw [hn]; decide), if_neg hE, if_pos h0, h0]
      · refine .inr (.inr ⟨hE', by simpa using h0, ?_⟩)
        unfold FRd.tag
        rw [if_neg (by rw [hn]; decide), if_neg hE, if_neg h0]
  have hFg : w.heap.size ≠ g := by omega
  have hpos : (r.dropS 2).pos = (r.dropS 2).pos := rfl
  clear hn ok ok2 okc hd1 hd2 h
  generalize wordL (r.s.drop 2) lowers = u at hWd hkb hIx hw1 hw2 hw3 hcase
  generalize kindOf u = κ at hkb hIx hw1 hw2 hw3 hcase
  generalize (r.dropS 2).cut lowers = rc at hWd hSt hWr hcase
  rcases hcase with ⟨hE, hR⟩ | ⟨hE, h0, hR⟩ | ⟨hE, h0, hR⟩
  all_goals
    rw [hR]
    clear hR
    go_enter Tryz.func98, Tryz.ntmps98
    go_wp2_with fail
    refine hN.mono ?_
    rintro e w1 ⟨rfl, rfl⟩
    go_wp2_with fail
    go_region_with (first | (go_at_call 33; refine (hA _ (by exact HH.out)).mono ?_; rintro x w5 ⟨rfl, n5, rfl⟩))
    all_goals
      have h6 : (r.dropS 2).At ((((w.setCell ⟨g, 1, none⟩ (St r.s.tail)).setCell ⟨g, 1, none⟩ (St r.s.tail.tail)).drewN (1 + n5)).alloc (.cells (kindsL.map St).toArray 9)) g := blk_alloc HH.out
      have hk6 : ((((w.setCell ⟨g, 1, none⟩ (St r.s.tail)).setCell ⟨g, 1, none⟩ (St r.s.tail.tail)).drewN (1 + n5)).alloc (.cells (kindsL.map St).toArray 9)).heap[w.heap.size]? = some (.cells (kindsL.map St).toArray 9) := by
        have := blk_new (((w.setCell ⟨g, 1, none⟩ (St r.s.tail)).setCell ⟨g, 1, none⟩ (St r.s.tail.tail)).drewN (1 + n5)) (.cells (kindsL.map St).toArray 9)
        simpa using this
      have hf6 : Fr (· = g) w.heap.size w ((((w.setCell ⟨g, 1, none⟩ (St r.s.tail)).setCell ⟨g, 1, none⟩ (St r.s.tail.tail)).drewN (1 + n5)).alloc (.cells (kindsL.map St).toArray 9)) := (HF.out.drewN _).alloc (HF.out.drewN (1 + n5)).size _
      have H6 := Lib.hid hf6
      clear hf6
      go_wp2_with fail
      refine (flow_kinds _).mono ?_
      rintro e w6 ⟨rfl, rfl⟩
      go_wp2_with fail
      refine (hWd _ (by exact h6)).mono ?_
      rintro e w7 ⟨rfl, h7, fr7⟩
      have hk7 := blk_fr hk6 fr7 (blk_lt hk6) hFg
      have hz7 := blk_lt hk6
      go_wp2_with fail
      refine (hIx w.heap.size _ (by exact hk7)).mono ?_
      rintro e w8 ⟨rfl, rfl⟩
      have hf8 := H6.out.call fr7 H6.out.size (fun _ _ h => h)
      have H8 := Lib.hid (And.intro hf8 h7)
      clear hf8 h7 fr7 hk7
      go_wp2_with fail
      first
      | (refine (hSt _ (by exact H8.out.2)).mono ?_
         rintro e w9 ⟨rfl, h9, fr9⟩
         go_wp2_with fail
         go_ret
         exact ⟨rfl, h9, H8.out.1.call fr9 H8.out.1.size (fun _ _ h => h)⟩)
      | (refine (hWr _ (by exact H8.out.2)).mono ?_
         rintro e w9 ⟨rfl, h9, fr9⟩
         go_wp2_with fail
         go_ret
         exact ⟨rfl, h9, H8.out.1.call fr9 H8.out.1.size (fun _ _ h => h)⟩)
      | (go_ret
         exact ⟨rfl, H8.out.2, H8.out.1⟩)

theorem frd_tag (g : Nat) (r : FRd) (hs : 1 ≤ r.s.length) (w : World) (h : r.At w g) (ok : r.Ok) :
    Calls Tryz.prog 98 #[.pointer (some ⟨g, 0, none⟩)] w fun e w' => e = .returned (.int .i64 r.tag.1) ∧ r.tag.2.At w' g ∧ Fr (· = g) w.heap.size w w' := by
  cases hn : (r.dropS 1).next [33] with
  | false => exact frd_tag_no g r hs w h ok hn
  | true =>
    refine frd_tag_yes g r ?_ w h ok hn
    unfold FRd.next FRd.dropS at hn
    rcases hr : r.s with _ | ⟨a, _ | ⟨b, t⟩⟩
    · rw [hr] at hs; simp at hs
    · rw [hr] at hn; simp at hn
    · simp
end Go.Proofs.YtbmonfcahhhdeaaGreatDoor
