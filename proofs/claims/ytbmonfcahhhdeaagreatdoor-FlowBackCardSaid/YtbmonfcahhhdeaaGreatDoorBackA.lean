/- The walk of the law's small: is a tree not too large, nor too deep. -/
import Derived.Test.YtbmonfcahhhdeaaGreatDoorFW5
set_option linter.unusedVariables false
set_option linter.unusedSimpArgs false
namespace Go.Proofs.YtbmonfcahhhdeaaGreatDoor
open Go.RowKit

mutual
/-- small: the answer, and how many trees may still come. -/
def smallT : T → Int → Int → Bool × Int
  | .mk k t a kids, deep, left =>
    if left - 1 < 0 ∨ 80 < deep ∨ 3000 < t.length ∨ 3000 < a.length then (false, left - 1) else smallL kids (deep + 1) (left - 1)
def smallL : List T → Int → Int → Bool × Int
  | [], _, left => (true, left)
  | t :: ts, deep, left => if (smallT t deep left).1 then smallL ts deep (smallT t deep left).2 else (false, (smallT t deep left).2)
end
theorem smallT_mk (k : Int) (t a : Bs) (kids : List T) (deep left : Int) : smallT (.mk k t a kids) deep left =
    if left - 1 < 0 ∨ 80 < deep ∨ 3000 < t.length ∨ 3000 < a.length then (false, left - 1) else smallL kids (deep + 1) (left - 1) := by rw [smallT]
theorem smallL_nil (deep left : Int) : smallL [] deep left = (true, left) := by rw [smallL]
theorem smallL_cons (t : T) (ts : List T) (deep left : Int) : smallL (t :: ts) deep left = if (smallT t deep left).1 then smallL ts deep (smallT t deep left).2 else (false, (smallT t deep left).2) := by rw [smallL]
/-- What stands behind small. -/
def SmallPost (c : Nat) (R : Bool × Int) (left : Int) (w w' : World) : Prop := w'.heap[c]? = some (.cells #[.int .i64 R.2] 3) ∧ (R.1 = true → 0 ≤ R.2) ∧ R.2 ≤ left - 1 ∧ Fr (· = c) w.heap.size w w'
/-- small's contract at trees of a size. -/
def SmallSpec (m : Nat) : Prop := ∀ (k : Int) (t a : Bs) (kids : List T) (A : Option Addr) (n cp : Nat), SizeOf.sizeOf kids < m →
  ∀ (c : Nat) (left deep : Int) (K : Nat → Prop) (w : World), 0 ≤ left → left ≤ 5000 → 0 ≤ deep → deep ≤ 81 → ¬ K c → w.heap[c]? = some (.cells #[.int .i64 left] 3) →
    See w K [.mk k t a kids] [.int .i64 k, St t, St a, .slice A n cp] →
    Calls Tryz.prog 25 #[.agg #[.int .i64 k, St t, St a, .slice A n cp], .int .i64 deep, .pointer (some ⟨c, 0, none⟩)] w fun e w' =>
      e = .returned (.bool (smallT (.mk k t a kids) deep left).1) ∧ SmallPost c (smallT (.mk k t a kids) deep left) left w w'
/-- What stands when the loop comes to kid i. -/
def SmallR (c : Nat) (kids : List T) (K : Nat → Prop) (k : Int) (t a : Bs) (A : Option Addr) (n cp : Nat) (deep : Int) (R : Bool × Int) (F : Nat) (top : Int) (w : World) (i : Nat) (wr : World) : Prop :=
  ∃ left, smallL (kids.drop i) (deep + 1) left = R ∧ 0 ≤ left ∧ left + i ≤ top ∧ wr.heap[c]? = some (.cells #[.int .i64 left] 3) ∧ wr.heap[F]? = some (.cells #[.int .i64 k, St t, St a, .slice A n cp] 24) ∧
    See wr K [.mk k t a kids] [.int .i64 k, St t, St a, .slice A n cp] ∧ Fr (· = c) F w wr

theorem sum_le {a b c : Int} {i : Nat} (h : a ≤ b - 1) (h2 : b + i ≤ c) : a + ((i + 1 : Nat) : Int) ≤ c := by omega
theorem less_le {a b c : Int} {i : Nat} (h : a ≤ b - 1) (h2 : b + i ≤ c) : a ≤ c := by omega
set_option maxHeartbeats 8000000 in
set_option maxRecDepth 100000 in
theorem small_step (m : Nat) (ih : SmallSpec m) : SmallSpec (m + 1) := by
  intro k t a kids A n cp hm c left deep K w hl0 hl1 hd0 hd1 hKc hc hrep
  obtain ⟨F, hF⟩ : ∃ F, w.heap.size = F := ⟨_, rfl⟩
  have hlt := blk_lt hc
  rw [hF] at hlt
  have hc0 : (w.alloc (.cells #[.int .i64 k, St t, St a, .slice A n cp] 24)).heap[c]? = some (.cells #[.int .i64 left] 3) := blk_alloc hc
  have c0 : (w.alloc (.cells #[.int .i64 k, St t, St a, .slice A n cp] 24)).cell? ⟨c, 0, none⟩ = some (.int .i64 left) := blk_cell hc0 0
  have f0 := blk_free hc0 0
  have hc1 : ((w.setCell ⟨c, 0, none⟩ (.int .i64 (left - 1))).alloc (.cells #[.int .i64 k, St t, St a, .slice A n cp] 24)).heap[c]? = some (.cells #[.int .i64 (left - 1)] 3) := blk_alloc (blk_set hc)
  have hz : (w.setCell ⟨c, 0, none⟩ (.int .i64 (left - 1))).heap.size = F := by rw [← hF]; simp [World.setCell]
  have hk1 : ((w.setCell ⟨c, 0, none⟩ (.int .i64 (left - 1))).alloc (.cells #[.int .i64 k, St t, St a, .slice A n cp] 24)).heap[F]? = some (.cells #[.int .i64 k, St t, St a, .slice A n cp] 24) := by
    have := blk_new (w.setCell ⟨c, 0, none⟩ (.int .i64 (left - 1))) (.cells #[.int .i64 k, St t, St a, .slice A n cp] 24)
    rwa [hz] at this
  have hfr1 : Fr (· = c) F w ((w.setCell ⟨c, 0, none⟩ (.int .i64 (left - 1))).alloc (.cells #[.int .i64 k, St t, St a, .slice A n cp] 24)) := by rw [← hF]; exact ((Fr.refl _ _ _).own _ _).alloc (by rw [hz, hF]; exact Nat.le_refl _) _
  have d0 : ((w.setCell ⟨c, 0, none⟩ (.int .i64 (left - 1))).alloc (.cells #[.int .i64 k, St t, St a, .slice A n cp] 24)).cell? ⟨c, 0, none⟩ = some (.int .i64 (left - 1)) := blk_cell hc1 0
  obtain ⟨p0, p1, p2, p3, q0, q1, q2, q3⟩ := cells4 hk1
  have hwl : wrap64 (left - 1) = left - 1 := by unfold wrap64; omega
  have hrep1 : See ((w.setCell ⟨c, 0, none⟩ (.int .i64 (left - 1))).alloc (.cells #[.int .i64 k, St t, St a, .slice A n cp] 24)) K [.mk k t a kids] [.int .i64 k, St t, St a, .slice A n cp] := by
    refine hrep.keep (fun b hb hK => ?_) fun _ _ h => h
    have hbc : b ≠ c := fun e => hKc (e ▸ hK)
    rw [Below.heap_alloc _ _ _ (by rw [hz]; omega), Below.heap_setCell _ _ _ _ (by simpa using hbc)]
  have HC := Lib.hid (And.intro hc1 (And.intro hk1 (And.intro hfr1 hrep1)))
  have hnk : n = kids.length := hrep.count
  have hcF : c ≠ F := by omega
  have HNK := Lib.hid hnk
  have HM := Lib.hid hm
  clear hrep hc1 hk1 hfr1 hrep1 hnk hm
  by_cases h1 : left - 1 < 0
  · have hR : Hid (smallT (.mk k t a kids) deep left = (false, left - 1)) := by show _ = _; rw [smallT_mk, if_pos (.inl h1)]
    rw [hR.out]
    clear hR
    go_enter Tryz.func25, Tryz.ntmps25
    go_wp2_with fail
    go_ret
    exact ⟨rfl, HC.out.1, fun h => (by cases h), Int.le_refl _, by rw [hF]; exact HC.out.2.2.1⟩
  by_cases h2 : 80 < deep
  · have hR : Hid (smallT (.mk k t a kids) deep left = (false, left - 1)) := by show _ = _; rw [smallT_mk, if_pos (.inr (.inl h2))]
    rw [hR.out]
    clear hR
    have h2' : deep > 80 := h2
    go_enter Tryz.func25, Tryz.ntmps25
    go_wp2_with fail
    go_ret
    exact ⟨rfl, HC.out.1, fun h => (by cases h), Int.le_refl _, by rw [hF]; exact HC.out.2.2.1⟩
  have h2' : ¬ (deep > 80) := h2
  by_cases h3 : 3000 < t.length
  · have hR : Hid (smallT (.mk k t a kids) deep left = (false, left - 1)) := by show _ = _; rw [smallT_mk, if_pos (.inr (.inr (.inl h3)))]
    rw [hR.out]
    clear hR
    have h3' : (t.length : Int) > 3000 := by omega
    go_enter Tryz.func25, Tryz.ntmps25
    go_wp2_with fail
    go_ret
    exact ⟨rfl, HC.out.1, fun h => (by cases h), Int.le_refl _, by rw [hF]; exact HC.out.2.2.1⟩
  have h3' : ¬ ((t.length : Int) > 3000) := by omega
  by_cases h4 : 3000 < a.length
  · have hR : Hid (smallT (.mk k t a kids) deep left = (false, left - 1)) := by show _ = _; rw [smallT_mk, if_pos (.inr (.inr (.inr h4)))]
    rw [hR.out]
    clear hR
    have h4' : (a.length : Int) > 3000 := by omega
    go_enter Tryz.func25, Tryz.ntmps25
    go_wp2_with fail
    go_ret
    exact ⟨rfl, HC.out.1, fun h => (by cases h), Int.le_refl _, by rw [hF]; exact HC.out.2.2.1⟩
  have h4' : ¬ ((a.length : Int) > 3000) := by omega
  obtain ⟨R, hRR⟩ : ∃ R, R = smallL kids (deep + 1) (left - 1) := ⟨_, rfl⟩
  have hR : smallT (.mk k t a kids) deep left = R := by
    rw [smallT_mk, hRR]
    refine if_neg ?_
    rintro (h | h | h | h)
    · exact h1 h
    · exact h2 h
    · exact h3 h
    · exact h4 h
  rw [hR]
  have HRR := Lib.hid hRR.symm
  have hl2 : 0 ≤ left - 1 := by omega
  have hd80 : deep + 1 ≤ 81 := by omega
  clear hRR hR h2 h3 h4
  go_enter Tryz.func25, Tryz.ntmps25
  go_wp2_with fail
  go_loopw [37] (fun v wr => ∃ i : Nat, v = .int .i64 i ∧ i ≤ n ∧ SmallR c kids K k t a A n cp deep R F (left - 1) w i wr) (fun v _ => n - (intOf v).toNat)
  case atStart => exact ⟨0, rfl, by omega, left - 1, HRR.out, hl2, by omega, HC.out.1, HC.out.2.1, HC.out.2.2.2, HC.out.2.2.1⟩
  case round =>
    obtain ⟨i, rfl, hin, lf, hRl, hlf0, hlf1, hcR, hkR, hrR, hfR⟩ := hrel
    by_cases hi : i < n
    · have hi' : (i : Int) < (n : Int) := by omega
      have hnk := HNK.out
      rcases hdr : kids.drop i with _ | ⟨⟨k', t', a', kids'⟩, rest⟩
      · have := congrArg List.length hdr
        rw [List.length_drop] at this
        simp at this
        omega
      have hmem : T.mk k' t' a' kids' ∈ kids := List.mem_of_mem_drop (by rw [hdr]; exact List.mem_cons_self)
      have hsz := List.sizeOf_lt_of_mem hmem
      have hsz2 : SizeOf.sizeOf kids' < SizeOf.sizeOf (T.mk k' t' a' kids') := by simp; omega
      obtain ⟨b, o, A', n', cp', rfl, hcells, hrE⟩ := hrR.elem i hdr
      have q0' : wr.cell? ⟨b, o + i * 4, none⟩ = some (.int .i64 k') := hcells 0 (by decide)
      have q1' : wr.cell? ⟨b, o + i * 4 + 1, none⟩ = some (St t') := hcells 1 (by decide)
      have q2' : wr.cell? ⟨b, o + i * 4 + 2, none⟩ = some (St a') := hcells 2 (by decide)
      have q3' : wr.cell? ⟨b, o + i * 4 + 3, none⟩ = some (.slice A' n' cp') := hcells 3 (by decide)
      obtain ⟨J, hJ⟩ : ∃ J, wr.heap.size = J := ⟨_, rfl⟩
      have hkA : (wr.alloc (.cells #[.int .i64 k', St t', St a', .slice A' n' cp'] 24)).heap[F]? = some (.cells #[.int .i64 k, St t, St a, .slice (some ⟨b, o, none⟩) n cp] 24) := blk_alloc hkR
      have hjA : (wr.alloc (.cells #[.int .i64 k', St t', St a', .slice A' n' cp'] 24)).heap[J]? = some (.cells #[.int .i64 k', St t', St a', .slice A' n' cp'] 24) := by rw [← hJ]; exact blk_new _ _
      have hcA : (wr.alloc (.cells #[.int .i64 k', St t', St a', .slice A' n' cp'] 24)).heap[c]? = some (.cells #[.int .i64 lf] 3) := blk_alloc hcR
      have hbA : Below wr.heap.size wr (wr.alloc (.cells #[.int .i64 k', St t', St a', .slice A' n' cp'] 24)) := (Below.refl _ _).alloc (Nat.le_refl _) _
      have hrA := hrR.under hbA
      have hrEA := hrE.under hbA
      have hfA : Fr (· = c) F w (wr.alloc (.cells #[.int .i64 k', St t', St a', .slice A' n' cp'] 24)) := hfR.below hbA (by have := blk_lt hkR; omega)
      clear p0 p1 p2 p3 q0 q1 q2 q3
      obtain ⟨p0, p1, p2, p3, q0, q1, q2, q3⟩ := cells4 hkA
      obtain ⟨r0, r1, r2, r3, s0, s1, s2, s3⟩ := cells4 hjA
      have HWI : Hid (IntKind.i64.wrap ((i : Int) + 1) = (i : Int) + 1 ∧ wrap64 ((i : Int) + 1) = (i : Int) + 1) := ⟨wrapK_le (by omega) (by omega), wrap6_le (by omega) (by omega)⟩
      have hdw : IntKind.i64.wrap (deep + 1) = deep + 1 := wrapK_le (by omega) (Int.le_trans hd80 (by decide))
      have hdw2 : wrap64 (deep + 1) = deep + 1 := wrap6_le (by omega) (Int.le_trans hd80 (by decide))
      have hIh := ih k' t' a' kids' A' n' cp' (by have := HM.out; omega) c lf (deep + 1) K _ hlf0 (by omega) (by omega) hd80 hKc hcA hrEA
      have hT1 := smallL_cons (.mk k' t' a' kids') rest (deep + 1) lf
      rw [← hdr, hRl] at hT1
      have hcF' : F ≠ c := by omega
      have hrest : kids.drop (i + 1) = rest := by rw [← List.drop_drop, hdr]; rfl
      generalize smallT (.mk k' t' a' kids') (deep + 1) lf = R1 at hIh hT1
      obtain ⟨R1b, R1l⟩ := R1
      have HA := Lib.hid (And.intro hcA (And.intro hkA (And.intro hrA hfA)))
      have HT1 := Lib.hid hT1
      have HRE := Lib.hid hrest
      have HLF := Lib.hid hlf1
      clear hcells hrE hrR hfR hcR hkR hjA hcA hbA hrA hrEA hfA hkA hT1 hRl hmem hsz hsz2 hdr hrest hnk hlf1
      go_wp2_with fail
      refine hIh.mono ?_
      rintro e w5 ⟨rfl, hc5, hp5, hl5, f5⟩
      have hk5 := blk_fr HA.out.2.1 f5 (blk_lt HA.out.2.1) hcF'
      have hr5 := HA.out.2.2.1.keep (fun b hb hK => f5.block b hb (fun e => hKc (e ▸ hK))) (fun _ _ h => h)
      have f5' := HA.out.2.2.2.call f5 (by have := blk_lt HA.out.2.1; omega) (fun _ _ h => h)
      have hT1 := HT1.out
      simp only [] at hc5 hp5 hl5
      have H5 := Lib.hid (And.intro hc5 (And.intro hp5 (And.intro hl5 (And.intro hk5 (And.intro hr5 f5')))))
      clear hc5 hp5 hl5 hk5 hr5 f5' f5
      cases R1b with
      | true =>
        rw [if_pos rfl] at hT1
        have HT2 := Lib.hid hT1
        have HL5 := Lib.hid (H5.out.2.1 rfl)
        have hwi := HWI.out.1
        have hwi2 := HWI.out.2
        clear hT1
        go_wp2_with fail
        exact ⟨⟨i + 1, rfl, hi, R1l, by rw [HRE.out]; exact HT2.out.symm, HL5.out, sum_le H5.out.2.2.1 HLF.out, H5.out.1, H5.out.2.2.2.1, H5.out.2.2.2.2.1, H5.out.2.2.2.2.2⟩, round_less hi⟩
      | false =>
        rw [if_neg (by decide)] at hT1
        subst hT1
        go_wp2_with fail
        go_ret
        exact ⟨rfl, H5.out.1, fun h => (by cases h), less_le H5.out.2.2.1 HLF.out, by rw [hF]; exact H5.out.2.2.2.2.2⟩
    · have hi' : ¬ ((i : Int) < (n : Int)) := by omega
      obtain rfl : i = n := by omega
      have hdn : kids.drop i = [] := List.drop_of_length_le (by have := HNK.out; omega)
      rw [hdn, smallL_nil] at hRl
      subst hRl
      have HX := Lib.hid (And.intro hcR hfR)
      clear hrR hfR hcR hkR
      go_wp2_with fail
      go_ret
      exact ⟨rfl, HX.out.1, fun _ => hlf0, by omega, by rw [hF]; exact HX.out.2⟩
theorem small_spec : ∀ m, SmallSpec m
  | 0 => fun _ _ _ _ _ _ _ h => absurd h (Nat.not_lt_zero _)
  | m + 1 => small_step m (small_spec m)
end Go.Proofs.YtbmonfcahhhdeaaGreatDoor
