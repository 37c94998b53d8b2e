/- The walk of the reader's scalar. The walk of the reader's scalar, whole. -/
import Derived.Test.YtbmonfcahhhdeaaGreatDoorFRd7
set_option linter.unusedVariables false
set_option linter.unusedSimpArgs false
namespace Go.Proofs.YtbmonfcahhhdeaaGreatDoor
open Go.RowKit

set_option maxHeartbeats 4000000 in
theorem frd_scalar_plain (g : Nat) (r : FRd) (f : Bool) (G : Nat) (w : World) (he : Env G w) (hGg : G ≤ g) (h : r.At w g) (ok : r.Ok) (hw : r.well = true) (hn : r.next [39, 34] = false) :
    Calls Tryz.prog 60 #[.pointer (some ⟨g, 0, none⟩), .bool f] w fun e w' => e = .returned (.tuple #[St (r.scalar f).1, .bool (r.scalar f).2.1]) ∧ (r.scalar f).2.2.At w' g ∧ Fr (· = g) w.heap.size w w' := by
  have hlt := blk_lt h
  have hW := frd_well g r w h
  have hN := frd_next g r [39, 34] w h
  rw [hw] at hW
  rw [hn] at hN
  have hlen : r.s.length ≤ 140737488355328 := by have := ok.len; have := ok.hi; omega
  have hC := plain_Cut r.s f hlen w
  have hpl := pcut_le r.s f
  have hI := fun w' he' => plain_Is (pcut r.s f) f (by omega) G w' he'
  obtain ⟨c0, c1, c2, c3, f0, f1, f2, f3⟩ := h.parts
  have hdrop := fun w' => slice_drop r.s (pcut r.s f).length hpl w'
  by_cases ht : pcut r.s f = []
  · have hR : Hid (r.scalar f = ([], false, r.dropS 0)) := by show _ = _; unfold FRd.scalar; rw [if_pos hw, if_neg (by simp [hn]), ht]; simp
    have HSET : Hid (∀ w' : World, r.At w' g → (r.dropS 0).At (w'.setCell ⟨g, 1, none⟩ (St (r.s.drop 0))) g) := fun w' h' => h'.set1 _
    rw [hR.out]
    rw [ht] at hC hdrop
    have hAb : ∀ w5, Below w.heap.size w w5 → r.At w5 g := fun w5 hb => blk_below h hb hlt
    clear hR ht hI hpl hn hw h he ok hlen
    generalize r.dropS 0 = r2 at HSET ⊢
    obtain ⟨whole, s, why, at_⟩ := r
    simp only [] at c0 c1 c2 c3 hC hdrop
    generalize (pend s f : Nat) = pe at hC
    go_enter Tryz.func60, Tryz.ntmps60
    go_wp2_with fail
    refine hW.mono ?_
    rintro e w1 ⟨rfl, rfl⟩
    go_wp2_with fail
    refine hN.mono ?_
    rintro e w1 ⟨rfl, rfl⟩
    go_wp2_with fail
    refine hC.mono ?_
    rintro e w2 ⟨rfl, hb2⟩
    obtain ⟨d0, d1, d2, d3, k0, k1, k2, k3⟩ := (hAb _ hb2).parts
    simp only [] at d0 d1 d2 d3
    have HA := Lib.hid (hAb _ hb2)
    go_wp2_with fail
    go_ret2
    exact ⟨rfl, HSET.out _ HA.out, (below_fr' hb2).own _ _⟩
  · have htB : (pcut r.s f).isEmpty = false := by cases hx : pcut r.s f with
      | nil => exact absurd hx ht
      | cons a b => rfl
    obtain ⟨tb, tt, htt⟩ := List.exists_cons_of_ne_nil ht
    have hAb : ∀ w5, Below w.heap.size w w5 → r.At w5 g := fun w5 hb => blk_below h hb hlt
    have HE := Lib.hid he
    cases hp : pis (pcut r.s f) f with
    | true =>
      have hR : Hid (r.scalar f = (pcut r.s f, false, r.dropS (pcut r.s f).length)) := by show _ = _; unfold FRd.scalar; rw [if_pos hw, if_neg (by simp [hn])]; simp [hp]
      have HSET : Hid (∀ w' : World, r.At w' g → (r.dropS (pcut r.s f).length).At (w'.setCell ⟨g, 1, none⟩ (St (r.s.drop (pcut r.s f).length))) g) := fun w' h' => h'.set1 _
      rw [hR.out]
      rw [hp] at hI
      rw [htt] at hI hC hdrop HSET ⊢
      have hdr : ∀ w', (Instr.slice 9 (St r.s) (some (.int .i64 ((tt.length : Int) + 1))) none none).run Tryz.prog w' = .ok (St (r.s.drop (tb :: tt).length)) w' := hdrop
      clear hR ht htB htt hpl hp hn hw h he ok hlen hdrop
      generalize r.s.drop (tb :: tt).length = D at hdr HSET
      generalize r.dropS (tb :: tt).length = r2 at HSET ⊢
      obtain ⟨whole, s, why, at_⟩ := r
      simp only [] at c0 c1 c2 c3 hC hdr
      generalize (pend s f : Nat) = pe at hC
      go_enter Tryz.func60, Tryz.ntmps60
      go_wp2_with fail
      refine hW.mono ?_
      rintro e w1 ⟨rfl, rfl⟩
      go_wp2_with fail
      refine hN.mono ?_
      rintro e w1 ⟨rfl, rfl⟩
      go_wp2_with fail
      refine hC.mono ?_
      rintro e w2 ⟨rfl, hb2⟩
      go_wp2_with fail
      refine (hI _ (HE.out.own hb2)).mono ?_
      rintro e w3 ⟨rfl, hb3⟩
      have hb4 := below_step hb2 hb3
      obtain ⟨d0, d1, d2, d3, k0, k1, k2, k3⟩ := (hAb _ hb4).parts
      simp only [] at d0 d1 d2 d3
      have HA := Lib.hid (hAb _ hb4)
      go_wp2_with fail
      go_ret2
      exact ⟨rfl, HSET.out _ HA.out, (below_fr' hb4).own _ _⟩
    | false =>
      have hR : Hid (r.scalar f = (pcut r.s f, false, r.stray.dropS (pcut r.s f).length)) := by show _ = _; unfold FRd.scalar; rw [if_pos hw, if_neg (by simp [hn])]; simp [hp, ht]
      have HSET : Hid (∀ w' : World, r.stray.At w' g → (r.stray.dropS (pcut r.s f).length).At (w'.setCell ⟨g, 1, none⟩ (St (r.s.drop (pcut r.s f).length))) g) := fun w' h' => by
        have := FRd.At.set1 h' (r.stray.s.drop (pcut r.s f).length)
        rw [FRd.stray_s] at this
        unfold FRd.dropS
        rw [FRd.stray_s]
        exact this
      have hStr := fun w' h' => frd_stray g r w' h' ok
      have hs3 : ∀ w' : World, r.stray.At w' g → w'.cell? ⟨g, 1, none⟩ = some (St r.s) ∧ w'.frozen? ⟨g, 1, none⟩ = false := fun w' h' => by
        obtain ⟨d0, d1, d2, d3, k0, k1, k2, k3⟩ := h'.parts
        rw [FRd.stray_s] at d1
        exact ⟨d1, k1⟩
      rw [hR.out]
      rw [hp] at hI
      rw [htt] at hI hC hdrop HSET ⊢
      have hdr : ∀ w', (Instr.slice 9 (St r.s) (some (.int .i64 ((tt.length : Int) + 1))) none none).run Tryz.prog w' = .ok (St (r.s.drop (tb :: tt).length)) w' := hdrop
      clear hR ht htB htt hpl hp hn hw h he ok hlen hdrop
      generalize r.s.drop (tb :: tt).length = D at hdr HSET
      generalize r.stray.dropS (tb :: tt).length = r2 at HSET ⊢
      generalize r.stray = r3 at hStr hs3 HSET
      obtain ⟨whole, s, why, at_⟩ := r
      simp only [] at c0 c1 c2 c3 hC hdr hs3
      generalize (pend s f : Nat) = pe at hC
      go_enter Tryz.func60, Tryz.ntmps60
      go_wp2_with fail
      refine hW.mono ?_
      rintro e w1 ⟨rfl, rfl⟩
      go_wp2_with fail
      refine hN.mono ?_
      rintro e w1 ⟨rfl, rfl⟩
      go_wp2_with fail
      refine hC.mono ?_
      rintro e w2 ⟨rfl, hb2⟩
      go_wp2_with fail
      refine (hI _ (HE.out.own hb2)).mono ?_
      rintro e w3 ⟨rfl, hb3⟩
      have hb4 := below_step hb2 hb3
      go_wp2_with fail
      refine (hStr _ (hAb _ hb4)).mono ?_
      rintro e w4 ⟨rfl, h4, fr4⟩
      obtain ⟨d1, k1⟩ := hs3 _ h4
      have HA := Lib.hid h4
      clear h4
      go_wp2_with fail
      go_ret2
      exact ⟨rfl, HSET.out _ HA.out, ((below_fr' hb4).call fr4 hb4.size (fun _ _ h => h)).own _ _⟩
end Go.Proofs.YtbmonfcahhhdeaaGreatDoor

namespace Go.Proofs.YtbmonfcahhhdeaaGreatDoor
open Go.RowKit

set_option maxHeartbeats 4000000 in
theorem frd_scalar (g : Nat) (r : FRd) (f : Bool) (G : Nat) (w : World) (he : Env G w) (hGg : G ≤ g) (h : r.At w g) (ok : r.Ok) (hsz : r.whole < 4294967296) :
    Calls Tryz.prog 60 #[.pointer (some ⟨g, 0, none⟩), .bool f] w fun e w' => e = .returned (.tuple #[St (r.scalar f).1, .bool (r.scalar f).2.1]) ∧ (r.scalar f).2.2.At w' g ∧ Fr (· = g) w.heap.size w w' := by
  have hlt := blk_lt h
  cases hw : r.well with
  | false =>
    have hW := frd_well g r w h
    have hR : r.scalar f = ([], false, r) := by unfold FRd.scalar; rw [if_neg (by simp [hw])]
    rw [hR]
    rw [hw] at hW
    clear hR hw
    go_enter Tryz.func60, Tryz.ntmps60
    go_wp2_with fail
    refine hW.mono ?_
    rintro e w1 ⟨rfl, rfl⟩
    go_wp2_with fail
    go_ret2
    exact ⟨rfl, h, Fr.refl _ _ _⟩
  | true =>
    cases hn : r.next [39, 34] with
    | false => exact frd_scalar_plain g r f G w he hGg h ok hw hn
    | true =>
      have hW := frd_well g r w h
      have hN := frd_next g r [39, 34] w h
      have hR : Hid (r.scalar f = ((qread r.s).1, true, (r.wrongAs (qread r.s).2.2.1 (qread r.s).2.2.2).dropS (qread r.s).2.1.toNat)) := by show _ = _; unfold FRd.scalar; rw [if_pos hw, if_pos hn]
      rw [hw] at hW
      rw [hn] at hN
      have hbd := qread_bounds r.s
      have o1 := ok.len
      have hQ := quote_Read r.s (by omega) G w he
      rw [hR.out]
      clear hR hw hn
      obtain ⟨q, hq⟩ : ∃ q, qread r.s = q := ⟨_, rfl⟩
      rw [hq] at hQ hbd ⊢
      obtain ⟨t, n, y, a⟩ := q
      simp only [] at hQ hbd ⊢
      have hAs := fun w' h' => frd_wrongAs g r y a hbd.2.2.1 (by omega) w' h' ok
      obtain ⟨m, rfl⟩ : ∃ m : Nat, n = m := ⟨n.toNat, by omega⟩
      have hdrop := fun w' => slice_drop r.s m (by omega) w'
      have HSET : Hid (∀ w' : World, (r.wrongAs y a).At w' g → ((r.wrongAs y a).dropS m).At (w'.setCell ⟨g, 1, none⟩ (St (r.s.drop m))) g) := fun w' h' => by
        have := FRd.At.set1 h' ((r.wrongAs y a).s.drop m)
        rw [FRd.wrongAs_s] at this
        unfold FRd.dropS
        rw [FRd.wrongAs_s]
        exact this
      have hs3 : ∀ w' : World, (r.wrongAs y a).At w' g → w'.cell? ⟨g, 1, none⟩ = some (St r.s) ∧ w'.frozen? ⟨g, 1, none⟩ = false := fun w' h' => by
        obtain ⟨d0, d1, d2, d3, k0, k1, k2, k3⟩ := h'.parts
        rw [FRd.wrongAs_s] at d1
        exact ⟨d1, k1⟩
      have hAb : ∀ w5, Below w.heap.size w w5 → r.At w5 g := fun w5 hb => blk_below h hb hlt
      obtain ⟨c0, c1, c2, c3, f0, f1, f2, f3⟩ := h.parts
      rw [Int.toNat_natCast]
      clear hq hbd o1 h ok he hsz
      generalize r.s.drop m = D at hdrop HSET
      generalize (r.wrongAs y a).dropS m = r2 at HSET ⊢
      generalize r.wrongAs y a = r3 at hAs hs3 HSET
      obtain ⟨whole, s, why, at_⟩ := r
      simp only [] at c0 c1 c2 c3 hQ hdrop hs3
      go_enter Tryz.func60, Tryz.ntmps60
      go_wp2_with fail
      refine hW.mono ?_
      rintro e w1 ⟨rfl, rfl⟩
      go_wp2_with fail
      refine hN.mono ?_
      rintro e w1 ⟨rfl, rfl⟩
      go_wp2_with fail
      refine hQ.mono ?_
      rintro e w2 ⟨rfl, hb2⟩
      go_wp2_with fail
      have hb3 : Below w1.heap.size w1 (w2.alloc (.cells #[.int .i64 y, .int .i64 a] 31)) := hb2.alloc hb2.size _
      refine (hAs _ (hAb _ hb3)).mono ?_
      rintro e w4 ⟨rfl, h4, fr4⟩
      obtain ⟨d1, k1⟩ := hs3 _ h4
      have HA := Lib.hid (And.intro h4 (And.intro hb3 fr4))
      clear h4 hb3 fr4
      go_wp2_with fail
      go_ret2
      obtain ⟨h4, hb3, fr4⟩ := HA.out
      exact ⟨rfl, HSET.out _ h4, ((below_fr' hb3).call fr4 hb3.size (fun _ _ h => h)).own _ _⟩
end Go.Proofs.YtbmonfcahhhdeaaGreatDoor
