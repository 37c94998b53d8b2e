/- The walk of quote.one. The walk of quote.one, whole. -/
import Derived.Test.YtfddjbojpgnfoaaGreatDoorQuote6
set_option linter.unusedVariables false
set_option linter.unusedSimpArgs false
namespace Go.Proofs.YtfddjbojpgnfoaaGreatDoor
open Go.RowKit

theorem qescHex_sign (many : Nat) (t : Bs) (h : (qescHex many t).2.2 = 0) : sign (qescHex many t).1 = true := by
  unfold qescHex at h ⊢
  split
  · simp_all
  split
  · simp_all
  split
  · assumption
  · simp_all
theorem qescape_sign (l : Bs) (h : (qescape l).2.2 = 0) : sign (qescape l).1 = true := by
  unfold qescape at h ⊢
  split at h
  · rename_i c t
    by_cases h1 : c = 34 ∨ c = 92
    · rw [if_pos h1]; rcases h1 with rfl | rfl <;> decide
    rw [if_neg h1] at h ⊢
    by_cases h2 : c = 110
    · rw [if_pos h2]; decide
    rw [if_neg h2] at h ⊢
    by_cases h3 : c = 116
    · rw [if_pos h3]; decide
    rw [if_neg h3] at h ⊢
    by_cases h4 : c = 114
    · rw [if_pos h4]; decide
    rw [if_neg h4] at h ⊢
    by_cases h5 : c = 48
    · rw [if_pos h5]; decide
    rw [if_neg h5] at h ⊢
    by_cases h6 : c = 120
    · rw [if_pos h6] at h ⊢; exact qescHex_sign _ _ h
    rw [if_neg h6] at h ⊢
    by_cases h7 : c = 117
    · rw [if_pos h7] at h ⊢; exact qescHex_sign _ _ h
    rw [if_neg h7] at h ⊢
    by_cases h8 : c = 85
    · rw [if_pos h8] at h ⊢; exact qescHex_sign _ _ h
    rw [if_neg h8] at h
    simp at h
  · simp at h
/-- quote.one. -/
def qone (q : UInt8) : Bs → Bs × Int × Int
  | [] => ([], 0, 0)
  | b :: t =>
    if b = q then (if q = 39 ∧ t.head? = some 39 then ([39], 2, 0) else ([], 0, 0))
    else if q = 34 ∧ b = 92 then (if (qescape (b :: t)).2.2 = 0 then (runeBs (qescape (b :: t)).1, (qescape (b :: t)).2.1, 0) else ([], 0, (qescape (b :: t)).2.2))
    else if qmay (utf1 (b :: t)).1 then ((b :: t).take (utf1 (b :: t)).2, (utf1 (b :: t)).2, 0) else ([], 0, 8)

set_option maxHeartbeats 8000000 in
set_option maxRecDepth 100000 in
/-- The last way: a sign as it stands. -/
theorem one_plain (b q : UInt8) (t : Bs) (hq : q = 39 ∨ q = 34 ∧ b ≠ 92) (hbq : b ≠ q) (G : Nat) (w : World) (he : Env G w) :
    Calls Tryz.prog 71 #[St (b :: t), .int .u8 q.toNat] w fun e w' => e = .returned (.tuple #[St (qone q (b :: t)).1, .int .i64 (qone q (b :: t)).2.1, .int .i64 (qone q (b :: t)).2.2]) ∧ Below w.heap.size w w' := by
  have hF := utf_First (b :: t) G w he
  have hM := quote_may (utf1 (b :: t)).1
  have hbd := utf1_bounds (b :: t)
  have hnq : ¬ (q = 34 ∧ b = 92) := by rcases hq with rfl | ⟨rfl, h⟩ <;> simp_all
  by_cases hm : qmay (utf1 (b :: t)).1 = true
  · have hR : Hid (qone q (b :: t) = ((b :: t).take (utf1 (b :: t)).2, ((utf1 (b :: t)).2 : Int), 0)) := by show (if b = q then _ else _) = _; rw [if_neg hbq, if_neg hnq, if_pos hm]
    have hsl : ∀ w', (Instr.slice 9 (St (b :: t)) none (some (.int .i64 (utf1 (b :: t)).2)) none).run Tryz.prog w' = .ok (St ((b :: t).take (utf1 (b :: t)).2)) w' := fun w' => by
      rw [run_slice_string_h w' 9 _ Tryz.underlying9 .i64 _ (by omega) (by have := hbd.2.2.1; show ((utf1 (b :: t)).2 : Int) ≤ ((b :: t).length : Int); omega), extract_begin]
      rfl
    rw [hm] at hM
    rw [hR.out]
    clear hR hm hbd hnq
    generalize (b :: t).take (utf1 (b :: t)).2 = X at hsl ⊢
    generalize utf1 (b :: t) = u at hF hM hsl ⊢
    obtain ⟨r, n⟩ := u
    have HE := Lib.hid he
    clear he
    rcases hq with rfl | ⟨rfl, h92⟩
    · have hbe : ((b.toNat : Int) == 39) = false := ne_u8 (n := 39) (by decide) hbq
      clear hbq
      go_enter Tryz.func71, Tryz.ntmps71
      go_wp2_with fail
      refine hF.mono ?_
      rintro e w1 ⟨rfl, hb⟩
      go_wp2_with fail
      refine (hM _).mono ?_
      rintro e w1 ⟨rfl, rfl⟩
      go_wp2_with fail
      go_ret3
      exact ⟨rfl, hb⟩
    · have h9 : ((b.toNat : Int) == 92) = false := ne_u8 (n := 92) (by decide) h92
      have hbe : ((b.toNat : Int) == 34) = false := ne_u8 (n := 34) (by decide) hbq
      clear h92 hbq
      go_enter Tryz.func71, Tryz.ntmps71
      go_wp2_with fail
      refine hF.mono ?_
      rintro e w1 ⟨rfl, hb⟩
      go_wp2_with fail
      refine (hM _).mono ?_
      rintro e w1 ⟨rfl, rfl⟩
      go_wp2_with fail
      go_ret3
      exact ⟨rfl, hb⟩
  · have hmf : qmay (utf1 (b :: t)).1 = false := by simpa using hm
    have hR : Hid (qone q (b :: t) = ([], 0, 8)) := by show (if b = q then _ else _) = _; rw [if_neg hbq, if_neg hnq, if_neg hm]
    rw [hmf] at hM
    rw [hR.out]
    clear hR hm hmf hbd hnq
    generalize utf1 (b :: t) = u at hF hM ⊢
    obtain ⟨r, n⟩ := u
    have HE := Lib.hid he
    clear he
    rcases hq with rfl | ⟨rfl, h92⟩
    · have hbe : ((b.toNat : Int) == 39) = false := ne_u8 (n := 39) (by decide) hbq
      clear hbq
      go_enter Tryz.func71, Tryz.ntmps71
      go_wp2_with fail
      refine hF.mono ?_
      rintro e w1 ⟨rfl, hb⟩
      go_wp2_with fail
      refine (hM _).mono ?_
      rintro e w1 ⟨rfl, rfl⟩
      go_wp2_with fail
      go_ret3
      exact ⟨rfl, hb⟩
    · have h9 : ((b.toNat : Int) == 92) = false := ne_u8 (n := 92) (by decide) h92
      have hbe : ((b.toNat : Int) == 34) = false := ne_u8 (n := 34) (by decide) hbq
      clear h92 hbq
      go_enter Tryz.func71, Tryz.ntmps71
      go_wp2_with fail
      refine hF.mono ?_
      rintro e w1 ⟨rfl, hb⟩
      go_wp2_with fail
      refine (hM _).mono ?_
      rintro e w1 ⟨rfl, rfl⟩
      go_wp2_with fail
      go_ret3
      exact ⟨rfl, hb⟩
end Go.Proofs.YtfddjbojpgnfoaaGreatDoor

namespace Go.Proofs.YtfddjbojpgnfoaaGreatDoor
open Go.RowKit

theorem qone_esc (t : Bs) : qone 34 (92 :: t) = if (qescape (92 :: t)).2.2 = 0 then (runeBs (qescape (92 :: t)).1, (qescape (92 :: t)).2.1, 0) else ([], 0, (qescape (92 :: t)).2.2) := by
  simp only [qone]
  rw [if_neg (by decide), if_pos (by decide)]
set_option maxHeartbeats 8000000 in
set_option maxRecDepth 100000 in
theorem quote_one (b q : UInt8) (t : Bs) (hq : q = 39 ∨ q = 34) (hl : t.length < 4294967296) (G : Nat) (w : World) (he : Env G w) :
    Calls Tryz.prog 71 #[St (b :: t), .int .u8 q.toNat] w fun e w' => e = .returned (.tuple #[St (qone q (b :: t)).1, .int .i64 (qone q (b :: t)).2.1, .int .i64 (qone q (b :: t)).2.2]) ∧ Below w.heap.size w w' := by
  have HE := Lib.hid he
  by_cases hbq : b = q
  · clear hl he
    rcases hq with rfl | rfl
    · subst hbq
      rcases t with _ | ⟨c, t⟩
      · go_enter Tryz.func71, Tryz.ntmps71; go_wp2_with fail; go_ret3; exact ⟨rfl, Below.refl _ _⟩
      · have hg : ∀ h, (⟨(39 :: c :: t).toArray⟩ : ByteArray)[1]'h = c := fun h => bs_get (39 :: c :: t) 1 (by simp) h
        have hl1 : (1 : Int) < (t.length : Int) + 1 + 1 := by omega
        by_cases hc : c = 39
        · subst hc
          go_enter Tryz.func71, Tryz.ntmps71; go_wp2_with fail; go_ret3; exact ⟨rfl, Below.refl _ _⟩
        · have e1 : ((c.toNat : Int) == 39) = false := ne_u8 (n := 39) (by decide) hc
          have hR : Hid (qone 39 (39 :: c :: t) = ([], 0, 0)) := by show (if _ then _ else _) = _; simp [hc]
          rw [hR.out]
          clear hc hR
          go_enter Tryz.func71, Tryz.ntmps71; go_wp2_with fail; go_ret3; exact ⟨rfl, Below.refl _ _⟩
    · subst hbq
      go_enter Tryz.func71, Tryz.ntmps71; go_wp2_with fail; go_ret3; exact ⟨rfl, Below.refl _ _⟩
  by_cases h2 : q = 34 ∧ b = 92
  · obtain ⟨rfl, rfl⟩ := h2
    have hE := quote_escape (92 :: t) (by simp; omega)
    by_cases hz : (qescape (92 :: t)).2.2 = 0
    · have hN := fun g w' hc => utf_Encode_ok (qescape (92 :: t)).1 g w' hc (qescape_sign _ hz)
      have hR : Hid (qone 34 (92 :: t) = (runeBs (qescape (92 :: t)).1, (qescape (92 :: t)).2.1, 0)) := by
        show _ = _
        rw [qone_esc, if_pos hz]
      rw [hR.out]
      rw [hz] at hE
      clear hR hz hbq hq hl he
      generalize runeBs (qescape (92 :: t)).1 = X at hN ⊢
      generalize (qescape (92 :: t)).2.1 = n at hE ⊢
      generalize (qescape (92 :: t)).1 = r at hE hN
      go_enter Tryz.func71, Tryz.ntmps71
      go_wp2_with fail
      refine (hE _).mono ?_
      rintro e w1 ⟨rfl, hb1⟩
      go_wp2_with fail
      refine (hN _ _ (by exact blk_cell (blk_new _ _) 0)).mono ?_
      rintro e w2 ⟨rfl, hb2⟩
      go_wp2_with fail
      go_ret3
      exact ⟨rfl, below_step hb1 (below_step ((Below.refl _ _).alloc (Nat.le_refl _) _) hb2)⟩
    · have hR : Hid (qone 34 (92 :: t) = ([], 0, (qescape (92 :: t)).2.2)) := by
        show _ = _
        rw [qone_esc, if_neg hz]
      have hzB : ((qescape (92 :: t)).2.2 != 0) = true := by simpa using hz
      rw [hR.out]
      clear hR hz hbq hq hl he
      generalize (qescape (92 :: t)).2.2 = z at hE hzB ⊢
      generalize (qescape (92 :: t)).2.1 = n at hE ⊢
      generalize (qescape (92 :: t)).1 = r at hE
      go_enter Tryz.func71, Tryz.ntmps71
      go_wp2_with fail
      refine (hE _).mono ?_
      rintro e w1 ⟨rfl, hb1⟩
      go_wp2_with fail
      go_ret3
      exact ⟨rfl, hb1⟩
  · exact one_plain b q t (by rcases hq with rfl | rfl <;> simp_all) hbq G w he
end Go.Proofs.YtfddjbojpgnfoaaGreatDoor
