/- The walk of quote.one. The walk of quote.one, whole. The walk of quote.Read. -/
import Derived.Test.YtbmonfcahhhdeaaGreatDoorQuote6
import Derived.Deep.RegionWith
set_option linter.unusedVariables false
set_option linter.unusedSimpArgs false
namespace Go.Proofs.YtbmonfcahhhdeaaGreatDoor
open Go.RowKit

theorem qescHex_sign (many : Nat) (t : Bs) (h : (qescHex many t).2.2 = 0) : sign (qescHex many t).1 = true := by
  unfold qescHex at h ⊢
  split
  · simp_all
  split
  · simp_all
  split
  · assumption
  · simp_all
theorem qescape_sign (l : Bs) (h : (qescape l).2.2 = 0) : sign (qescape l).1 = true := by
  unfold qescape at h ⊢
  split at h
  · rename_i c t
    by_cases h1 : c = 34 ∨ c = 92
    · rw [if_pos h1]; rcases h1 with rfl | rfl <;> decide
    rw [if_neg h1] at h ⊢
    by_cases h2 : c = 110
    · rw [if_pos h2]; decide
    rw [if_neg h2] at h ⊢
    by_cases h3 : c = 116
    · rw [if_pos h3]; decide
    rw [if_neg h3] at h ⊢
    by_cases h4 : c = 114
    · rw [if_pos h4]; decide
    rw [if_neg h4] at h ⊢
    by_cases h5 : c = 48
    · rw [if_pos h5]; decide
    rw [if_neg h5] at h ⊢
    by_cases h6 : c = 120
    · rw [if_pos h6] at h ⊢; exact qescHex_sign _ _ h
    rw [if_neg h6] at h ⊢
    by_cases h7 : c = 117
    · rw [if_pos h7] at h ⊢; exact qescHex_sign _ _ h
    rw [if_neg h7] at h ⊢
    by_cases h8 : c = 85
    · rw [if_pos h8] at h ⊢; exact qescHex_sign _ _ h
    rw [if_neg h8] at h
    simp at h
  · simp at h
/-- quote.one. -/
def qone (q : UInt8) : Bs → Bs × Int × Int
  | [] => ([], 0, 0)
  | b :: t =>
    if b = q then (if q = 39 ∧ t.head? = some 39 then ([39], 2, 0) else ([], 0, 0))
    else if q = 34 ∧ b = 92 then (if (qescape (b :: t)).2.2 = 0 then (runeBs (qescape (b :: t)).1, (qescape (b :: t)).2.1, 0) else ([], 0, (qescape (b :: t)).2.2))
    else if qmay (utf1 (b :: t)).1 then ((b :: t).take (utf1 (b :: t)).2, (utf1 (b :: t)).2, 0) else ([], 0, 8)

set_option maxHeartbeats 8000000 in
set_option maxRecDepth 100000 in
/-- The last way: a sign as it stands. -/
theorem one_plain (b q : UInt8) (t : Bs) (hq : q = 39 ∨ q = 34 ∧ b ≠ 92) (hbq : b ≠ q) (G : Nat) (w : World) (he : Env G w) :
    Calls Tryz.prog 135 #[St (b :: t), .int .u8 q.toNat] w fun e w' => e = .returned (.tuple #[St (qone q (b :: t)).1, .int .i64 (qone q (b :: t)).2.1, .int .i64 (qone q (b :: t)).2.2]) ∧ Below w.heap.size w w' := by
  have hF := utf_First (b :: t) G w he
  have hM := quote_may (utf1 (b :: t)).1
  have hbd := utf1_bounds (b :: t)
  have hnq : ¬ (q = 34 ∧ b = 92) := by rcases hq with rfl | ⟨rfl, h⟩ <;> simp_all
  by_cases hm : qmay (utf1 (b :: t)).1 = true
  · have hR : Hid (qone q (b :: t) = ((b :: t).take (utf1 (b :: t)).2, ((utf1 (b :: t)).2 : Int), 0)) := by show (if b = q then _ else _) = _; rw [if_neg hbq, if_neg hnq, if_pos hm]
    have hsl : ∀ w', (Instr.slice 9 (St (b :: t)) none (some (.int .i64 (utf1 (b :: t)).2)) none).run Tryz.prog w' = .ok (St ((b :: t).take (utf1 (b :: t)).2)) w' := fun w' => by
      rw [run_slice_string_h w' 9 _ Tryz.underlying9 .i64 _ (by omega) (by have := hbd.2.2.1; show ((utf1 (b :: t)).2 : Int) ≤ ((b :: t).length : Int); omega), extract_begin]
      rfl
    rw [hm] at hM
    rw [hR.out]
    clear hR hm hbd hnq
    generalize (b :: t).take (utf1 (b :: t)).2 = X at hsl ⊢
    generalize utf1 (b :: t) = u at hF hM hsl ⊢
    obtain ⟨r, n⟩ := u
    have HE := Lib.hid he
    clear he
    rcases hq with rfl | ⟨rfl, h92⟩
    · have hbe : ((b.toNat : Int) == 39) = false := ne_u8 (n := 39) (by decide) hbq
      clear hbq
      go_enter Tryz.func135, Tryz.ntmps135
      go_wp2_with fail
      refine hF.mono ?_
      rintro e w1 ⟨rfl, hb⟩
      go_wp2_with fail
      refine (hM _).mono ?_
      rintro e w1 ⟨rfl, rfl⟩
      go_wp2_with fail
      go_ret3
      exact ⟨rfl, hb⟩
    · have h9 : ((b.toNat : Int) == 92) = false := ne_u8 (n := 92) (by decide) h92
      have hbe : ((b.toNat : Int) == 34) = false := ne_u8 (n := 34) (by decide) hbq
      clear h92 hbq
      go_enter Tryz.func135, Tryz.ntmps135
      go_wp2_with fail
      refine hF.mono ?_
      rintro e w1 ⟨rfl, hb⟩
      go_wp2_with fail
      refine (hM _).mono ?_
      rintro e w1 ⟨rfl, rfl⟩
      go_wp2_with fail
      go_ret3
      exact ⟨rfl, hb⟩
  · have hmf : qmay (utf1 (b :: t)).1 = false := by simpa using hm
    have hR : Hid (qone q (b :: t) = ([], 0, 8)) := by show (if b = q then _ else _) = _; rw [if_neg hbq, if_neg hnq, if_neg hm]
    rw [hmf] at hM
    rw [hR.out]
    clear hR hm hmf hbd hnq
    generalize utf1 (b :: t) = u at hF hM ⊢
    obtain ⟨r, n⟩ := u
    have HE := Lib.hid he
    clear he
    rcases hq with rfl | ⟨rfl, h92⟩
    · have hbe : ((b.toNat : Int) == 39) = false := ne_u8 (n := 39) (by decide) hbq
      clear hbq
      go_enter Tryz.func135, Tryz.ntmps135
      go_wp2_with fail
      refine hF.mono ?_
      rintro e w1 ⟨rfl, hb⟩
      go_wp2_with fail
      refine (hM _).mono ?_
      rintro e w1 ⟨rfl, rfl⟩
      go_wp2_with fail
      go_ret3
      exact ⟨rfl, hb⟩
    · have h9 : ((b.toNat : Int) == 92) = false := ne_u8 (n := 92) (by decide) h92
      have hbe : ((b.toNat : Int) == 34) = false := ne_u8 (n := 34) (by decide) hbq
      clear h92 hbq
      go_enter Tryz.func135, Tryz.ntmps135
      go_wp2_with fail
      refine hF.mono ?_
      rintro e w1 ⟨rfl, hb⟩
      go_wp2_with fail
      refine (hM _).mono ?_
      rintro e w1 ⟨rfl, rfl⟩
      go_wp2_with fail
      go_ret3
      exact ⟨rfl, hb⟩
end Go.Proofs.YtbmonfcahhhdeaaGreatDoor

namespace Go.Proofs.YtbmonfcahhhdeaaGreatDoor
open Go.RowKit

theorem qone_esc (t : Bs) : qone 34 (92 :: t) = if (qescape (92 :: t)).2.2 = 0 then (runeBs (qescape (92 :: t)).1, (qescape (92 :: t)).2.1, 0) else ([], 0, (qescape (92 :: t)).2.2) := by
  simp only [qone]
  rw [if_neg (by decide), if_pos (by decide)]
set_option maxHeartbeats 8000000 in
set_option maxRecDepth 100000 in
theorem quote_one (b q : UInt8) (t : Bs) (hq : q = 39 ∨ q = 34) (hl : t.length < 4294967296) (G : Nat) (w : World) (he : Env G w) :
    Calls Tryz.prog 135 #[St (b :: t), .int .u8 q.toNat] w fun e w' => e = .returned (.tuple #[St (qone q (b :: t)).1, .int .i64 (qone q (b :: t)).2.1, .int .i64 (qone q (b :: t)).2.2]) ∧ Below w.heap.size w w' := by
  have HE := Lib.hid he
  by_cases hbq : b = q
  · clear hl he
    rcases hq with rfl | rfl
    · subst hbq
      rcases t with _ | ⟨c, t⟩
      · go_enter Tryz.func135, Tryz.ntmps135; go_wp2_with fail; go_ret3; exact ⟨rfl, Below.refl _ _⟩
      · have hg : ∀ h, (⟨(39 :: c :: t).toArray⟩ : ByteArray)[1]'h = c := fun h => bs_get (39 :: c :: t) 1 (by simp) h
        have hl1 : (1 : Int) < (t.length : Int) + 1 + 1 := by omega
        by_cases hc : c = 39
        · subst hc
          go_enter Tryz.func135, Tryz.ntmps135; go_wp2_with fail; go_ret3; exact ⟨rfl, Below.refl _ _⟩
        · have e1 : ((c.toNat : Int) == 39) = false := ne_u8 (n := 39) (by decide) hc
          have hR : Hid (qone 39 (39 :: c :: t) = ([], 0, 0)) := by show (if _ then _ else _) = _; simp [hc]
          rw [hR.out]
          clear hc hR
          go_enter Tryz.func135, Tryz.ntmps135; go_wp2_with fail; go_ret3; exact ⟨rfl, Below.refl _ _⟩
    · subst hbq
      go_enter Tryz.func135, Tryz.ntmps135; go_wp2_with fail; go_ret3; exact ⟨rfl, Below.refl _ _⟩
  by_cases h2 : q = 34 ∧ b = 92
  · obtain ⟨rfl, rfl⟩ := h2
    have hE := quote_escape (92 :: t) (by simp; omega)
    by_cases hz : (qescape (92 :: t)).2.2 = 0
    · have hN := fun g w' hc => utf_Encode_ok (qescape (92 :: t)).1 g w' hc (qescape_sign _ hz)
      have hR : Hid (qone 34 (92 :: t) = (runeBs (qescape (92 :: t)).1, (qescape (92 :: t)).2.1, 0)) := by
        show _ = _
        rw [qone_esc, if_pos hz]
      rw [hR.out]
      rw [hz] at hE
      clear hR hz hbq hq hl he
      generalize runeBs (qescape (92 :: t)).1 = X at hN ⊢
      generalize (qescape (92 :: t)).2.1 = n at hE ⊢
      generalize (qescape (92 :: t)).1 = r at hE hN
      go_enter Tryz.func135, Tryz.ntmps135
      go_wp2_with fail
      refine (hE _).mono ?_
      rintro e w1 ⟨rfl, hb1⟩
      go_wp2_with fail
      refine (hN _ _ (by exact blk_cell (blk_new _ _) 0)).mono ?_
      rintro e w2 ⟨rfl, hb2⟩
      go_wp2_with fail
      go_ret3
      exact ⟨rfl, below_step hb1 (below_step ((Below.refl _ _).alloc (Nat.le_refl _) _) hb2)⟩
    · have hR : Hid (qone 34 (92 :: t) = ([], 0, (qescape (92 :: t)).2.2)) := by
        show _ = _
        rw [qone_esc, if_neg hz]
      have hzB : ((qescape (92 :: t)).2.2 != 0) = true := by simpa using hz
      rw [hR.out]
      clear hR hz hbq hq hl he
      generalize (qescape (92 :: t)).2.2 = z at hE hzB ⊢
      generalize (qescape (92 :: t)).2.1 = n at hE ⊢
      generalize (qescape (92 :: t)).1 = r at hE
      go_enter Tryz.func135, Tryz.ntmps135
      go_wp2_with fail
      refine (hE _).mono ?_
      rintro e w1 ⟨rfl, hb1⟩
      go_wp2_with fail
      go_ret3
      exact ⟨rfl, hb1⟩
  · exact one_plain b q t (by rcases hq with rfl | rfl <;> simp_all) hbq G w he
end Go.Proofs.YtbmonfcahhhdeaaGreatDoor

namespace Go.Proofs.YtbmonfcahhhdeaaGreatDoor
open Go.RowKit

theorem qescHex_bounds (many : Nat) (t : Bs) : 0 ≤ (qescHex many t).2.1 ∧ (qescHex many t).2.1 ≤ (t.length : Int) + 2 := by
  unfold qescHex
  split
  · exact ⟨by decide, by simp; omega⟩
  split
  · exact ⟨by decide, by simp; omega⟩
  split
  · exact ⟨by simp; omega, by simp; omega⟩
  · exact ⟨by decide, by simp; omega⟩
theorem qescape_bounds (l : Bs) : 0 ≤ (qescape l).2.1 ∧ (qescape l).2.1 ≤ l.length := by
  unfold qescape
  split
  · rename_i b c t
    have a1 := qescHex_bounds 2 t
    have a2 := qescHex_bounds 4 t
    have a3 := qescHex_bounds 8 t
    simp only [List.length_cons]
    repeat' split
    all_goals first | exact ⟨by decide, by simp; omega⟩ | exact ⟨a1.1, by omega⟩ | exact ⟨a2.1, by omega⟩ | exact ⟨a3.1, by omega⟩ | exact ⟨by simp, by simp; omega⟩
  · exact ⟨by decide, by simp⟩
theorem qescape_two (l : Bs) (h : (qescape l).2.2 = 0) : 2 ≤ (qescape l).2.1 := by
  have q0 : ∀ many t, (qescHex many t).2.2 = 0 → 2 ≤ (qescHex many t).2.1 := fun many t h => by
    unfold qescHex at h ⊢
    split
    · simp_all
    split
    · simp_all
    split
    · simp; omega
    · simp_all
  unfold qescape at h ⊢
  split at h
  · repeat' split
    all_goals first | decide | (apply q0; simp_all) | simp_all
  · simp at h
theorem qone_bounds (q : UInt8) (l : Bs) (h : (qone q l).2.2 = 0) : 0 ≤ (qone q l).2.1 ∧ (qone q l).2.1 ≤ l.length ∧ (((qone q l).1.length : Nat) : Int) ≤ 4 * (qone q l).2.1 := by
  rcases l with _ | ⟨b, t⟩
  · simp [qone]
  have hb := utf1_bounds (b :: t)
  have he := qescape_bounds (b :: t)
  simp only [qone] at h ⊢
  by_cases h1 : b = q
  · rw [if_pos h1] at h ⊢
    by_cases h2 : q = 39 ∧ t.head? = some 39
    · rw [if_pos h2]
      rcases t with _ | ⟨c, t⟩
      · simp at h2
      · simp; omega
    · rw [if_neg h2]; simp; try omega
  rw [if_neg h1] at h ⊢
  by_cases h2 : q = 34 ∧ b = 92
  · rw [if_pos h2] at h ⊢
    by_cases h3 : (qescape (b :: t)).2.2 = 0
    · rw [if_pos h3]
      have := qescape_two _ h3
      have := runeBs_len (qescape (b :: t)).1
      exact ⟨he.1, he.2, by simp only []; omega⟩
    · rw [if_neg h3] at h ⊢; exact absurd h h3
  rw [if_neg h2] at h ⊢
  by_cases h3 : qmay (utf1 (b :: t)).1 = true
  · rw [if_pos h3]
    exact ⟨by simp, by have := hb.2.2.1; simp only []; omega, by rw [List.length_take]; simp only []; omega⟩
  · rw [if_neg h3] at h; simp at h

/-- quote.Read behind its first byte: what was meant, how many bytes, the fault. -/
def qreadL (q : UInt8) (tot : Nat) : Nat → Nat → Bs → Bs → Bs × Int × Int × Int
  | 0, _, _, _ => ([], 0, 4, tot)
  | f + 1, k, rest, acc =>
    if rest = [] then ([], 0, 4, tot)
    else if (qone q rest).2.2 = 4 then ([], 0, 4, tot)
    else if (qone q rest).2.2 ≠ 0 then ([], 0, (qone q rest).2.2, k)
    else if (qone q rest).2.1 = 0 then (acc, k + 1, 0, 0)
    else qreadL q tot f (k + (qone q rest).2.1.toNat) (rest.drop (qone q rest).2.1.toNat) (acc ++ (qone q rest).1)
/-- quote.Read. -/
def qread : Bs → Bs × Int × Int × Int
  | [] => ([], 0, 3, 0)
  | q :: t => if q = 39 ∨ q = 34 then qreadL q (t.length + 1) t.length 1 t [] else ([], 0, 3, 0)
end Go.Proofs.YtbmonfcahhhdeaaGreatDoor
