/- The walk of the reader's props. -/
import Derived.Test.YtbmonfcahhhdeaaGreatDoorFMod2
import Derived.Test.YtbmonfcahhhdeaaGreatDoorFRdE
set_option linter.unusedVariables false
set_option linter.unusedSimpArgs false
namespace Go.Proofs.YtbmonfcahhhdeaaGreatDoor
open Go.RowKit

/-- What may follow a property. -/
theorem after_cases (r : FRd) (f : Bool) :
    (List.isEmpty r.s = true ∧ r.after f = r.skip 0) ∨ (List.isEmpty r.s = false ∧ r.next [32] = true ∧ r.after f = r.skip 0) ∨
    (List.isEmpty r.s = false ∧ r.next [32] = false ∧ f = true ∧ r.next flows = true ∧ r.after f = r.skip 0) ∨
    (List.isEmpty r.s = false ∧ r.next [32] = false ∧ f = true ∧ r.next flows = false ∧ r.after f = (r.wrong 3 r.pos).skip 0) ∨
    (List.isEmpty r.s = false ∧ r.next [32] = false ∧ f = false ∧ r.after f = (r.wrong 3 r.pos).skip 0) := by
  unfold FRd.after
  by_cases h1 : r.s = []
  · exact .inl ⟨by rw [h1]; rfl, by rw [if_neg (fun h => h.1 h1)]⟩
  have h1' : List.isEmpty r.s = false := by simpa using h1
  cases h2 : r.next [32] with
  | true => exact .inr (.inl ⟨h1', rfl, by rw [if_neg (fun h => by cases h.2.1)]⟩)
  | false =>
    cases f with
    | false => exact .inr (.inr (.inr (.inr ⟨h1', rfl, rfl, by rw [if_pos ⟨h1, rfl, rfl⟩]⟩)))
    | true =>
      cases h3 : r.next flows with
      | true => exact .inr (.inr (.inl ⟨h1', rfl, rfl, rfl, by rw [if_neg (fun h => by simp at h)]⟩))
      | false => exact .inr (.inr (.inr (.inl ⟨h1', rfl, rfl, rfl, by rw [if_pos ⟨h1, rfl, rfl⟩]⟩)))
theorem flows_eq : flows = [44, 91, 93, 123, 125] := rfl
/-- What stands when props' loop has n rounds to go. -/
def PropsR (g : Nat) (f : Bool) (p' : Pr) (r' : FRd) (F : Nat) (w : World) (n : Nat) (wr : World) : Prop :=
  ∃ r p, FRd.props f n r p = some (p', r') ∧ r.At wr g ∧ r.Ok ∧ wr.heap[F]? = some (.cells #[St [], .int .i64 0, .int .i64 0] 89) ∧
    wr.heap[F + 1]? = some (.cells #[St p.anchor, .int .i64 p.tag, .int .i64 p.tagAt] 89) ∧ Fr (· = g) F w wr ∧ F + 1 < wr.heap.size

set_option maxHeartbeats 8000000 in
set_option maxRecDepth 100000 in
theorem frd_props (g : Nat) (r0 : FRd) (f : Bool) (p' : Pr) (r' : FRd) (hm : FRd.props f 4 r0 .no = some (p', r')) (w : World) (h : r0.At w g) (ok : r0.Ok) :
    Calls Tryz.prog 56 #[.pointer (some ⟨g, 0, none⟩), .bool f] w fun e w' => e = .returned p'.v ∧ r'.At w' g ∧ Fr (· = g) w.heap.size w w' := by
  obtain ⟨F, hF⟩ : ∃ F, w.heap.size = F := ⟨_, rfl⟩
  have hlt := blk_lt h
  rw [hF] at hlt
  have HH := Lib.hid (And.intro h (And.intro ok hm))
  clear h ok hm
  go_enter Tryz.func56, Tryz.ntmps56
  go_wp2_with fail
  go_loopw [] (fun wr => ∃ n, PropsR g f p' r' F w n wr) (fun wr => least fun n => PropsR g f p' r' F w n wr)
  case atStart =>
    exact ⟨4, r0, .no, HH.out.2.2, blk_alloc (blk_alloc HH.out.1), HH.out.2.1, by rw [← hF]; exact blk_alloc (blk_new _ _), by rw [← hF]; exact blk_new1 _ _ _, by rw [← hF]; exact ((Fr.refl _ _ _).alloc (Nat.le_refl _) _).alloc (by simp) _, by rw [← hF]; simp⟩
  case round =>
    have hR := least_spec hrel
    generalize hn : (least fun n => PropsR g f p' r' F w n wr) = n at hR ⊢
    obtain ⟨r, p, hm, hA, ok, hz, hp, hfr, hsz⟩ := hR
    obtain ⟨anc, tag, tagAt⟩ := p
    cases n with
    | zero => simp [FRd.props] at hm
    | succ n =>
    rw [FRd.props] at hm
    simp only [] at hm hp
    have hWell := frd_well g r wr hA
    obtain ⟨c0, c1, c2, f0, f1, f2⟩ := cells3 hp
    have HN := Lib.hid hn
    have HX := Lib.hid (And.intro hz (And.intro hp (And.intro hfr (And.intro hsz ok))))
    have HA := Lib.hid hA
    clear hrel hn HH hz hp hfr hsz
    by_cases hw : r.well = false
    · obtain ⟨z0, z1, z2, y0, y1, y2⟩ := cells3 HX.out.1
      rw [if_pos hw] at hm
      rw [hw] at hWell
      simp only [Option.some.injEq, Prod.mk.injEq] at hm
      obtain ⟨rfl, rfl⟩ := hm
      clear hw
      go_wp2_with fail
      refine hWell.mono ?_
      rintro e w1 ⟨rfl, rfl⟩
      go_wp2_with fail
      obtain ⟨hz, hp, hfr, hsz, ok⟩ := HX.out
      have hd := blk_set (i := 2) (v := .int .i64 tagAt) (blk_set (i := 1) (v := .int .i64 tag) (blk_set (i := 0) (v := St anc) hz))
      have e0 := blk_cell hd 0
      have e1 := blk_cell hd 1
      have e2 := blk_cell hd 2
      exact bodyPost_ret (v := .agg #[St anc, .int .i64 tag, .int .i64 tagAt]) (by simp [results, Tryz.results56, go_sem, e0, e1, e2]) rfl
        ⟨rfl, blk_set_ne (blk_set_ne (blk_set_ne hA (by simp; omega)) (by simp; omega)) (by simp; omega), by rw [hF]; exact ((hfr.setCell (.inl (Nat.le_refl _)) _).setCell (.inl (Nat.le_refl _)) _).setCell (.inl (Nat.le_refl _)) _⟩
    rw [if_neg hw] at hm
    rw [Bool.not_eq_false] at hw
    rw [hw] at hWell
    have hN := fun cs => frd_next g r cs wr hA
    by_cases hb1 : anc = [] ∧ r.next [38] = true
    · rw [if_pos hb1] at hm
      obtain ⟨rfl, hn38⟩ := hb1
      have hN38 := hN [38]
      rw [hn38] at hN38
      have hs : 1 ≤ r.s.length := by
        unfold FRd.next at hn38
        cases hr : r.s with
        | nil => rw [hr] at hn38; simp at hn38
        | cons a b => simp
      obtain ⟨a0, a1, a2, a3, i0, i1, i2, i3⟩ := hA.parts
      have hd1 := fun w' => slice_drop r.s 1 hs w'
      rw [List.drop_one] at hd1
      have hA1 : (r.dropS 1).At (wr.setCell ⟨g, 1, none⟩ (St r.s.tail)) g := by unfold FRd.dropS; rw [List.drop_one]; exact hA.set1 _
      have hNm := frd_name g (r.dropS 1) _ hA1 (FRd.dropS_ok ok 1)
      have okn := FRd.name_ok (FRd.dropS_ok ok 1)
      clear hd1 hn38
      go_wp2_with fail
      refine hWell.mono ?_
      rintro e w1 ⟨rfl, rfl⟩
      go_wp2_with fail
      refine hN38.mono ?_
      rintro e w2 ⟨rfl, rfl⟩
      go_wp2_with fail
      refine hNm.mono ?_
      rintro e w3 ⟨rfl, h3, fr3⟩
      have hFg : F ≠ g := by omega
      have hFg1 : F + 1 ≠ g := by omega
      have hz3 := blk_fr (blk_set_ne HX.out.1 (a := ⟨g, 1, none⟩) (v := St r.s.tail) hFg) fr3 (by have := HX.out.2.2.2.1; simp; omega) hFg
      have hp3 := blk_fr (blk_set_ne HX.out.2.1 (a := ⟨g, 1, none⟩) (v := St r.s.tail) hFg1) fr3 (by have := HX.out.2.2.2.1; simp; omega) hFg1
      obtain ⟨o0, o1, o2, of0, of1, of2⟩ := cells3 hp3
      have hs3 : F + 1 < w3.heap.size := blk_lt hp3
      have hB : (r.dropS 1).name.At (w3.setCell ⟨F + 1, 0, none⟩ (St (wordL (r.dropS 1).s lettersBs))) g ∧ (w3.setCell ⟨F + 1, 0, none⟩ (St (wordL (r.dropS 1).s lettersBs))).heap[F]? = some (.cells #[St [], .int .i64 0, .int .i64 0] 89) ∧
          (w3.setCell ⟨F + 1, 0, none⟩ (St (wordL (r.dropS 1).s lettersBs))).heap[F + 1]? = some (.cells #[St (wordL (r.dropS 1).s lettersBs), .int .i64 tag, .int .i64 tagAt] 89) ∧
          Fr (· = g) F w (w3.setCell ⟨F + 1, 0, none⟩ (St (wordL (r.dropS 1).s lettersBs))) ∧ F + 1 < (w3.setCell ⟨F + 1, 0, none⟩ (St (wordL (r.dropS 1).s lettersBs))).heap.size :=
        ⟨blk_set_ne h3 (by simp; omega), blk_set_ne hz3 (by simp), blk_set hp3, ((HX.out.2.2.1.own 1 (St r.s.tail)).call fr3 (by have := HX.out.2.2.2.1; simp; omega) (fun _ _ h => h)).setCell (.inl (by simp)) _, by simpa using hs3⟩
      have hm : FRd.props f n ((r.dropS 1).name.after f) ⟨wordL (r.dropS 1).s lettersBs, tag, tagAt⟩ = some (p', r') := hm
      clear h3 fr3 hz3 hp3 c0 c1 c2 f0 f1 f2 a0 a1 a2 a3 i0 i1 i2 i3 hA1 hNm
      generalize (r.dropS 1).name = rX at hB hm okn
      generalize wordL (r.dropS 1).s lettersBs = u at hB hm ⊢
      obtain ⟨p2, hp2⟩ : ∃ p2 : Pr, p2 = ⟨u, tag, tagAt⟩ := ⟨_, rfl⟩
      rw [← hp2] at hm
      have hp2a : p2.anchor = u := by rw [hp2]
      have hp2b : p2.tag = tag := by rw [hp2]
      have hp2c : p2.tagAt = tagAt := by rw [hp2]
      have HB : Hid (rX.At (w3.setCell ⟨F + 1, 0, none⟩ (St u)) g ∧ (w3.setCell ⟨F + 1, 0, none⟩ (St u)).heap[F]? = some (.cells #[St [], .int .i64 0, .int .i64 0] 89) ∧
          (w3.setCell ⟨F + 1, 0, none⟩ (St u)).heap[F + 1]? = some (.cells #[St p2.anchor, .int .i64 p2.tag, .int .i64 p2.tagAt] 89) ∧
          Fr (· = g) F w (w3.setCell ⟨F + 1, 0, none⟩ (St u)) ∧ F + 1 < (w3.setCell ⟨F + 1, 0, none⟩ (St u)).heap.size) := by rw [hp2a, hp2b, hp2c]; exact hB
      clear hp2 hp2a hp2b hp2c hB
      have okX := okn
      clear okn
      have hAt := frd_at g rX
      have hNx := fun cs => frd_next g rX cs (w3.setCell ⟨F + 1, 0, none⟩ (St u)) HB.out.1
      have hN32 := hNx [32]
      have hNfl := hNx [44, 91, 93, 123, 125]
      have hSk0 := fun w' h' => frd_skip g rX 0 (Nat.zero_le _) w' h'
      have hWr := fun w' h' => frd_wrong g rX 3 rX.pos w' h'
      have hSk1 := fun w' h' => frd_skip g (rX.wrong 3 rX.pos) 0 (Nat.zero_le _) w' h'
      have hAt := fun w' h' => frd_at g rX w' h' okX
      obtain ⟨b0, b1, b2, b3, j0, j1, j2, j3⟩ := FRd.At.parts HB.out.1
      have hFg : F ≠ g := by omega
      have hFg1 : F + 1 ≠ g := by omega
      have okA := (FRd.sub_after rX f).ok okX
      have hend : ∀ w9, (rX.after f).At w9 g → Fr (· = g) (w3.setCell ⟨F + 1, 0, none⟩ (St u)).heap.size (w3.setCell ⟨F + 1, 0, none⟩ (St u)) w9 → (∃ n, PropsR g f p' r' F w n w9) ∧ (least fun n => PropsR g f p' r' F w n w9) < n + 1 := fun w9 h9 fr9 => by
        have hR : PropsR g f p' r' F w n w9 := ⟨rX.after f, p2, hm, h9, okA, blk_fr HB.out.2.1 fr9 (blk_lt HB.out.2.1) hFg, blk_fr HB.out.2.2.1 fr9 (blk_lt HB.out.2.2.1) hFg1, HB.out.2.2.2.1.call fr9 (by have := HB.out.2.2.2.2; omega) (fun _ _ h => h), by have := HB.out.2.2.2.2; have := fr9.size; omega⟩
        exact ⟨⟨n, hR⟩, Nat.lt_succ_of_le (least_le hR)⟩
      have HE := Lib.hid hend
      clear hend
      rcases after_cases rX f with ⟨k1, hc⟩ | ⟨k1, k2, hc⟩ | ⟨k1, k2, k3, k4, hc⟩ | ⟨k1, k2, k3, k4, hc⟩ | ⟨k1, k2, k3, hc⟩
      · rw [hc] at HE
        clear hc
        go_wp2_with fail
        refine (hSk0 _ (by exact HB.out.1)).mono ?_
        rintro e w5 ⟨rfl, h5, fr5⟩
        go_wp2_with fail
        exact HE.out _ h5 fr5
      · rw [hc] at HE
        rw [k2] at hN32
        clear hc k2
        go_wp2_with fail
        refine hN32.mono ?_
        rintro e w5 ⟨rfl, rfl⟩
        go_wp2_with fail
        refine (hSk0 _ (by exact HB.out.1)).mono ?_
        rintro e w5 ⟨rfl, h5, fr5⟩
        go_wp2_with fail
        exact HE.out _ h5 fr5
      · rw [hc] at HE
        rw [k2] at hN32
        rw [← flows_eq, k4] at hNfl
        rw [flows_eq] at hNfl
        subst k3
        clear hc k2 k4
        go_wp2_with fail
        refine hN32.mono ?_
        rintro e w5 ⟨rfl, rfl⟩
        go_wp2_with fail
        refine hNfl.mono ?_
        rintro e w5 ⟨rfl, rfl⟩
        go_wp2_with fail
        refine (hSk0 _ (by exact HB.out.1)).mono ?_
        rintro e w5 ⟨rfl, h5, fr5⟩
        go_wp2_with fail
        exact HE.out _ h5 fr5
      · rw [hc] at HE
        rw [k2] at hN32
        rw [← flows_eq, k4] at hNfl
        rw [flows_eq] at hNfl
        subst k3
        clear hc k2 k4
        go_wp2_with fail
        refine hN32.mono ?_
        rintro e w5 ⟨rfl, rfl⟩
        go_wp2_with fail
        refine hNfl.mono ?_
        rintro e w5 ⟨rfl, rfl⟩
        go_wp2_with fail
        refine (hAt _ (by exact HB.out.1)).mono ?_
        rintro e w5 ⟨rfl, n5, rfl⟩
        go_wp2_with fail
        refine (hWr _ (by exact HB.out.1)).mono ?_
        rintro e w6 ⟨rfl, h6, fr6⟩
        go_wp2_with fail
        refine (hSk1 _ (by exact h6)).mono ?_
        rintro e w7 ⟨rfl, h7, fr7⟩
        go_wp2_with fail
        exact HE.out _ h7 ((((Fr.refl _ _ _).drewN n5).call fr6 (Nat.le_refl _) (fun _ _ h => h)).call fr7 fr6.size (fun _ _ h => h))
      · rw [hc] at HE
        rw [k2] at hN32
        subst k3
        clear hc k2
        go_wp2_with fail
        refine hN32.mono ?_
        rintro e w5 ⟨rfl, rfl⟩
        go_wp2_with fail
        refine (hAt _ (by exact HB.out.1)).mono ?_
        rintro e w5 ⟨rfl, n5, rfl⟩
        go_wp2_with fail
        refine (hWr _ (by exact HB.out.1)).mono ?_
        rintro e w6 ⟨rfl, h6, fr6⟩
        go_wp2_with fail
        refine (hSk1 _ (by exact h6)).mono ?_
        rintro e w7 ⟨rfl, h7, fr7⟩
        go_wp2_with fail
        exact HE.out _ h7 ((((Fr.refl _ _ _).drewN n5).call fr6 (Nat.le_refl _) (fun _ _ h => h)).call fr7 fr6.size (fun _ _ h => h))
    rw [if_neg hb1] at hm
    by_cases ha : anc = []
    · subst ha
      have hn38 : r.next [38] = false := by
        cases hx : r.next [38] with
        | false => rfl
        | true => exact absurd ⟨rfl, hx⟩ hb1
      have hN38 := hN [38]
      rw [hn38] at hN38
      clear hn38 hb1
      by_cases hb2 : tag = 0 ∧ r.next [33] = true
      · rw [if_pos hb2] at hm
        obtain ⟨rfl, hn33⟩ := hb2
        have hN33 := hN [33]
        rw [hn33] at hN33
        have hs : 1 ≤ r.s.length := by
          unfold FRd.next at hn33
          cases hr : r.s with
          | nil => rw [hr] at hn33; simp at hn33
          | cons a b => simp
        have hAt := fun w' h' => frd_at g r w' h' ok
        have hTg := fun w' h' => frd_tag g r hs w' h' ok
        have hlt9 := blk_lt HA.out
        have okn := (FRd.sub_tag r).ok ok
        clear hn33
        go_wp2_with fail
        refine hWell.mono ?_
        rintro e w1 ⟨rfl, rfl⟩
        go_wp2_with fail
        refine hN38.mono ?_
        rintro e w2 ⟨rfl, rfl⟩
        go_wp2_with fail
        refine hN33.mono ?_
        rintro e w2 ⟨rfl, rfl⟩
        go_wp2_with fail
        refine (hAt _ (by exact HA.out)).mono ?_
        rintro e w4 ⟨rfl, n5, rfl⟩
        have hFg : F ≠ g := by omega
        have hFg1 : F + 1 ≠ g := by omega
        have hp4 : (((w2.drewN n5).setCell ⟨F + 1, 2, none⟩ (.int .i64 r.pos)).heap[F + 1]? = some (.cells #[St [], .int .i64 0, .int .i64 r.pos] 89)) := blk_set HX.out.2.1
        have hA4 : r.At ((w2.drewN n5).setCell ⟨F + 1, 2, none⟩ (.int .i64 r.pos)) g := blk_set_ne (show (w2.drewN n5).heap[g]? = _ from HA.out) (by simp; omega)
        have hz4 : (((w2.drewN n5).setCell ⟨F + 1, 2, none⟩ (.int .i64 r.pos)).heap[F]? = some (.cells #[St [], .int .i64 0, .int .i64 0] 89)) := blk_set_ne (show (w2.drewN n5).heap[F]? = _ from HX.out.1) (by simp)
        have hf4 : Fr (· = g) F w ((w2.drewN n5).setCell ⟨F + 1, 2, none⟩ (.int .i64 r.pos)) := (HX.out.2.2.1.drewN n5).setCell (.inl (by simp)) _
        have H4 := Lib.hid (And.intro hp4 (And.intro hA4 (And.intro hz4 hf4)))
        clear hp4 hA4 hz4 hf4
        go_wp2_with fail
        refine (hTg _ (by exact H4.out.2.1)).mono ?_
        rintro e w5 ⟨rfl, h5, fr5⟩
        have hz5 := blk_fr H4.out.2.2.1 fr5 (blk_lt H4.out.2.2.1) hFg
        have hp5 := blk_fr H4.out.1 fr5 (blk_lt H4.out.1) hFg1
        obtain ⟨o0, o1, o2, of0, of1, of2⟩ := cells3 hp5
        have hs5 : F + 1 < w5.heap.size := blk_lt hp5
        have hB : r.tag.2.At (w5.setCell ⟨F + 1, 1, none⟩ (.int .i64 r.tag.1)) g ∧ (w5.setCell ⟨F + 1, 1, none⟩ (.int .i64 r.tag.1)).heap[F]? = some (.cells #[St [], .int .i64 0, .int .i64 0] 89) ∧
            (w5.setCell ⟨F + 1, 1, none⟩ (.int .i64 r.tag.1)).heap[F + 1]? = some (.cells #[St [], .int .i64 r.tag.1, .int .i64 r.pos] 89) ∧
            Fr (· = g) F w (w5.setCell ⟨F + 1, 1, none⟩ (.int .i64 r.tag.1)) ∧ F + 1 < (w5.setCell ⟨F + 1, 1, none⟩ (.int .i64 r.tag.1)).heap.size :=
          ⟨blk_set_ne h5 (by simp; omega), blk_set_ne hz5 (by simp), blk_set hp5, (H4.out.2.2.2.call fr5 (by have := blk_lt H4.out.1; omega) (fun _ _ h => h)).setCell (.inl (by simp)) _, by simpa using hs5⟩
        clear h5 fr5 hz5 hp5 c0 c1 c2 f0 f1 f2 H4
        generalize r.tag = rt at hB hm okn ⊢
        obtain ⟨κ, rX⟩ := rt
        generalize r.pos = ps at hB hm ⊢
        simp only [] at hB hm okn
        obtain ⟨p2, hp2⟩ : ∃ p2 : Pr, p2 = ⟨[], κ, ps⟩ := ⟨_, rfl⟩
        rw [← hp2] at hm
        have hp2a : p2.anchor = [] := by rw [hp2]
        have hp2b : p2.tag = κ := by rw [hp2]
        have hp2c : p2.tagAt = ps := by rw [hp2]
        have HB : Hid (rX.At (w5.setCell ⟨F + 1, 1, none⟩ (.int .i64 κ)) g ∧ (w5.setCell ⟨F + 1, 1, none⟩ (.int .i64 κ)).heap[F]? = some (.cells #[St [], .int .i64 0, .int .i64 0] 89) ∧
            (w5.setCell ⟨F + 1, 1, none⟩ (.int .i64 κ)).heap[F + 1]? = some (.cells #[St p2.anchor, .int .i64 p2.tag, .int .i64 p2.tagAt] 89) ∧
            Fr (· = g) F w (w5.setCell ⟨F + 1, 1, none⟩ (.int .i64 κ)) ∧ F + 1 < (w5.setCell ⟨F + 1, 1, none⟩ (.int .i64 κ)).heap.size) := by rw [hp2a, hp2b, hp2c]; exact hB
        clear hp2 hp2a hp2b hp2c hB hAt
        have okX := okn
        clear okn
        have hAt := frd_at g rX
        have hNx := fun cs => frd_next g rX cs (w5.setCell ⟨F + 1, 1, none⟩ (.int .i64 κ)) HB.out.1
        have hN32 := hNx [32]
        have hNfl := hNx [44, 91, 93, 123, 125]
        have hSk0 := fun w' h' => frd_skip g rX 0 (Nat.zero_le _) w' h'
        have hWr := fun w' h' => frd_wrong g rX 3 rX.pos w' h'
        have hSk1 := fun w' h' => frd_skip g (rX.wrong 3 rX.pos) 0 (Nat.zero_le _) w' h'
        have hAt := fun w' h' => frd_at g rX w' h' okX
        obtain ⟨b0, b1, b2, b3, j0, j1, j2, j3⟩ := FRd.At.parts HB.out.1
        have hFg : F ≠ g := by omega
        have hFg1 : F + 1 ≠ g := by omega
        have okA := (FRd.sub_after rX f).ok okX
        have hend : ∀ w9, (rX.after f).At w9 g → Fr (· = g) (w5.setCell ⟨F + 1, 1, none⟩ (.int .i64 κ)).heap.size (w5.setCell ⟨F + 1, 1, none⟩ (.int .i64 κ)) w9 → (∃ n, PropsR g f p' r' F w n w9) ∧ (least fun n => PropsR g f p' r' F w n w9) < n + 1 := fun w9 h9 fr9 => by
          have hR : PropsR g f p' r' F w n w9 := ⟨rX.after f, p2, hm, h9, okA, blk_fr HB.out.2.1 fr9 (blk_lt HB.out.2.1) hFg, blk_fr HB.out.2.2.1 fr9 (blk_lt HB.out.2.2.1) hFg1, HB.out.2.2.2.1.call fr9 (by have := HB.out.2.2.2.2; omega) (fun _ _ h => h), by have := HB.out.2.2.2.2; have := fr9.size; omega⟩
          exact ⟨⟨n, hR⟩, Nat.lt_succ_of_le (least_le hR)⟩
        have HE := Lib.hid hend
        clear hend
        rcases after_cases rX f with ⟨k1, hc⟩ | ⟨k1, k2, hc⟩ | ⟨k1, k2, k3, k4, hc⟩ | ⟨k1, k2, k3, k4, hc⟩ | ⟨k1, k2, k3, hc⟩
        · rw [hc] at HE
          clear hc
          go_wp2_with fail
          refine (hSk0 _ (by exact HB.out.1)).mono ?_
          rintro e w8 ⟨rfl, h5, fr5⟩
          go_wp2_with fail
          exact HE.out _ h5 fr5
        · rw [hc] at HE
          rw [k2] at hN32
          clear hc k2
          go_wp2_with fail
          refine hN32.mono ?_
          rintro e w8 ⟨rfl, rfl⟩
          go_wp2_with fail
          refine (hSk0 _ (by exact HB.out.1)).mono ?_
          rintro e w8 ⟨rfl, h5, fr5⟩
          go_wp2_with fail
          exact HE.out _ h5 fr5
        · rw [hc] at HE
          rw [k2] at hN32
          rw [← flows_eq, k4] at hNfl
          rw [flows_eq] at hNfl
          subst k3
          clear hc k2 k4
          go_wp2_with fail
          refine hN32.mono ?_
          rintro e w8 ⟨rfl, rfl⟩
          go_wp2_with fail
          refine hNfl.mono ?_
          rintro e w8 ⟨rfl, rfl⟩
          go_wp2_with fail
          refine (hSk0 _ (by exact HB.out.1)).mono ?_
          rintro e w8 ⟨rfl, h5, fr5⟩
          go_wp2_with fail
          exact HE.out _ h5 fr5
        · rw [hc] at HE
          rw [k2] at hN32
          rw [← flows_eq, k4] at hNfl
          rw [flows_eq] at hNfl
          subst k3
          clear hc k2 k4
          go_wp2_with fail
          refine hN32.mono ?_
          rintro e w8 ⟨rfl, rfl⟩
          go_wp2_with fail
          refine hNfl.mono ?_
          rintro e w8 ⟨rfl, rfl⟩
          go_wp2_with fail
          refine (hAt _ (by exact HB.out.1)).mono ?_
          rintro e w8 ⟨rfl, n8, rfl⟩
          go_wp2_with fail
          refine (hWr _ (by exact HB.out.1)).mono ?_
          rintro e w6 ⟨rfl, h6, fr6⟩
          go_wp2_with fail
          refine (hSk1 _ (by exact h6)).mono ?_
          rintro e w7 ⟨rfl, h7, fr7⟩
          go_wp2_with fail
          exact HE.out _ h7 ((((Fr.refl _ _ _).drewN n8).call fr6 (Nat.le_refl _) (fun _ _ h => h)).call fr7 fr6.size (fun _ _ h => h))
        · rw [hc] at HE
          rw [k2] at hN32
          subst k3
          clear hc k2
          go_wp2_with fail
          refine hN32.mono ?_
          rintro e w8 ⟨rfl, rfl⟩
          go_wp2_with fail
          refine (hAt _ (by exact HB.out.1)).mono ?_
          rintro e w8 ⟨rfl, n8, rfl⟩
          go_wp2_with fail
          refine (hWr _ (by exact HB.out.1)).mono ?_
          rintro e w6 ⟨rfl, h6, fr6⟩
          go_wp2_with fail
          refine (hSk1 _ (by exact h6)).mono ?_
          rintro e w7 ⟨rfl, h7, fr7⟩
          go_wp2_with fail
          exact HE.out _ h7 ((((Fr.refl _ _ _).drewN n8).call fr6 (Nat.le_refl _) (fun _ _ h => h)).call fr7 fr6.size (fun _ _ h => h))
      · rw [if_neg hb2] at hm
        simp only [Option.some.injEq, Prod.mk.injEq] at hm
        obtain ⟨rfl, rfl⟩ := hm
        by_cases h0 : tag = 0
        · subst h0
          have hn33 : r.next [33] = false := by
            cases hx : r.next [33] with
            | false => rfl
            | true => exact absurd ⟨rfl, hx⟩ hb2
          have hN33 := hN [33]
          rw [hn33] at hN33
          clear hn33 hb2
          obtain ⟨z0, z1, z2, y0, y1, y2⟩ := cells3 HX.out.1
          go_wp2_with fail
          refine hWell.mono ?_
          rintro e w1 ⟨rfl, rfl⟩
          go_wp2_with fail
          refine hN38.mono ?_
          rintro e w2 ⟨rfl, rfl⟩
          go_wp2_with fail
          refine hN33.mono ?_
          rintro e w2 ⟨rfl, rfl⟩
          go_wp2_with fail
          obtain ⟨hz, hp, hfr, hsz, ok⟩ := HX.out
          have hd := blk_set (i := 2) (v := .int .i64 tagAt) (blk_set (i := 1) (v := .int .i64 0) (blk_set (i := 0) (v := St []) hz))
          have e0 := blk_cell hd 0
          have e1 := blk_cell hd 1
          have e2 := blk_cell hd 2
          exact bodyPost_ret (v := .agg #[St [], .int .i64 0, .int .i64 tagAt]) (by simp [results, Tryz.results56, go_sem, e0, e1, e2]) rfl
            ⟨rfl, blk_set_ne (blk_set_ne (blk_set_ne HA.out (by simp; omega)) (by simp; omega)) (by simp; omega), by rw [hF]; exact ((hfr.setCell (.inl (Nat.le_refl _)) _).setCell (.inl (Nat.le_refl _)) _).setCell (.inl (Nat.le_refl _)) _⟩
        · have h0B : (tag == 0) = false := by simpa using h0
          clear hb2 h0
          obtain ⟨z0, z1, z2, y0, y1, y2⟩ := cells3 HX.out.1
          go_wp2_with fail
          refine hWell.mono ?_
          rintro e w1 ⟨rfl, rfl⟩
          go_wp2_with fail
          refine hN38.mono ?_
          rintro e w2 ⟨rfl, rfl⟩
          go_wp2_with fail
          obtain ⟨hz, hp, hfr, hsz, ok⟩ := HX.out
          have hd := blk_set (i := 2) (v := .int .i64 tagAt) (blk_set (i := 1) (v := .int .i64 tag) (blk_set (i := 0) (v := St []) hz))
          have e0 := blk_cell hd 0
          have e1 := blk_cell hd 1
          have e2 := blk_cell hd 2
          exact bodyPost_ret (v := .agg #[St [], .int .i64 tag, .int .i64 tagAt]) (by simp [results, Tryz.results56, go_sem, e0, e1, e2]) rfl
            ⟨rfl, blk_set_ne (blk_set_ne (blk_set_ne HA.out (by simp; omega)) (by simp; omega)) (by simp; omega), by rw [hF]; exact ((hfr.setCell (.inl (Nat.le_refl _)) _).setCell (.inl (Nat.le_refl _)) _).setCell (.inl (Nat.le_refl _)) _⟩
    · obtain ⟨xa, ya, rfl⟩ := List.exists_cons_of_ne_nil ha
      clear ha hb1
      by_cases hb2 : tag = 0 ∧ r.next [33] = true
      · rw [if_pos hb2] at hm
        obtain ⟨rfl, hn33⟩ := hb2
        have hN33 := hN [33]
        rw [hn33] at hN33
        have hs : 1 ≤ r.s.length := by
          unfold FRd.next at hn33
          cases hr : r.s with
          | nil => rw [hr] at hn33; simp at hn33
          | cons a b => simp
        have hAt := fun w' h' => frd_at g r w' h' ok
        have hTg := fun w' h' => frd_tag g r hs w' h' ok
        have hlt9 := blk_lt HA.out
        have okn := (FRd.sub_tag r).ok ok
        clear hn33
        go_wp2_with fail
        refine hWell.mono ?_
        rintro e w1 ⟨rfl, rfl⟩
        go_wp2_with fail
        refine hN33.mono ?_
        rintro e w2 ⟨rfl, rfl⟩
        go_wp2_with fail
        refine (hAt _ (by exact HA.out)).mono ?_
        rintro e w4 ⟨rfl, n5, rfl⟩
        have hFg : F ≠ g := by omega
        have hFg1 : F + 1 ≠ g := by omega
        have hp4 : (((w2.drewN n5).setCell ⟨F + 1, 2, none⟩ (.int .i64 r.pos)).heap[F + 1]? = some (.cells #[St (xa :: ya), .int .i64 0, .int .i64 r.pos] 89)) := blk_set HX.out.2.1
        have hA4 : r.At ((w2.drewN n5).setCell ⟨F + 1, 2, none⟩ (.int .i64 r.pos)) g := blk_set_ne (show (w2.drewN n5).heap[g]? = _ from HA.out) (by simp; omega)
        have hz4 : (((w2.drewN n5).setCell ⟨F + 1, 2, none⟩ (.int .i64 r.pos)).heap[F]? = some (.cells #[St [], .int .i64 0, .int .i64 0] 89)) := blk_set_ne (show (w2.drewN n5).heap[F]? = _ from HX.out.1) (by simp)
        have hf4 : Fr (· = g) F w ((w2.drewN n5).setCell ⟨F + 1, 2, none⟩ (.int .i64 r.pos)) := (HX.out.2.2.1.drewN n5).setCell (.inl (by simp)) _
        have H4 := Lib.hid (And.intro hp4 (And.intro hA4 (And.intro hz4 hf4)))
        clear hp4 hA4 hz4 hf4
        go_wp2_with fail
        refine (hTg _ (by exact H4.out.2.1)).mono ?_
        rintro e w5 ⟨rfl, h5, fr5⟩
        have hz5 := blk_fr H4.out.2.2.1 fr5 (blk_lt H4.out.2.2.1) hFg
        have hp5 := blk_fr H4.out.1 fr5 (blk_lt H4.out.1) hFg1
        obtain ⟨o0, o1, o2, of0, of1, of2⟩ := cells3 hp5
        have hs5 : F + 1 < w5.heap.size := blk_lt hp5
        have hB : r.tag.2.At (w5.setCell ⟨F + 1, 1, none⟩ (.int .i64 r.tag.1)) g ∧ (w5.setCell ⟨F + 1, 1, none⟩ (.int .i64 r.tag.1)).heap[F]? = some (.cells #[St [], .int .i64 0, .int .i64 0] 89) ∧
            (w5.setCell ⟨F + 1, 1, none⟩ (.int .i64 r.tag.1)).heap[F + 1]? = some (.cells #[St (xa :: ya), .int .i64 r.tag.1, .int .i64 r.pos] 89) ∧
            Fr (· = g) F w (w5.setCell ⟨F + 1, 1, none⟩ (.int .i64 r.tag.1)) ∧ F + 1 < (w5.setCell ⟨F + 1, 1, none⟩ (.int .i64 r.tag.1)).heap.size :=
          ⟨blk_set_ne h5 (by simp; omega), blk_set_ne hz5 (by simp), blk_set hp5, (H4.out.2.2.2.call fr5 (by have := blk_lt H4.out.1; omega) (fun _ _ h => h)).setCell (.inl (by simp)) _, by simpa using hs5⟩
        clear h5 fr5 hz5 hp5 c0 c1 c2 f0 f1 f2 H4
        generalize r.tag = rt at hB hm okn ⊢
        obtain ⟨κ, rX⟩ := rt
        generalize r.pos = ps at hB hm ⊢
        simp only [] at hB hm okn
        obtain ⟨p2, hp2⟩ : ∃ p2 : Pr, p2 = ⟨(xa :: ya), κ, ps⟩ := ⟨_, rfl⟩
        rw [← hp2] at hm
        have hp2a : p2.anchor = (xa :: ya) := by rw [hp2]
        have hp2b : p2.tag = κ := by rw [hp2]
        have hp2c : p2.tagAt = ps := by rw [hp2]
        have HB : Hid (rX.At (w5.setCell ⟨F + 1, 1, none⟩ (.int .i64 κ)) g ∧ (w5.setCell ⟨F + 1, 1, none⟩ (.int .i64 κ)).heap[F]? = some (.cells #[St [], .int .i64 0, .int .i64 0] 89) ∧
            (w5.setCell ⟨F + 1, 1, none⟩ (.int .i64 κ)).heap[F + 1]? = some (.cells #[St p2.anchor, .int .i64 p2.tag, .int .i64 p2.tagAt] 89) ∧
            Fr (· = g) F w (w5.setCell ⟨F + 1, 1, none⟩ (.int .i64 κ)) ∧ F + 1 < (w5.setCell ⟨F + 1, 1, none⟩ (.int .i64 κ)).heap.size) := by rw [hp2a, hp2b, hp2c]; exact hB
        clear hp2 hp2a hp2b hp2c hB hAt
        have okX := okn
        clear okn
        have hAt := frd_at g rX
        have hNx := fun cs => frd_next g rX cs (w5.setCell ⟨F + 1, 1, none⟩ (.int .i64 κ)) HB.out.1
        have hN32 := hNx [32]
        have hNfl := hNx [44, 91, 93, 123, 125]
        have hSk0 := fun w' h' => frd_skip g rX 0 (Nat.zero_le _) w' h'
        have hWr := fun w' h' => frd_wrong g rX 3 rX.pos w' h'
        have hSk1 := fun w' h' => frd_skip g (rX.wrong 3 rX.pos) 0 (Nat.zero_le _) w' h'
        have hAt := fun w' h' => frd_at g rX w' h' okX
        obtain ⟨b0, b1, b2, b3, j0, j1, j2, j3⟩ := FRd.At.parts HB.out.1
        have hFg : F ≠ g := by omega
        have hFg1 : F + 1 ≠ g := by omega
        have okA := (FRd.sub_after rX f).ok okX
        have hend : ∀ w9, (rX.after f).At w9 g → Fr (· = g) (w5.setCell ⟨F + 1, 1, none⟩ (.int .i64 κ)).heap.size (w5.setCell ⟨F + 1, 1, none⟩ (.int .i64 κ)) w9 → (∃ n, PropsR g f p' r' F w n w9) ∧ (least fun n => PropsR g f p' r' F w n w9) < n + 1 := fun w9 h9 fr9 => by
          have hR : PropsR g f p' r' F w n w9 := ⟨rX.after f, p2, hm, h9, okA, blk_fr HB.out.2.1 fr9 (blk_lt HB.out.2.1) hFg, blk_fr HB.out.2.2.1 fr9 (blk_lt HB.out.2.2.1) hFg1, HB.out.2.2.2.1.call fr9 (by have := HB.out.2.2.2.2; omega) (fun _ _ h => h), by have := HB.out.2.2.2.2; have := fr9.size; omega⟩
          exact ⟨⟨n, hR⟩, Nat.lt_succ_of_le (least_le hR)⟩
        have HE := Lib.hid hend
        clear hend
        rcases after_cases rX f with ⟨k1, hc⟩ | ⟨k1, k2, hc⟩ | ⟨k1, k2, k3, k4, hc⟩ | ⟨k1, k2, k3, k4, hc⟩ | ⟨k1, k2, k3, hc⟩
        · rw [hc] at HE
          clear hc
          go_wp2_with fail
          refine (hSk0 _ (by exact HB.out.1)).mono ?_
          rintro e w8 ⟨rfl, h5, fr5⟩
          go_wp2_with fail
          exact HE.out _ h5 fr5
        · rw [hc] at HE
          rw [k2] at hN32
          clear hc k2
          go_wp2_with fail
          refine hN32.mono ?_
          rintro e w8 ⟨rfl, rfl⟩
          go_wp2_with fail
          refine (hSk0 _ (by exact HB.out.1)).mono ?_
          rintro e w8 ⟨rfl, h5, fr5⟩
          go_wp2_with fail
          exact HE.out _ h5 fr5
        · rw [hc] at HE
          rw [k2] at hN32
          rw [← flows_eq, k4] at hNfl
          rw [flows_eq] at hNfl
          subst k3
          clear hc k2 k4
          go_wp2_with fail
          refine hN32.mono ?_
          rintro e w8 ⟨rfl, rfl⟩
          go_wp2_with fail
          refine hNfl.mono ?_
          rintro e w8 ⟨rfl, rfl⟩
          go_wp2_with fail
          refine (hSk0 _ (by exact HB.out.1)).mono ?_
          rintro e w8 ⟨rfl, h5, fr5⟩
          go_wp2_with fail
          exact HE.out _ h5 fr5
        · rw [hc] at HE
          rw [k2] at hN32
          rw [← flows_eq, k4] at hNfl
          rw [flows_eq] at hNfl
          subst k3
          clear hc k2 k4
          go_wp2_with fail
          refine hN32.mono ?_
          rintro e w8 ⟨rfl, rfl⟩
          go_wp2_with fail
          refine hNfl.mono ?_
          rintro e w8 ⟨rfl, rfl⟩
          go_wp2_with fail
          refine (hAt _ (by exact HB.out.1)).mono ?_
          rintro e w8 ⟨rfl, n8, rfl⟩
          go_wp2_with fail
          refine (hWr _ (by exact HB.out.1)).mono ?_
          rintro e w6 ⟨rfl, h6, fr6⟩
          go_wp2_with fail
          refine (hSk1 _ (by exact h6)).mono ?_
          rintro e w7 ⟨rfl, h7, fr7⟩
          go_wp2_with fail
          exact HE.out _ h7 ((((Fr.refl _ _ _).drewN n8).call fr6 (Nat.le_refl _) (fun _ _ h => h)).call fr7 fr6.size (fun _ _ h => h))
        · rw [hc] at HE
          rw [k2] at hN32
          subst k3
          clear hc k2
          go_wp2_with fail
          refine hN32.mono ?_
          rintro e w8 ⟨rfl, rfl⟩
          go_wp2_with fail
          refine (hAt _ (by exact HB.out.1)).mono ?_
          rintro e w8 ⟨rfl, n8, rfl⟩
          go_wp2_with fail
          refine (hWr _ (by exact HB.out.1)).mono ?_
          rintro e w6 ⟨rfl, h6, fr6⟩
          go_wp2_with fail
          refine (hSk1 _ (by exact h6)).mono ?_
          rintro e w7 ⟨rfl, h7, fr7⟩
          go_wp2_with fail
          exact HE.out _ h7 ((((Fr.refl _ _ _).drewN n8).call fr6 (Nat.le_refl _) (fun _ _ h => h)).call fr7 fr6.size (fun _ _ h => h))
      · rw [if_neg hb2] at hm
        simp only [Option.some.injEq, Prod.mk.injEq] at hm
        obtain ⟨rfl, rfl⟩ := hm
        by_cases h0 : tag = 0
        · subst h0
          have hn33 : r.next [33] = false := by
            cases hx : r.next [33] with
            | false => rfl
            | true => exact absurd ⟨rfl, hx⟩ hb2
          have hN33 := hN [33]
          rw [hn33] at hN33
          clear hn33 hb2
          obtain ⟨z0, z1, z2, y0, y1, y2⟩ := cells3 HX.out.1
          go_wp2_with fail
          refine hWell.mono ?_
          rintro e w1 ⟨rfl, rfl⟩
          go_wp2_with fail
          refine hN33.mono ?_
          rintro e w2 ⟨rfl, rfl⟩
          go_wp2_with fail
          obtain ⟨hz, hp, hfr, hsz, ok⟩ := HX.out
          have hd := blk_set (i := 2) (v := .int .i64 tagAt) (blk_set (i := 1) (v := .int .i64 0) (blk_set (i := 0) (v := St (xa :: ya)) hz))
          have e0 := blk_cell hd 0
          have e1 := blk_cell hd 1
          have e2 := blk_cell hd 2
          exact bodyPost_ret (v := .agg #[St (xa :: ya), .int .i64 0, .int .i64 tagAt]) (by simp [results, Tryz.results56, go_sem, e0, e1, e2]) rfl
            ⟨rfl, blk_set_ne (blk_set_ne (blk_set_ne HA.out (by simp; omega)) (by simp; omega)) (by simp; omega), by rw [hF]; exact ((hfr.setCell (.inl (Nat.le_refl _)) _).setCell (.inl (Nat.le_refl _)) _).setCell (.inl (Nat.le_refl _)) _⟩
        · have h0B : (tag == 0) = false := by simpa using h0
          clear hb2 h0
          obtain ⟨z0, z1, z2, y0, y1, y2⟩ := cells3 HX.out.1
          go_wp2_with fail
          refine hWell.mono ?_
          rintro e w1 ⟨rfl, rfl⟩
          go_wp2_with fail
          obtain ⟨hz, hp, hfr, hsz, ok⟩ := HX.out
          have hd := blk_set (i := 2) (v := .int .i64 tagAt) (blk_set (i := 1) (v := .int .i64 tag) (blk_set (i := 0) (v := St (xa :: ya)) hz))
          have e0 := blk_cell hd 0
          have e1 := blk_cell hd 1
          have e2 := blk_cell hd 2
          exact bodyPost_ret (v := .agg #[St (xa :: ya), .int .i64 tag, .int .i64 tagAt]) (by simp [results, Tryz.results56, go_sem, e0, e1, e2]) rfl
            ⟨rfl, blk_set_ne (blk_set_ne (blk_set_ne HA.out (by simp; omega)) (by simp; omega)) (by simp; omega), by rw [hF]; exact ((hfr.setCell (.inl (Nat.le_refl _)) _).setCell (.inl (Nat.le_refl _)) _).setCell (.inl (Nat.le_refl _)) _⟩
end Go.Proofs.YtbmonfcahhhdeaaGreatDoor
