/- The walk of flow.put. put's contract; the walk of flow.Write, of a tree that may be. -/
import Derived.Test.YtbmonfcahhhdeaaGreatDoorFW6
set_option linter.unusedVariables false
set_option linter.unusedSimpArgs false
namespace Go.Proofs.YtbmonfcahhhdeaaGreatDoor
open Go.RowKit

/-- put's contract at trees of a size. -/
def PutSpec (m : Nat) : Prop := ∀ (k : Int) (t a : Bs) (kids : List T) (A : Option Addr) (n cp : Nat), SizeOf.sizeOf kids < m → Fit [.mk k t a kids] →
  ∀ (B b : Nat) (l : Bs) (G : Nat) (K : Nat → Prop) (w : World), Env G w → G ≤ B → B ≤ b → (∀ x, K x → x < B) → See w K [.mk k t a kids] [.int .i64 k, St t, St a, .slice A n cp] → Bld 50 B b l w → B ≤ w.heap.size → b < w.heap.size → l.length + (putT (.mk k t a kids)).length ≤ 140737488355328 →
    Calls Tryz.prog 26 #[.pointer (some ⟨b, 0, none⟩), .agg #[.int .i64 k, St t, St a, .slice A n cp]] w fun e w' =>
      e = .returned (.tuple #[]) ∧ Bld 50 B b (l ++ putT (.mk k t a kids)) w' ∧ BFr B b w w'

/-- What stands when put's loop comes to kid i. -/
def PutR (B b : Nat) (m : Bool) (kids : List T) (K : Nat → Prop) (k : Int) (t a : Bs) (A : Option Addr) (n cp : Nat) (TOT : Bs) (G F : Nat) (w : World) (i : Nat) (wr : World) : Prop :=
  ∃ acc, acc ++ putL m (kids.drop i) i = TOT ∧ Bld 50 B b acc wr ∧ wr.heap[F]? = some (.cells #[.int .i64 k, St t, St a, .slice A n cp] 24) ∧
    See wr K [.mk k t a kids] [.int .i64 k, St t, St a, .slice A n cp] ∧ Env G wr ∧ BFr B b w wr

theorem one_B {i : Nat} (h : i % 2 = 1) : ((i : Int) % 2 == 1) = true := by simp; omega
theorem none_B {i : Nat} (h : ¬ i % 2 = 1) : ((i : Int) % 2 == 1) = false := by simp; omega
theorem tree_u8 : (24 : TypeId) ≠ 5 := by decide

set_option maxHeartbeats 16000000 in
set_option maxRecDepth 100000 in
theorem put_step (m : Nat) (ih : PutSpec m) : PutSpec (m + 1) := by
  intro k t a kids A n cp hm hfit B b l G K w he hGB hBb hK hrep hbld hBw hbw hlen
  obtain ⟨F, hF⟩ : ∃ F, w.heap.size = F := ⟨_, rfl⟩
  have hlens : t.length ≤ 4294967296 ∧ a.length ≤ 4294967296 ∧ kids.length ≤ 4294967296 ∧ Fit kids := by
    cases hfit with | cons _ _ _ _ _ h1 h2 h3 h4 h5 => exact ⟨h1, h2, h3, h4⟩
  have hnk : n = kids.length := hrep.count
  have hb1 : Below w.heap.size w (w.alloc (.cells #[.int .i64 k, St t, St a, .slice A n cp] 24)) := (Below.refl _ _).alloc (Nat.le_refl _) _
  have hk1 : (w.alloc (.cells #[.int .i64 k, St t, St a, .slice A n cp] 24)).heap[F]? = some (.cells #[.int .i64 k, St t, St a, .slice A n cp] 24) := by rw [← hF]; exact blk_new _ _
  have hbld1 := hbld.own hb1
  have hrep1 := hrep.under hb1
  have he1 := he.own hb1
  have hbf1 : BFr B b w (w.alloc (.cells #[.int .i64 k, St t, St a, .slice A n cp] 24)) := (BFr.refl B b w).own hb1 hBw
  have hFb : F ≠ b := by omega
  have hs1 : F + 1 = (w.alloc (.cells #[.int .i64 k, St t, St a, .slice A n cp] 24)).heap.size := by rw [World.size_alloc, hF]
  obtain ⟨p0, p1, p2, p3, q0, q1, q2, q3⟩ := cells4 hk1
  have ha1 : ¬ (9223372036854775807 : Nat) < 1 + a.length := by omega
  have ha2 : ¬ (9223372036854775807 : Nat) < 1 + a.length + 1 := by omega
  have H1 := Lib.hid (And.intro hbld1 (And.intro hk1 (And.intro hrep1 (And.intro he1 hbf1))))
  have HL := Lib.hid hlens
  have HNK := Lib.hid hnk
  have HM := Lib.hid hm
  have hWS := fun l' m' w' h hl hw => bld_WriteString bt_builder B b l' m' w' h hl hw
  have hWB := fun l' c' w' h hl hw => bld_WriteByte bt_builder B b l' c' w' h hl hw
  clear he hrep hbld hbld1 hrep1 he1 hbf1 hb1 hk1 hlens hnk hm hfit hs1
  have hP := putT_mk k t a kids
  by_cases h7 : k = 7
  · subst h7
    rw [if_pos rfl] at hP
    have hPl := congrArg List.length hP
    simp only [List.length_cons] at hPl
    rw [hP]
    clear hP ih
    go_enter Tryz.func26, Tryz.ntmps26
    go_wp2_with fail
    refine (hWS l (42 :: a) _ (by exact H1.out.1) (by simp only [List.length_cons]; omega) (by have := H1.out.2.2.2.2.below.size; omega)).mono ?_
    rintro e w3 ⟨rfl, hd3, hf3⟩
    go_wp2_with fail
    exact bodyPost_ret (v := .tuple #[]) (by simp [results, Tryz.results26, go_sem]) rfl ⟨rfl, hd3, H1.out.2.2.2.2.trans hf3⟩
  have h7B : (k == 7) = false := by simpa using h7
  rw [if_neg h7] at hP
  clear h7
  rcases (show (∃ x y, a = x :: y) ∨ a = [] by cases a with | nil => exact .inr rfl | cons x y => exact .inl ⟨x, y, rfl⟩) with ⟨x, y, rfl⟩ | rfl
  · by_cases hk5 : k = 5
    · subst hk5
      rw [if_pos (by simp)] at hP
      rw [if_pos rfl] at hP
      have hPl := congrArg List.length hP
      simp only [List.length_append, List.length_cons, List.length_nil] at hPl
      rw [hP]
      have hTO : (l ++ (38 :: (x :: y) ++ [32])) ++ [91] ++ putL false kids 0 ++ [93] = l ++ putT (.mk 5 t (x :: y) kids) := by rw [hP]; simp [List.append_assoc]
      rw [← hP, ← hTO]
      obtain ⟨TOT, hTOT⟩ : ∃ TOT, TOT = (l ++ (38 :: (x :: y) ++ [32])) ++ [91] ++ putL false kids 0 := ⟨_, rfl⟩
      have hTl : TOT.length + 1 ≤ 140737488355328 := by rw [hTOT]; simp only [List.length_append, List.length_cons, List.length_nil] at *; omega
      rw [← hTOT]
      have HTOT := Lib.hid hTOT.symm
      have hpl : ((l ++ (38 :: (x :: y) ++ [32]))).length + 1 ≤ 140737488355328 := by simp only [List.length_append, List.length_cons, List.length_nil] at *; omega
      clear hP hTO hTOT
      go_enter Tryz.func26, Tryz.ntmps26
      go_wp2_with fail
      refine (hWS l (38 :: (x :: y) ++ [32]) _ (by exact H1.out.1) (by simp only [List.length_append, List.length_cons, List.length_nil] at hPl ⊢; omega) (by have := H1.out.2.2.2.2.below.size; omega)).mono ?_
      rintro e w3 ⟨rfl, hd3, hf3⟩
      have hk3 := hf3.blk H1.out.2.1 hFb tree_u8
      have hr3 := H1.out.2.2.1.keep (fun b' hb hKb => hf3.below.block b' (hK b' hKb)) (fun _ _ h => h)
      have he3 := H1.out.2.2.2.1.below hf3.below hGB
      have hbf3 := H1.out.2.2.2.2.trans hf3
      clear p0 p1 p2 p3 q0 q1 q2 q3
      obtain ⟨p0, p1, p2, p3, q0, q1, q2, q3⟩ := cells4 hk3
      have H2 := Lib.hid (And.intro hd3 (And.intro hk3 (And.intro hr3 (And.intro he3 hbf3))))
      clear hd3 hk3 hr3 he3 hbf3 hf3 H1
      go_wp2_with fail
      refine (hWB (l ++ (38 :: (x :: y) ++ [32])) 91 _ (by exact H2.out.1) hpl (by have := H2.out.2.2.2.2.below.size; omega)).mono ?_
      rintro e w4 ⟨rfl, hd4, hf4⟩
      have hk4 := hf4.blk H2.out.2.1 hFb tree_u8
      have hr4 := H2.out.2.2.1.keep (fun b' hb hKb => hf4.below.block b' (hK b' hKb)) (fun _ _ h => h)
      have he4 := H2.out.2.2.2.1.below hf4.below hGB
      have hbf4 := H2.out.2.2.2.2.trans hf4
      clear p0 p1 p2 p3 q0 q1 q2 q3
      obtain ⟨p0, p1, p2, p3, q0, q1, q2, q3⟩ := cells4 hk4
      have H4 := Lib.hid (And.intro hd4 (And.intro hk4 (And.intro hr4 (And.intro he4 hbf4))))
      clear hd4 hk4 hr4 he4 hbf4 hf4
      go_wp2_with fail
      go_loopw [41] (fun v wr => ∃ i : Nat, v = .int .i64 i ∧ i ≤ n ∧ PutR B b false kids K 5 t (x :: y) A n cp TOT G F w i wr) (fun v _ => n - (intOf v).toNat)
      case atStart => exact ⟨0, rfl, by omega, (l ++ (38 :: (x :: y) ++ [32])) ++ [91], HTOT.out, H4.out.1, H4.out.2.1, H4.out.2.2.1, H4.out.2.2.2.1, H4.out.2.2.2.2⟩
      case round =>
        obtain ⟨i, rfl, hin, acc, hac, hdR, hkR, hrR, heR, hbR⟩ := hrel
        by_cases hi : i < n
        · have hi' : (i : Int) < (n : Int) := by omega
          have hnk := HNK.out
          rcases hdr : kids.drop i with _ | ⟨⟨k', t', a', kids'⟩, rest⟩
          · have := congrArg List.length hdr
            rw [List.length_drop] at this
            simp at this
            omega
          have hmem : T.mk k' t' a' kids' ∈ kids := List.mem_of_mem_drop (by rw [hdr]; exact List.mem_cons_self)
          have hsz := List.sizeOf_lt_of_mem hmem
          have hsz2 : SizeOf.sizeOf kids' < SizeOf.sizeOf (T.mk k' t' a' kids') := by simp; omega
          obtain ⟨bb, o, A', n', cp', rfl, hcells, hrE⟩ := hrR.elem i hdr
          have q0' : wr.cell? ⟨bb, o + i * 4, none⟩ = some (.int .i64 k') := hcells 0 (by decide)
          have q1' : wr.cell? ⟨bb, o + i * 4 + 1, none⟩ = some (St t') := hcells 1 (by decide)
          have q2' : wr.cell? ⟨bb, o + i * 4 + 2, none⟩ = some (St a') := hcells 2 (by decide)
          have q3' : wr.cell? ⟨bb, o + i * 4 + 3, none⟩ = some (.slice A' n' cp') := hcells 3 (by decide)
          have hfitE := HL.out.2.2.2.elem i hdr
          have hrest : kids.drop (i + 1) = rest := by rw [← List.drop_drop, hdr]; rfl
          rw [hdr, putL_cons] at hac
          obtain ⟨J, hJ⟩ : ∃ J, wr.heap.size = J := ⟨_, rfl⟩
          have hbA : Below wr.heap.size wr (wr.alloc (.cells #[.int .i64 k', St t', St a', .slice A' n' cp'] 24)) := (Below.refl _ _).alloc (Nat.le_refl _) _
          have hJF : F < J := by rw [← hJ]; exact blk_lt hkR
          have hkA : (wr.alloc (.cells #[.int .i64 k', St t', St a', .slice A' n' cp'] 24)).heap[F]? = some (.cells #[.int .i64 5, St t, St (x :: y), .slice (some ⟨bb, o, none⟩) n cp] 24) := blk_alloc hkR
          have hjA : (wr.alloc (.cells #[.int .i64 k', St t', St a', .slice A' n' cp'] 24)).heap[J]? = some (.cells #[.int .i64 k', St t', St a', .slice A' n' cp'] 24) := by rw [← hJ]; exact blk_new _ _
          have hJb : J ≠ b := by omega
          have hdA := hdR.own hbA
          have hrA := hrR.under hbA
          have hrEA := hrE.under hbA
          have heA := heR.own hbA
          have hbfA := hbR.own hbA hBw
          have hsA : B ≤ (wr.alloc (.cells #[.int .i64 k', St t', St a', .slice A' n' cp'] 24)).heap.size := by have := hbfA.below.size; omega
          have hbwA : b < (wr.alloc (.cells #[.int .i64 k', St t', St a', .slice A' n' cp'] 24)).heap.size := by have := hbfA.below.size; omega
          have hIh := fun B' b' l' w' he h1 h2 h3 h4 h5 h6 h7 h8 => ih k' t' a' kids' A' n' cp' (by have := HM.out; omega) hfitE B' b' l' G K w' he h1 h2 h3 h4 h5 h6 h7 h8
          obtain ⟨sep, hsep⟩ : ∃ sep, sep = (if false = true ∧ i % 2 = 1 then [58, 32] else if 0 < i then [44, 32] else [] : Bs) := ⟨_, rfl⟩
          rw [← hsep] at hac
          have hal := congrArg List.length hac
          simp only [List.length_append] at hal
          clear p0 p1 p2 p3 q0 q1 q2 q3
          obtain ⟨p0, p1, p2, p3, q0, q1, q2, q3⟩ := cells4 hkA
          obtain ⟨r0, r1, r2, r3, s0, s1, s2, s3⟩ := cells4 hjA
          have HA := Lib.hid (And.intro hdA (And.intro hkA (And.intro hjA (And.intro hrA (And.intro hrEA (And.intro heA hbfA))))))
          have hn4 : n ≤ 4294967296 := by have := HL.out.2.2.1; omega
          have HWI : Hid (IntKind.i64.wrap ((i : Int) + 1) = (i : Int) + 1 ∧ wrap64 ((i : Int) + 1) = (i : Int) + 1) := ⟨wrapK_le (by omega) (Int.le_trans (Int.ofNat_le.2 hi) (Int.ofNat_le.2 hn4)), wrap6_le (by omega) (Int.le_trans (Int.ofNat_le.2 hi) (Int.ofNat_le.2 hn4))⟩
          have HAC := Lib.hid hac
          have HRE := Lib.hid hrest
          have HSZ := Lib.hid (And.intro hsA hbwA)
          have HAL := Lib.hid (show acc.length + sep.length + (putT (.mk k' t' a' kids')).length ≤ 140737488355328 by omega)
          clear hcells hrE hrR heR hdR hkR hjA hdA hbA hrA hrEA heA hbR hkA hac hmem hsz hsz2 hdr hrest hfitE hnk hal hbfA hsA hbwA
          by_cases hi0 : 0 < i
          · have hi0' : (0 : Int) < (i : Int) := by omega
            obtain rfl : sep = [44, 32] := hsep.trans (by rw [if_neg (fun h => absurd h.1 (by decide)), if_pos hi0])
            clear hsep
            go_wp2_with fail
            refine (hWS acc [44, 32] _ (by exact HA.out.1) (by have := HAL.out; omega) HSZ.out.1).mono ?_
            rintro e w6 ⟨rfl, hd6, hf6⟩
            have hk6' := hf6.blk HA.out.2.1 hFb tree_u8
            have hj6 := hf6.blk HA.out.2.2.1 hJb tree_u8
            have hrE6 := HA.out.2.2.2.2.1.keep (fun b' hb hKb => hf6.below.block b' (hK b' hKb)) (fun _ _ h => h)
            have hrr6 := HA.out.2.2.2.1.keep (fun b' hb hKb => hf6.below.block b' (hK b' hKb)) (fun _ _ h => h)
            have he6 := HA.out.2.2.2.2.2.1.below hf6.below hGB
            have hbf6 := HA.out.2.2.2.2.2.2.trans hf6
            clear p0 p1 p2 p3 q0 q1 q2 q3 r0 r1 r2 r3 s0 s1 s2 s3
            obtain ⟨r0, r1, r2, r3, s0, s1, s2, s3⟩ := cells4 hj6
            obtain ⟨p0, p1, p2, p3, q0, q1, q2, q3⟩ := cells4 hk6'
            have H6 := Lib.hid (And.intro hd6 (And.intro hk6' (And.intro hrE6 (And.intro he6 hbf6))))
            have HRR := Lib.hid hrr6
            clear hd6 hk6' hj6 hrE6 hrr6 he6 hbf6 hf6
            go_wp2_with fail
            refine (hIh B b (acc ++ [44, 32]) _ H6.out.2.2.2.1 hGB hBb hK H6.out.2.2.1 (by exact H6.out.1) (by have := H6.out.2.2.2.2.below.size; omega) (by have := H6.out.2.2.2.2.below.size; omega) (by have := HAL.out; rw [List.length_append]; omega)).mono ?_
            rintro e w7 ⟨rfl, hd7, hf7⟩
            have hk7 := hf7.blk H6.out.2.1 hFb tree_u8
            have hr7 := H6.out.2.2.2.2
            have hrr7 := HRR.out.keep (fun b' hb hKb => hf7.below.block b' (hK b' hKb)) (fun _ _ h => h)
            have he7 := H6.out.2.2.2.1.below hf7.below hGB
            have hbf7 := H6.out.2.2.2.2.trans hf7
            have hwi := HWI.out.1
            have hwi2 := HWI.out.2
            have H7 := Lib.hid (And.intro hd7 (And.intro hk7 (And.intro hrr7 (And.intro he7 hbf7))))
            clear hd7 hk7 hrr7 he7 hbf7 hf7 hr7
            go_wp2_with fail
            exact ⟨⟨i + 1, rfl, hi, acc ++ [44, 32] ++ putT (.mk k' t' a' kids'), by rw [HRE.out, ← HAC.out]; simp [List.append_assoc], H7.out.1, H7.out.2.1, H7.out.2.2.1, H7.out.2.2.2.1, H7.out.2.2.2.2⟩, round_less hi⟩
          · have hi0' : ¬ ((0 : Int) < (i : Int)) := by omega
            obtain rfl : sep = [] := hsep.trans (by rw [if_neg (fun h => absurd h.1 (by decide)), if_neg hi0])
            clear hsep
            have H6 : Hid (Bld 50 B b (acc ++ []) (wr.alloc (.cells #[.int .i64 k', St t', St a', .slice A' n' cp'] 24)) ∧ (wr.alloc (.cells #[.int .i64 k', St t', St a', .slice A' n' cp'] 24)).heap[F]? = some (.cells #[.int .i64 5, St t, St (x :: y), .slice (some ⟨bb, o, none⟩) n cp] 24) ∧ See (wr.alloc (.cells #[.int .i64 k', St t', St a', .slice A' n' cp'] 24)) K [.mk k' t' a' kids'] [.int .i64 k', St t', St a', .slice A' n' cp'] ∧ Env G (wr.alloc (.cells #[.int .i64 k', St t', St a', .slice A' n' cp'] 24)) ∧ BFr B b w (wr.alloc (.cells #[.int .i64 k', St t', St a', .slice A' n' cp'] 24))) := ⟨by rw [List.append_nil]; exact HA.out.1, HA.out.2.1, HA.out.2.2.2.2.1, HA.out.2.2.2.2.2.1, HA.out.2.2.2.2.2.2⟩
            have HRR := Lib.hid HA.out.2.2.2.1
            go_wp2_with fail
            refine (hIh B b (acc ++ []) _ H6.out.2.2.2.1 hGB hBb hK H6.out.2.2.1 (by exact H6.out.1) (by have := H6.out.2.2.2.2.below.size; omega) (by have := H6.out.2.2.2.2.below.size; omega) (by have := HAL.out; rw [List.length_append]; omega)).mono ?_
            rintro e w7 ⟨rfl, hd7, hf7⟩
            have hk7 := hf7.blk H6.out.2.1 hFb tree_u8
            have hr7 := H6.out.2.2.2.2
            have hrr7 := HRR.out.keep (fun b' hb hKb => hf7.below.block b' (hK b' hKb)) (fun _ _ h => h)
            have he7 := H6.out.2.2.2.1.below hf7.below hGB
            have hbf7 := H6.out.2.2.2.2.trans hf7
            have hwi := HWI.out.1
            have hwi2 := HWI.out.2
            have H7 := Lib.hid (And.intro hd7 (And.intro hk7 (And.intro hrr7 (And.intro he7 hbf7))))
            clear hd7 hk7 hrr7 he7 hbf7 hf7 hr7
            go_wp2_with fail
            exact ⟨⟨i + 1, rfl, hi, acc ++ [] ++ putT (.mk k' t' a' kids'), by rw [HRE.out, ← HAC.out]; simp [List.append_assoc], H7.out.1, H7.out.2.1, H7.out.2.2.1, H7.out.2.2.2.1, H7.out.2.2.2.2⟩, round_less hi⟩
        · have hi' : ¬ ((i : Int) < (n : Int)) := by omega
          obtain rfl : i = n := by omega
          have hdn : kids.drop i = [] := List.drop_of_length_le (by have := HNK.out; omega)
          rw [hdn] at hac
          have hac' : acc = TOT := by rw [← hac]; simp [putL]
          subst hac'
          have HX := Lib.hid (And.intro hdR hbR)
          clear hrR heR hdR hkR hbR hac
          go_wp2_with fail
          refine (hWB acc 93 _ (by exact HX.out.1) hTl (by have := HX.out.2.below.size; omega)).mono ?_
          rintro e w9 ⟨rfl, hd9, hf9⟩
          go_wp2_with fail
          go_end0
          exact ⟨rfl, hd9, HX.out.2.trans hf9⟩
    by_cases hk6 : k = 6
    · subst hk6
      rw [if_pos (by simp)] at hP
      rw [if_neg (by decide), if_pos rfl] at hP
      have hPl := congrArg List.length hP
      simp only [List.length_append, List.length_cons, List.length_nil] at hPl
      rw [hP]
      have hTO : (l ++ (38 :: (x :: y) ++ [32])) ++ [123] ++ putL true kids 0 ++ [125] = l ++ putT (.mk 6 t (x :: y) kids) := by rw [hP]; simp [List.append_assoc]
      rw [← hP, ← hTO]
      obtain ⟨TOT, hTOT⟩ : ∃ TOT, TOT = (l ++ (38 :: (x :: y) ++ [32])) ++ [123] ++ putL true kids 0 := ⟨_, rfl⟩
      have hTl : TOT.length + 1 ≤ 140737488355328 := by rw [hTOT]; simp only [List.length_append, List.length_cons, List.length_nil] at *; omega
      rw [← hTOT]
      have HTOT := Lib.hid hTOT.symm
      have hpl : ((l ++ (38 :: (x :: y) ++ [32]))).length + 1 ≤ 140737488355328 := by simp only [List.length_append, List.length_cons, List.length_nil] at *; omega
      clear hP hTO hTOT
      go_enter Tryz.func26, Tryz.ntmps26
      go_wp2_with fail
      refine (hWS l (38 :: (x :: y) ++ [32]) _ (by exact H1.out.1) (by simp only [List.length_append, List.length_cons, List.length_nil] at hPl ⊢; omega) (by have := H1.out.2.2.2.2.below.size; omega)).mono ?_
      rintro e w3 ⟨rfl, hd3, hf3⟩
      have hk3 := hf3.blk H1.out.2.1 hFb tree_u8
      have hr3 := H1.out.2.2.1.keep (fun b' hb hKb => hf3.below.block b' (hK b' hKb)) (fun _ _ h => h)
      have he3 := H1.out.2.2.2.1.below hf3.below hGB
      have hbf3 := H1.out.2.2.2.2.trans hf3
      clear p0 p1 p2 p3 q0 q1 q2 q3
      obtain ⟨p0, p1, p2, p3, q0, q1, q2, q3⟩ := cells4 hk3
      have H2 := Lib.hid (And.intro hd3 (And.intro hk3 (And.intro hr3 (And.intro he3 hbf3))))
      clear hd3 hk3 hr3 he3 hbf3 hf3 H1
      go_wp2_with fail
      refine (hWB (l ++ (38 :: (x :: y) ++ [32])) 123 _ (by exact H2.out.1) hpl (by have := H2.out.2.2.2.2.below.size; omega)).mono ?_
      rintro e w4 ⟨rfl, hd4, hf4⟩
      have hk4 := hf4.blk H2.out.2.1 hFb tree_u8
      have hr4 := H2.out.2.2.1.keep (fun b' hb hKb => hf4.below.block b' (hK b' hKb)) (fun _ _ h => h)
      have he4 := H2.out.2.2.2.1.below hf4.below hGB
      have hbf4 := H2.out.2.2.2.2.trans hf4
      clear p0 p1 p2 p3 q0 q1 q2 q3
      obtain ⟨p0, p1, p2, p3, q0, q1, q2, q3⟩ := cells4 hk4
      have H4 := Lib.hid (And.intro hd4 (And.intro hk4 (And.intro hr4 (And.intro he4 hbf4))))
      clear hd4 hk4 hr4 he4 hbf4 hf4
      go_wp2_with fail
      go_loopw [41] (fun v wr => ∃ i : Nat, v = .int .i64 i ∧ i ≤ n ∧ PutR B b true kids K 6 t (x :: y) A n cp TOT G F w i wr) (fun v _ => n - (intOf v).toNat)
      case atStart => exact ⟨0, rfl, by omega, (l ++ (38 :: (x :: y) ++ [32])) ++ [123], HTOT.out, H4.out.1, H4.out.2.1, H4.out.2.2.1, H4.out.2.2.2.1, H4.out.2.2.2.2⟩
      case round =>
        obtain ⟨i, rfl, hin, acc, hac, hdR, hkR, hrR, heR, hbR⟩ := hrel
        by_cases hi : i < n
        · have hi' : (i : Int) < (n : Int) := by omega
          have hnk := HNK.out
          rcases hdr : kids.drop i with _ | ⟨⟨k', t', a', kids'⟩, rest⟩
          · have := congrArg List.length hdr
            rw [List.length_drop] at this
            simp at this
            omega
          have hmem : T.mk k' t' a' kids' ∈ kids := List.mem_of_mem_drop (by rw [hdr]; exact List.mem_cons_self)
          have hsz := List.sizeOf_lt_of_mem hmem
          have hsz2 : SizeOf.sizeOf kids' < SizeOf.sizeOf (T.mk k' t' a' kids') := by simp; omega
          obtain ⟨bb, o, A', n', cp', rfl, hcells, hrE⟩ := hrR.elem i hdr
          have q0' : wr.cell? ⟨bb, o + i * 4, none⟩ = some (.int .i64 k') := hcells 0 (by decide)
          have q1' : wr.cell? ⟨bb, o + i * 4 + 1, none⟩ = some (St t') := hcells 1 (by decide)
          have q2' : wr.cell? ⟨bb, o + i * 4 + 2, none⟩ = some (St a') := hcells 2 (by decide)
          have q3' : wr.cell? ⟨bb, o + i * 4 + 3, none⟩ = some (.slice A' n' cp') := hcells 3 (by decide)
          have hfitE := HL.out.2.2.2.elem i hdr
          have hrest : kids.drop (i + 1) = rest := by rw [← List.drop_drop, hdr]; rfl
          rw [hdr, putL_cons] at hac
          obtain ⟨J, hJ⟩ : ∃ J, wr.heap.size = J := ⟨_, rfl⟩
          have hbA : Below wr.heap.size wr (wr.alloc (.cells #[.int .i64 k', St t', St a', .slice A' n' cp'] 24)) := (Below.refl _ _).alloc (Nat.le_refl _) _
          have hJF : F < J := by rw [← hJ]; exact blk_lt hkR
          have hkA : (wr.alloc (.cells #[.int .i64 k', St t', St a', .slice A' n' cp'] 24)).heap[F]? = some (.cells #[.int .i64 6, St t, St (x :: y), .slice (some ⟨bb, o, none⟩) n cp] 24) := blk_alloc hkR
          have hjA : (wr.alloc (.cells #[.int .i64 k', St t', St a', .slice A' n' cp'] 24)).heap[J]? = some (.cells #[.int .i64 k', St t', St a', .slice A' n' cp'] 24) := by rw [← hJ]; exact blk_new _ _
          have hJb : J ≠ b := by omega
          have hdA := hdR.own hbA
          have hrA := hrR.under hbA
          have hrEA := hrE.under hbA
          have heA := heR.own hbA
          have hbfA := hbR.own hbA hBw
          have hsA : B ≤ (wr.alloc (.cells #[.int .i64 k', St t', St a', .slice A' n' cp'] 24)).heap.size := by have := hbfA.below.size; omega
          have hbwA : b < (wr.alloc (.cells #[.int .i64 k', St t', St a', .slice A' n' cp'] 24)).heap.size := by have := hbfA.below.size; omega
          have hIh := fun B' b' l' w' he h1 h2 h3 h4 h5 h6 h7 h8 => ih k' t' a' kids' A' n' cp' (by have := HM.out; omega) hfitE B' b' l' G K w' he h1 h2 h3 h4 h5 h6 h7 h8
          obtain ⟨sep, hsep⟩ : ∃ sep, sep = (if true = true ∧ i % 2 = 1 then [58, 32] else if 0 < i then [44, 32] else [] : Bs) := ⟨_, rfl⟩
          rw [← hsep] at hac
          have hal := congrArg List.length hac
          simp only [List.length_append] at hal
          clear p0 p1 p2 p3 q0 q1 q2 q3
          obtain ⟨p0, p1, p2, p3, q0, q1, q2, q3⟩ := cells4 hkA
          obtain ⟨r0, r1, r2, r3, s0, s1, s2, s3⟩ := cells4 hjA
          have HA := Lib.hid (And.intro hdA (And.intro hkA (And.intro hjA (And.intro hrA (And.intro hrEA (And.intro heA hbfA))))))
          have hn4 : n ≤ 4294967296 := by have := HL.out.2.2.1; omega
          have HWI : Hid (IntKind.i64.wrap ((i : Int) + 1) = (i : Int) + 1 ∧ wrap64 ((i : Int) + 1) = (i : Int) + 1) := ⟨wrapK_le (by omega) (Int.le_trans (Int.ofNat_le.2 hi) (Int.ofNat_le.2 hn4)), wrap6_le (by omega) (Int.le_trans (Int.ofNat_le.2 hi) (Int.ofNat_le.2 hn4))⟩
          have HAC := Lib.hid hac
          have HRE := Lib.hid hrest
          have HSZ := Lib.hid (And.intro hsA hbwA)
          have HAL := Lib.hid (show acc.length + sep.length + (putT (.mk k' t' a' kids')).length ≤ 140737488355328 by omega)
          clear hcells hrE hrR heR hdR hkR hjA hdA hbA hrA hrEA heA hbR hkA hac hmem hsz hsz2 hdr hrest hfitE hnk hal hbfA hsA hbwA
          by_cases hpar : i % 2 = 1
          · have hpB : ((i : Int) % 2 == 1) = true := one_B hpar
            obtain rfl : sep = [58, 32] := hsep.trans (by rw [if_pos ⟨rfl, hpar⟩])
            clear hsep
            go_wp2_with fail
            refine (hWS acc [58, 32] _ (by exact HA.out.1) (by have := HAL.out; omega) HSZ.out.1).mono ?_
            rintro e w6 ⟨rfl, hd6, hf6⟩
            have hk6' := hf6.blk HA.out.2.1 hFb tree_u8
            have hj6 := hf6.blk HA.out.2.2.1 hJb tree_u8
            have hrE6 := HA.out.2.2.2.2.1.keep (fun b' hb hKb => hf6.below.block b' (hK b' hKb)) (fun _ _ h => h)
            have hrr6 := HA.out.2.2.2.1.keep (fun b' hb hKb => hf6.below.block b' (hK b' hKb)) (fun _ _ h => h)
            have he6 := HA.out.2.2.2.2.2.1.below hf6.below hGB
            have hbf6 := HA.out.2.2.2.2.2.2.trans hf6
            clear p0 p1 p2 p3 q0 q1 q2 q3 r0 r1 r2 r3 s0 s1 s2 s3
            obtain ⟨r0, r1, r2, r3, s0, s1, s2, s3⟩ := cells4 hj6
            obtain ⟨p0, p1, p2, p3, q0, q1, q2, q3⟩ := cells4 hk6'
            have H6 := Lib.hid (And.intro hd6 (And.intro hk6' (And.intro hrE6 (And.intro he6 hbf6))))
            have HRR := Lib.hid hrr6
            clear hd6 hk6' hj6 hrE6 hrr6 he6 hbf6 hf6
            go_wp2_with fail
            refine (hIh B b (acc ++ [58, 32]) _ H6.out.2.2.2.1 hGB hBb hK H6.out.2.2.1 (by exact H6.out.1) (by have := H6.out.2.2.2.2.below.size; omega) (by have := H6.out.2.2.2.2.below.size; omega) (by have := HAL.out; rw [List.length_append]; omega)).mono ?_
            rintro e w7 ⟨rfl, hd7, hf7⟩
            have hk7 := hf7.blk H6.out.2.1 hFb tree_u8
            have hr7 := H6.out.2.2.2.2
            have hrr7 := HRR.out.keep (fun b' hb hKb => hf7.below.block b' (hK b' hKb)) (fun _ _ h => h)
            have he7 := H6.out.2.2.2.1.below hf7.below hGB
            have hbf7 := H6.out.2.2.2.2.trans hf7
            have hwi := HWI.out.1
            have hwi2 := HWI.out.2
            have H7 := Lib.hid (And.intro hd7 (And.intro hk7 (And.intro hrr7 (And.intro he7 hbf7))))
            clear hd7 hk7 hrr7 he7 hbf7 hf7 hr7
            go_wp2_with fail
            exact ⟨⟨i + 1, rfl, hi, acc ++ [58, 32] ++ putT (.mk k' t' a' kids'), by rw [HRE.out, ← HAC.out]; simp [List.append_assoc], H7.out.1, H7.out.2.1, H7.out.2.2.1, H7.out.2.2.2.1, H7.out.2.2.2.2⟩, round_less hi⟩
          · have hpB : ((i : Int) % 2 == 1) = false := none_B hpar
            by_cases hi0 : 0 < i
            · have hi0' : (0 : Int) < (i : Int) := by omega
              obtain rfl : sep = [44, 32] := hsep.trans (by rw [if_neg (fun h => hpar h.2), if_pos hi0])
              clear hsep
              go_wp2_with fail
              refine (hWS acc [44, 32] _ (by exact HA.out.1) (by have := HAL.out; omega) HSZ.out.1).mono ?_
              rintro e w6 ⟨rfl, hd6, hf6⟩
              have hk6' := hf6.blk HA.out.2.1 hFb tree_u8
              have hj6 := hf6.blk HA.out.2.2.1 hJb tree_u8
              have hrE6 := HA.out.2.2.2.2.1.keep (fun b' hb hKb => hf6.below.block b' (hK b' hKb)) (fun _ _ h => h)
              have hrr6 := HA.out.2.2.2.1.keep (fun b' hb hKb => hf6.below.block b' (hK b' hKb)) (fun _ _ h => h)
              have he6 := HA.out.2.2.2.2.2.1.below hf6.below hGB
              have hbf6 := HA.out.2.2.2.2.2.2.trans hf6
              clear p0 p1 p2 p3 q0 q1 q2 q3 r0 r1 r2 r3 s0 s1 s2 s3
              obtain ⟨r0, r1, r2, r3, s0, s1, s2, s3⟩ := cells4 hj6
              obtain ⟨p0, p1, p2, p3, q0, q1, q2, q3⟩ := cells4 hk6'
              have H6 := Lib.hid (And.intro hd6 (And.intro hk6' (And.intro hrE6 (And.intro he6 hbf6))))
              have HRR := Lib.hid hrr6
              clear hd6 hk6' hj6 hrE6 hrr6 he6 hbf6 hf6
              go_wp2_with fail
              refine (hIh B b (acc ++ [44, 32]) _ H6.out.2.2.2.1 hGB hBb hK H6.out.2.2.1 (by exact H6.out.1) (by have := H6.out.2.2.2.2.below.size; omega) (by have := H6.out.2.2.2.2.below.size; omega) (by have := HAL.out; rw [List.length_append]; omega)).mono ?_
              rintro e w7 ⟨rfl, hd7, hf7⟩
              have hk7 := hf7.blk H6.out.2.1 hFb tree_u8
              have hr7 := H6.out.2.2.2.2
              have hrr7 := HRR.out.keep (fun b' hb hKb => hf7.below.block b' (hK b' hKb)) (fun _ _ h => h)
              have he7 := H6.out.2.2.2.1.below hf7.below hGB
              have hbf7 := H6.out.2.2.2.2.trans hf7
              have hwi := HWI.out.1
              have hwi2 := HWI.out.2
              have H7 := Lib.hid (And.intro hd7 (And.intro hk7 (And.intro hrr7 (And.intro he7 hbf7))))
              clear hd7 hk7 hrr7 he7 hbf7 hf7 hr7
              go_wp2_with fail
              exact ⟨⟨i + 1, rfl, hi, acc ++ [44, 32] ++ putT (.mk k' t' a' kids'), by rw [HRE.out, ← HAC.out]; simp [List.append_assoc], H7.out.1, H7.out.2.1, H7.out.2.2.1, H7.out.2.2.2.1, H7.out.2.2.2.2⟩, round_less hi⟩
            · have hi0' : ¬ ((0 : Int) < (i : Int)) := by omega
              obtain rfl : sep = [] := hsep.trans (by rw [if_neg (fun h => hpar h.2), if_neg hi0])
              clear hsep
              have H6 : Hid (Bld 50 B b (acc ++ []) (wr.alloc (.cells #[.int .i64 k', St t', St a', .slice A' n' cp'] 24)) ∧ (wr.alloc (.cells #[.int .i64 k', St t', St a', .slice A' n' cp'] 24)).heap[F]? = some (.cells #[.int .i64 6, St t, St (x :: y), .slice (some ⟨bb, o, none⟩) n cp] 24) ∧ See (wr.alloc (.cells #[.int .i64 k', St t', St a', .slice A' n' cp'] 24)) K [.mk k' t' a' kids'] [.int .i64 k', St t', St a', .slice A' n' cp'] ∧ Env G (wr.alloc (.cells #[.int .i64 k', St t', St a', .slice A' n' cp'] 24)) ∧ BFr B b w (wr.alloc (.cells #[.int .i64 k', St t', St a', .slice A' n' cp'] 24))) := ⟨by rw [List.append_nil]; exact HA.out.1, HA.out.2.1, HA.out.2.2.2.2.1, HA.out.2.2.2.2.2.1, HA.out.2.2.2.2.2.2⟩
              have HRR := Lib.hid HA.out.2.2.2.1
              go_wp2_with fail
              refine (hIh B b (acc ++ []) _ H6.out.2.2.2.1 hGB hBb hK H6.out.2.2.1 (by exact H6.out.1) (by have := H6.out.2.2.2.2.below.size; omega) (by have := H6.out.2.2.2.2.below.size; omega) (by have := HAL.out; rw [List.length_append]; omega)).mono ?_
              rintro e w7 ⟨rfl, hd7, hf7⟩
              have hk7 := hf7.blk H6.out.2.1 hFb tree_u8
              have hr7 := H6.out.2.2.2.2
              have hrr7 := HRR.out.keep (fun b' hb hKb => hf7.below.block b' (hK b' hKb)) (fun _ _ h => h)
              have he7 := H6.out.2.2.2.1.below hf7.below hGB
              have hbf7 := H6.out.2.2.2.2.trans hf7
              have hwi := HWI.out.1
              have hwi2 := HWI.out.2
              have H7 := Lib.hid (And.intro hd7 (And.intro hk7 (And.intro hrr7 (And.intro he7 hbf7))))
              clear hd7 hk7 hrr7 he7 hbf7 hf7 hr7
              go_wp2_with fail
              exact ⟨⟨i + 1, rfl, hi, acc ++ [] ++ putT (.mk k' t' a' kids'), by rw [HRE.out, ← HAC.out]; simp [List.append_assoc], H7.out.1, H7.out.2.1, H7.out.2.2.1, H7.out.2.2.2.1, H7.out.2.2.2.2⟩, round_less hi⟩
        · have hi' : ¬ ((i : Int) < (n : Int)) := by omega
          obtain rfl : i = n := by omega
          have hdn : kids.drop i = [] := List.drop_of_length_le (by have := HNK.out; omega)
          rw [hdn] at hac
          have hac' : acc = TOT := by rw [← hac]; simp [putL]
          subst hac'
          have HX := Lib.hid (And.intro hdR hbR)
          clear hrR heR hdR hkR hbR hac
          go_wp2_with fail
          refine (hWB acc 125 _ (by exact HX.out.1) hTl (by have := HX.out.2.below.size; omega)).mono ?_
          rintro e w9 ⟨rfl, hd9, hf9⟩
          go_wp2_with fail
          go_end0
          exact ⟨rfl, hd9, HX.out.2.trans hf9⟩
    rw [if_pos (by simp)] at hP
    rw [if_neg hk5, if_neg hk6] at hP
    have b5 : (k == 5) = false := by simpa using hk5
    have b6 : (k == 6) = false := by simpa using hk6
    clear hk5 hk6 ih
    have hPl := congrArg List.length hP
    simp only [List.length_append, List.length_cons, List.length_nil] at hPl
    rw [hP]
    go_enter Tryz.func26, Tryz.ntmps26
    go_wp2_with fail
    refine (hWS l (38 :: (x :: y) ++ [32]) _ (by exact H1.out.1) (by simp only [List.length_append, List.length_cons, List.length_nil] at hPl ⊢; omega) (by have := H1.out.2.2.2.2.below.size; omega)).mono ?_
    rintro e w3 ⟨rfl, hd3, hf3⟩
    have hk3 := hf3.blk H1.out.2.1 hFb tree_u8
    have hr3 := H1.out.2.2.1.keep (fun b' hb hKb => hf3.below.block b' (hK b' hKb)) (fun _ _ h => h)
    have he3 := H1.out.2.2.2.1.below hf3.below hGB
    have hbf3 := H1.out.2.2.2.2.trans hf3
    clear p0 p1 p2 p3 q0 q1 q2 q3
    obtain ⟨p0, p1, p2, p3, q0, q1, q2, q3⟩ := cells4 hk3
    have H2 := Lib.hid (And.intro hd3 (And.intro hk3 (And.intro hr3 (And.intro he3 hbf3))))
    clear hd3 hk3 hr3 he3 hbf3 hf3 H1
    go_wp2_with fail
    refine (flow_Scalar k t (x :: y) A n cp true HL.out.1 G _ (by exact H2.out.2.2.2.1)).mono ?_
    rintro e w4 ⟨rfl, hb4⟩
    go_wp2_with fail
    refine (hWS (l ++ (38 :: (x :: y) ++ [32])) (scalarS k t true) _ (by exact H2.out.1.own hb4) (by simp only [List.length_append, List.length_cons, List.length_nil] at *; omega) (by have := H2.out.2.2.2.2.below.size; have := hb4.size; omega)).mono ?_
    rintro e w5 ⟨rfl, hd5, hf5⟩
    go_wp2_with fail
    exact bodyPost_ret (v := .tuple #[]) (by simp [results, Tryz.results26, go_sem]) rfl ⟨rfl, by simpa [List.append_assoc] using hd5, (H2.out.2.2.2.2.own hb4 hBw).trans hf5⟩
  · by_cases hk5 : k = 5
    · subst hk5
      rw [if_neg (by simp)] at hP
      rw [if_pos rfl] at hP
      have hPl := congrArg List.length hP
      simp only [List.length_append, List.length_cons, List.length_nil] at hPl
      rw [hP]
      have hTO : l ++ [91] ++ putL false kids 0 ++ [93] = l ++ putT (.mk 5 t [] kids) := by rw [hP]; simp [List.append_assoc]
      rw [← hP, ← hTO]
      obtain ⟨TOT, hTOT⟩ : ∃ TOT, TOT = l ++ [91] ++ putL false kids 0 := ⟨_, rfl⟩
      have hTl : TOT.length + 1 ≤ 140737488355328 := by rw [hTOT]; simp only [List.length_append, List.length_cons, List.length_nil] at *; omega
      rw [← hTOT]
      have HTOT := Lib.hid hTOT.symm
      have hpl : (l).length + 1 ≤ 140737488355328 := by simp only [List.length_append, List.length_cons, List.length_nil] at *; omega
      clear hP hTO hTOT
      go_enter Tryz.func26, Tryz.ntmps26
      go_wp2_with fail
      have H2 := H1
      refine (hWB l 91 _ (by exact H2.out.1) hpl (by have := H2.out.2.2.2.2.below.size; omega)).mono ?_
      rintro e w4 ⟨rfl, hd4, hf4⟩
      have hk4 := hf4.blk H2.out.2.1 hFb tree_u8
      have hr4 := H2.out.2.2.1.keep (fun b' hb hKb => hf4.below.block b' (hK b' hKb)) (fun _ _ h => h)
      have he4 := H2.out.2.2.2.1.below hf4.below hGB
      have hbf4 := H2.out.2.2.2.2.trans hf4
      clear p0 p1 p2 p3 q0 q1 q2 q3
      obtain ⟨p0, p1, p2, p3, q0, q1, q2, q3⟩ := cells4 hk4
      have H4 := Lib.hid (And.intro hd4 (And.intro hk4 (And.intro hr4 (And.intro he4 hbf4))))
      clear hd4 hk4 hr4 he4 hbf4 hf4
      go_wp2_with fail
      go_loopw [41] (fun v wr => ∃ i : Nat, v = .int .i64 i ∧ i ≤ n ∧ PutR B b false kids K 5 t [] A n cp TOT G F w i wr) (fun v _ => n - (intOf v).toNat)
      case atStart => exact ⟨0, rfl, by omega, l ++ [91], HTOT.out, H4.out.1, H4.out.2.1, H4.out.2.2.1, H4.out.2.2.2.1, H4.out.2.2.2.2⟩
      case round =>
        obtain ⟨i, rfl, hin, acc, hac, hdR, hkR, hrR, heR, hbR⟩ := hrel
        by_cases hi : i < n
        · have hi' : (i : Int) < (n : Int) := by omega
          have hnk := HNK.out
          rcases hdr : kids.drop i with _ | ⟨⟨k', t', a', kids'⟩, rest⟩
          · have := congrArg List.length hdr
            rw [List.length_drop] at this
            simp at this
            omega
          have hmem : T.mk k' t' a' kids' ∈ kids := List.mem_of_mem_drop (by rw [hdr]; exact List.mem_cons_self)
          have hsz := List.sizeOf_lt_of_mem hmem
          have hsz2 : SizeOf.sizeOf kids' < SizeOf.sizeOf (T.mk k' t' a' kids') := by simp; omega
          obtain ⟨bb, o, A', n', cp', rfl, hcells, hrE⟩ := hrR.elem i hdr
          have q0' : wr.cell? ⟨bb, o + i * 4, none⟩ = some (.int .i64 k') := hcells 0 (by decide)
          have q1' : wr.cell? ⟨bb, o + i * 4 + 1, none⟩ = some (St t') := hcells 1 (by decide)
          have q2' : wr.cell? ⟨bb, o + i * 4 + 2, none⟩ = some (St a') := hcells 2 (by decide)
          have q3' : wr.cell? ⟨bb, o + i * 4 + 3, none⟩ = some (.slice A' n' cp') := hcells 3 (by decide)
          have hfitE := HL.out.2.2.2.elem i hdr
          have hrest : kids.drop (i + 1) = rest := by rw [← List.drop_drop, hdr]; rfl
          rw [hdr, putL_cons] at hac
          obtain ⟨J, hJ⟩ : ∃ J, wr.heap.size = J := ⟨_, rfl⟩
          have hbA : Below wr.heap.size wr (wr.alloc (.cells #[.int .i64 k', St t', St a', .slice A' n' cp'] 24)) := (Below.refl _ _).alloc (Nat.le_refl _) _
          have hJF : F < J := by rw [← hJ]; exact blk_lt hkR
          have hkA : (wr.alloc (.cells #[.int .i64 k', St t', St a', .slice A' n' cp'] 24)).heap[F]? = some (.cells #[.int .i64 5, St t, St [], .slice (some ⟨bb, o, none⟩) n cp] 24) := blk_alloc hkR
          have hjA : (wr.alloc (.cells #[.int .i64 k', St t', St a', .slice A' n' cp'] 24)).heap[J]? = some (.cells #[.int .i64 k', St t', St a', .slice A' n' cp'] 24) := by rw [← hJ]; exact blk_new _ _
          have hJb : J ≠ b := by omega
          have hdA := hdR.own hbA
          have hrA := hrR.under hbA
          have hrEA := hrE.under hbA
          have heA := heR.own hbA
          have hbfA := hbR.own hbA hBw
          have hsA : B ≤ (wr.alloc (.cells #[.int .i64 k', St t', St a', .slice A' n' cp'] 24)).heap.size := by have := hbfA.below.size; omega
          have hbwA : b < (wr.alloc (.cells #[.int .i64 k', St t', St a', .slice A' n' cp'] 24)).heap.size := by have := hbfA.below.size; omega
          have hIh := fun B' b' l' w' he h1 h2 h3 h4 h5 h6 h7 h8 => ih k' t' a' kids' A' n' cp' (by have := HM.out; omega) hfitE B' b' l' G K w' he h1 h2 h3 h4 h5 h6 h7 h8
          obtain ⟨sep, hsep⟩ : ∃ sep, sep = (if false = true ∧ i % 2 = 1 then [58, 32] else if 0 < i then [44, 32] else [] : Bs) := ⟨_, rfl⟩
          rw [← hsep] at hac
          have hal := congrArg List.length hac
          simp only [List.length_append] at hal
          clear p0 p1 p2 p3 q0 q1 q2 q3
          obtain ⟨p0, p1, p2, p3, q0, q1, q2, q3⟩ := cells4 hkA
          obtain ⟨r0, r1, r2, r3, s0, s1, s2, s3⟩ := cells4 hjA
          have HA := Lib.hid (And.intro hdA (And.intro hkA (And.intro hjA (And.intro hrA (And.intro hrEA (And.intro heA hbfA))))))
          have hn4 : n ≤ 4294967296 := by have := HL.out.2.2.1; omega
          have HWI : Hid (IntKind.i64.wrap ((i : Int) + 1) = (i : Int) + 1 ∧ wrap64 ((i : Int) + 1) = (i : Int) + 1) := ⟨wrapK_le (by omega) (Int.le_trans (Int.ofNat_le.2 hi) (Int.ofNat_le.2 hn4)), wrap6_le (by omega) (Int.le_trans (Int.ofNat_le.2 hi) (Int.ofNat_le.2 hn4))⟩
          have HAC := Lib.hid hac
          have HRE := Lib.hid hrest
          have HSZ := Lib.hid (And.intro hsA hbwA)
          have HAL := Lib.hid (show acc.length + sep.length + (putT (.mk k' t' a' kids')).length ≤ 140737488355328 by omega)
          clear hcells hrE hrR heR hdR hkR hjA hdA hbA hrA hrEA heA hbR hkA hac hmem hsz hsz2 hdr hrest hfitE hnk hal hbfA hsA hbwA
          by_cases hi0 : 0 < i
          · have hi0' : (0 : Int) < (i : Int) := by omega
            obtain rfl : sep = [44, 32] := hsep.trans (by rw [if_neg (fun h => absurd h.1 (by decide)), if_pos hi0])
            clear hsep
            go_wp2_with fail
            refine (hWS acc [44, 32] _ (by exact HA.out.1) (by have := HAL.out; omega) HSZ.out.1).mono ?_
            rintro e w6 ⟨rfl, hd6, hf6⟩
            have hk6' := hf6.blk HA.out.2.1 hFb tree_u8
            have hj6 := hf6.blk HA.out.2.2.1 hJb tree_u8
            have hrE6 := HA.out.2.2.2.2.1.keep (fun b' hb hKb => hf6.below.block b' (hK b' hKb)) (fun _ _ h => h)
            have hrr6 := HA.out.2.2.2.1.keep (fun b' hb hKb => hf6.below.block b' (hK b' hKb)) (fun _ _ h => h)
            have he6 := HA.out.2.2.2.2.2.1.below hf6.below hGB
            have hbf6 := HA.out.2.2.2.2.2.2.trans hf6
            clear p0 p1 p2 p3 q0 q1 q2 q3 r0 r1 r2 r3 s0 s1 s2 s3
            obtain ⟨r0, r1, r2, r3, s0, s1, s2, s3⟩ := cells4 hj6
            obtain ⟨p0, p1, p2, p3, q0, q1, q2, q3⟩ := cells4 hk6'
            have H6 := Lib.hid (And.intro hd6 (And.intro hk6' (And.intro hrE6 (And.intro he6 hbf6))))
            have HRR := Lib.hid hrr6
            clear hd6 hk6' hj6 hrE6 hrr6 he6 hbf6 hf6
            go_wp2_with fail
            refine (hIh B b (acc ++ [44, 32]) _ H6.out.2.2.2.1 hGB hBb hK H6.out.2.2.1 (by exact H6.out.1) (by have := H6.out.2.2.2.2.below.size; omega) (by have := H6.out.2.2.2.2.below.size; omega) (by have := HAL.out; rw [List.length_append]; omega)).mono ?_
            rintro e w7 ⟨rfl, hd7, hf7⟩
            have hk7 := hf7.blk H6.out.2.1 hFb tree_u8
            have hr7 := H6.out.2.2.2.2
            have hrr7 := HRR.out.keep (fun b' hb hKb => hf7.below.block b' (hK b' hKb)) (fun _ _ h => h)
            have he7 := H6.out.2.2.2.1.below hf7.below hGB
            have hbf7 := H6.out.2.2.2.2.trans hf7
            have hwi := HWI.out.1
            have hwi2 := HWI.out.2
            have H7 := Lib.hid (And.intro hd7 (And.intro hk7 (And.intro hrr7 (And.intro he7 hbf7))))
            clear hd7 hk7 hrr7 he7 hbf7 hf7 hr7
            go_wp2_with fail
            exact ⟨⟨i + 1, rfl, hi, acc ++ [44, 32] ++ putT (.mk k' t' a' kids'), by rw [HRE.out, ← HAC.out]; simp [List.append_assoc], H7.out.1, H7.out.2.1, H7.out.2.2.1, H7.out.2.2.2.1, H7.out.2.2.2.2⟩, round_less hi⟩
          · have hi0' : ¬ ((0 : Int) < (i : Int)) := by omega
            obtain rfl : sep = [] := hsep.trans (by rw [if_neg (fun h => absurd h.1 (by decide)), if_neg hi0])
            clear hsep
            have H6 : Hid (Bld 50 B b (acc ++ []) (wr.alloc (.cells #[.int .i64 k', St t', St a', .slice A' n' cp'] 24)) ∧ (wr.alloc (.cells #[.int .i64 k', St t', St a', .slice A' n' cp'] 24)).heap[F]? = some (.cells #[.int .i64 5, St t, St [], .slice (some ⟨bb, o, none⟩) n cp] 24) ∧ See (wr.alloc (.cells #[.int .i64 k', St t', St a', .slice A' n' cp'] 24)) K [.mk k' t' a' kids'] [.int .i64 k', St t', St a', .slice A' n' cp'] ∧ Env G (wr.alloc (.cells #[.int .i64 k', St t', St a', .slice A' n' cp'] 24)) ∧ BFr B b w (wr.alloc (.cells #[.int .i64 k', St t', St a', .slice A' n' cp'] 24))) := ⟨by rw [List.append_nil]; exact HA.out.1, HA.out.2.1, HA.out.2.2.2.2.1, HA.out.2.2.2.2.2.1, HA.out.2.2.2.2.2.2⟩
            have HRR := Lib.hid HA.out.2.2.2.1
            go_wp2_with fail
            refine (hIh B b (acc ++ []) _ H6.out.2.2.2.1 hGB hBb hK H6.out.2.2.1 (by exact H6.out.1) (by have := H6.out.2.2.2.2.below.size; omega) (by have := H6.out.2.2.2.2.below.size; omega) (by have := HAL.out; rw [List.length_append]; omega)).mono ?_
            rintro e w7 ⟨rfl, hd7, hf7⟩
            have hk7 := hf7.blk H6.out.2.1 hFb tree_u8
            have hr7 := H6.out.2.2.2.2
            have hrr7 := HRR.out.keep (fun b' hb hKb => hf7.below.block b' (hK b' hKb)) (fun _ _ h => h)
            have he7 := H6.out.2.2.2.1.below hf7.below hGB
            have hbf7 := H6.out.2.2.2.2.trans hf7
            have hwi := HWI.out.1
            have hwi2 := HWI.out.2
            have H7 := Lib.hid (And.intro hd7 (And.intro hk7 (And.intro hrr7 (And.intro he7 hbf7))))
            clear hd7 hk7 hrr7 he7 hbf7 hf7 hr7
            go_wp2_with fail
            exact ⟨⟨i + 1, rfl, hi, acc ++ [] ++ putT (.mk k' t' a' kids'), by rw [HRE.out, ← HAC.out]; simp [List.append_assoc], H7.out.1, H7.out.2.1, H7.out.2.2.1, H7.out.2.2.2.1, H7.out.2.2.2.2⟩, round_less hi⟩
        · have hi' : ¬ ((i : Int) < (n : Int)) := by omega
          obtain rfl : i = n := by omega
          have hdn : kids.drop i = [] := List.drop_of_length_le (by have := HNK.out; omega)
          rw [hdn] at hac
          have hac' : acc = TOT := by rw [← hac]; simp [putL]
          subst hac'
          have HX := Lib.hid (And.intro hdR hbR)
          clear hrR heR hdR hkR hbR hac
          go_wp2_with fail
          refine (hWB acc 93 _ (by exact HX.out.1) hTl (by have := HX.out.2.below.size; omega)).mono ?_
          rintro e w9 ⟨rfl, hd9, hf9⟩
          go_wp2_with fail
          go_end0
          exact ⟨rfl, hd9, HX.out.2.trans hf9⟩
    by_cases hk6 : k = 6
    · subst hk6
      rw [if_neg (by simp)] at hP
      rw [if_neg (by decide), if_pos rfl] at hP
      have hPl := congrArg List.length hP
      simp only [List.length_append, List.length_cons, List.length_nil] at hPl
      rw [hP]
      have hTO : l ++ [123] ++ putL true kids 0 ++ [125] = l ++ putT (.mk 6 t [] kids) := by rw [hP]; simp [List.append_assoc]
      rw [← hP, ← hTO]
      obtain ⟨TOT, hTOT⟩ : ∃ TOT, TOT = l ++ [123] ++ putL true kids 0 := ⟨_, rfl⟩
      have hTl : TOT.length + 1 ≤ 140737488355328 := by rw [hTOT]; simp only [List.length_append, List.length_cons, List.length_nil] at *; omega
      rw [← hTOT]
      have HTOT := Lib.hid hTOT.symm
      have hpl : (l).length + 1 ≤ 140737488355328 := by simp only [List.length_append, List.length_cons, List.length_nil] at *; omega
      clear hP hTO hTOT
      go_enter Tryz.func26, Tryz.ntmps26
      go_wp2_with fail
      have H2 := H1
      refine (hWB l 123 _ (by exact H2.out.1) hpl (by have := H2.out.2.2.2.2.below.size; omega)).mono ?_
      rintro e w4 ⟨rfl, hd4, hf4⟩
      have hk4 := hf4.blk H2.out.2.1 hFb tree_u8
      have hr4 := H2.out.2.2.1.keep (fun b' hb hKb => hf4.below.block b' (hK b' hKb)) (fun _ _ h => h)
      have he4 := H2.out.2.2.2.1.below hf4.below hGB
      have hbf4 := H2.out.2.2.2.2.trans hf4
      clear p0 p1 p2 p3 q0 q1 q2 q3
      obtain ⟨p0, p1, p2, p3, q0, q1, q2, q3⟩ := cells4 hk4
      have H4 := Lib.hid (And.intro hd4 (And.intro hk4 (And.intro hr4 (And.intro he4 hbf4))))
      clear hd4 hk4 hr4 he4 hbf4 hf4
      go_wp2_with fail
      go_loopw [41] (fun v wr => ∃ i : Nat, v = .int .i64 i ∧ i ≤ n ∧ PutR B b true kids K 6 t [] A n cp TOT G F w i wr) (fun v _ => n - (intOf v).toNat)
      case atStart => exact ⟨0, rfl, by omega, l ++ [123], HTOT.out, H4.out.1, H4.out.2.1, H4.out.2.2.1, H4.out.2.2.2.1, H4.out.2.2.2.2⟩
      case round =>
        obtain ⟨i, rfl, hin, acc, hac, hdR, hkR, hrR, heR, hbR⟩ := hrel
        by_cases hi : i < n
        · have hi' : (i : Int) < (n : Int) := by omega
          have hnk := HNK.out
          rcases hdr : kids.drop i with _ | ⟨⟨k', t', a', kids'⟩, rest⟩
          · have := congrArg List.length hdr
            rw [List.length_drop] at this
            simp at this
            omega
          have hmem : T.mk k' t' a' kids' ∈ kids := List.mem_of_mem_drop (by rw [hdr]; exact List.mem_cons_self)
          have hsz := List.sizeOf_lt_of_mem hmem
          have hsz2 : SizeOf.sizeOf kids' < SizeOf.sizeOf (T.mk k' t' a' kids') := by simp; omega
          obtain ⟨bb, o, A', n', cp', rfl, hcells, hrE⟩ := hrR.elem i hdr
          have q0' : wr.cell? ⟨bb, o + i * 4, none⟩ = some (.int .i64 k') := hcells 0 (by decide)
          have q1' : wr.cell? ⟨bb, o + i * 4 + 1, none⟩ = some (St t') := hcells 1 (by decide)
          have q2' : wr.cell? ⟨bb, o + i * 4 + 2, none⟩ = some (St a') := hcells 2 (by decide)
          have q3' : wr.cell? ⟨bb, o + i * 4 + 3, none⟩ = some (.slice A' n' cp') := hcells 3 (by decide)
          have hfitE := HL.out.2.2.2.elem i hdr
          have hrest : kids.drop (i + 1) = rest := by rw [← List.drop_drop, hdr]; rfl
          rw [hdr, putL_cons] at hac
          obtain ⟨J, hJ⟩ : ∃ J, wr.heap.size = J := ⟨_, rfl⟩
          have hbA : Below wr.heap.size wr (wr.alloc (.cells #[.int .i64 k', St t', St a', .slice A' n' cp'] 24)) := (Below.refl _ _).alloc (Nat.le_refl _) _
          have hJF : F < J := by rw [← hJ]; exact blk_lt hkR
          have hkA : (wr.alloc (.cells #[.int .i64 k', St t', St a', .slice A' n' cp'] 24)).heap[F]? = some (.cells #[.int .i64 6, St t, St [], .slice (some ⟨bb, o, none⟩) n cp] 24) := blk_alloc hkR
          have hjA : (wr.alloc (.cells #[.int .i64 k', St t', St a', .slice A' n' cp'] 24)).heap[J]? = some (.cells #[.int .i64 k', St t', St a', .slice A' n' cp'] 24) := by rw [← hJ]; exact blk_new _ _
          have hJb : J ≠ b := by omega
          have hdA := hdR.own hbA
          have hrA := hrR.under hbA
          have hrEA := hrE.under hbA
          have heA := heR.own hbA
          have hbfA := hbR.own hbA hBw
          have hsA : B ≤ (wr.alloc (.cells #[.int .i64 k', St t', St a', .slice A' n' cp'] 24)).heap.size := by have := hbfA.below.size; omega
          have hbwA : b < (wr.alloc (.cells #[.int .i64 k', St t', St a', .slice A' n' cp'] 24)).heap.size := by have := hbfA.below.size; omega
          have hIh := fun B' b' l' w' he h1 h2 h3 h4 h5 h6 h7 h8 => ih k' t' a' kids' A' n' cp' (by have := HM.out; omega) hfitE B' b' l' G K w' he h1 h2 h3 h4 h5 h6 h7 h8
          obtain ⟨sep, hsep⟩ : ∃ sep, sep = (if true = true ∧ i % 2 = 1 then [58, 32] else if 0 < i then [44, 32] else [] : Bs) := ⟨_, rfl⟩
          rw [← hsep] at hac
          have hal := congrArg List.length hac
          simp only [List.length_append] at hal
          clear p0 p1 p2 p3 q0 q1 q2 q3
          obtain ⟨p0, p1, p2, p3, q0, q1, q2, q3⟩ := cells4 hkA
          obtain ⟨r0, r1, r2, r3, s0, s1, s2, s3⟩ := cells4 hjA
          have HA := Lib.hid (And.intro hdA (And.intro hkA (And.intro hjA (And.intro hrA (And.intro hrEA (And.intro heA hbfA))))))
          have hn4 : n ≤ 4294967296 := by have := HL.out.2.2.1; omega
          have HWI : Hid (IntKind.i64.wrap ((i : Int) + 1) = (i : Int) + 1 ∧ wrap64 ((i : Int) + 1) = (i : Int) + 1) := ⟨wrapK_le (by omega) (Int.le_trans (Int.ofNat_le.2 hi) (Int.ofNat_le.2 hn4)), wrap6_le (by omega) (Int.le_trans (Int.ofNat_le.2 hi) (Int.ofNat_le.2 hn4))⟩
          have HAC := Lib.hid hac
          have HRE := Lib.hid hrest
          have HSZ := Lib.hid (And.intro hsA hbwA)
          have HAL := Lib.hid (show acc.length + sep.length + (putT (.mk k' t' a' kids')).length ≤ 140737488355328 by omega)
          clear hcells hrE hrR heR hdR hkR hjA hdA hbA hrA hrEA heA hbR hkA hac hmem hsz hsz2 hdr hrest hfitE hnk hal hbfA hsA hbwA
          by_cases hpar : i % 2 = 1
          · have hpB : ((i : Int) % 2 == 1) = true := one_B hpar
            obtain rfl : sep = [58, 32] := hsep.trans (by rw [if_pos ⟨rfl, hpar⟩])
            clear hsep
            go_wp2_with fail
            refine (hWS acc [58, 32] _ (by exact HA.out.1) (by have := HAL.out; omega) HSZ.out.1).mono ?_
            rintro e w6 ⟨rfl, hd6, hf6⟩
            have hk6' := hf6.blk HA.out.2.1 hFb tree_u8
            have hj6 := hf6.blk HA.out.2.2.1 hJb tree_u8
            have hrE6 := HA.out.2.2.2.2.1.keep (fun b' hb hKb => hf6.below.block b' (hK b' hKb)) (fun _ _ h => h)
            have hrr6 := HA.out.2.2.2.1.keep (fun b' hb hKb => hf6.below.block b' (hK b' hKb)) (fun _ _ h => h)
            have he6 := HA.out.2.2.2.2.2.1.below hf6.below hGB
            have hbf6 := HA.out.2.2.2.2.2.2.trans hf6
            clear p0 p1 p2 p3 q0 q1 q2 q3 r0 r1 r2 r3 s0 s1 s2 s3
            obtain ⟨r0, r1, r2, r3, s0, s1, s2, s3⟩ := cells4 hj6
            obtain ⟨p0, p1, p2, p3, q0, q1, q2, q3⟩ := cells4 hk6'
            have H6 := Lib.hid (And.intro hd6 (And.intro hk6' (And.intro hrE6 (And.intro he6 hbf6))))
            have HRR := Lib.hid hrr6
            clear hd6 hk6' hj6 hrE6 hrr6 he6 hbf6 hf6
            go_wp2_with fail
            refine (hIh B b (acc ++ [58, 32]) _ H6.out.2.2.2.1 hGB hBb hK H6.out.2.2.1 (by exact H6.out.1) (by have := H6.out.2.2.2.2.below.size; omega) (by have := H6.out.2.2.2.2.below.size; omega) (by have := HAL.out; rw [List.length_append]; omega)).mono ?_
            rintro e w7 ⟨rfl, hd7, hf7⟩
            have hk7 := hf7.blk H6.out.2.1 hFb tree_u8
            have hr7 := H6.out.2.2.2.2
            have hrr7 := HRR.out.keep (fun b' hb hKb => hf7.below.block b' (hK b' hKb)) (fun _ _ h => h)
            have he7 := H6.out.2.2.2.1.below hf7.below hGB
            have hbf7 := H6.out.2.2.2.2.trans hf7
            have hwi := HWI.out.1
            have hwi2 := HWI.out.2
            have H7 := Lib.hid (And.intro hd7 (And.intro hk7 (And.intro hrr7 (And.intro he7 hbf7))))
            clear hd7 hk7 hrr7 he7 hbf7 hf7 hr7
            go_wp2_with fail
            exact ⟨⟨i + 1, rfl, hi, acc ++ [58, 32] ++ putT (.mk k' t' a' kids'), by rw [HRE.out, ← HAC.out]; simp [List.append_assoc], H7.out.1, H7.out.2.1, H7.out.2.2.1, H7.out.2.2.2.1, H7.out.2.2.2.2⟩, round_less hi⟩
          · have hpB : ((i : Int) % 2 == 1) = false := none_B hpar
            by_cases hi0 : 0 < i
            · have hi0' : (0 : Int) < (i : Int) := by omega
              obtain rfl : sep = [44, 32] := hsep.trans (by rw [if_neg (fun h => hpar h.2), if_pos hi0])
              clear hsep
              go_wp2_with fail
              refine (hWS acc [44, 32] _ (by exact HA.out.1) (by have := HAL.out; omega) HSZ.out.1).mono ?_
              rintro e w6 ⟨rfl, hd6, hf6⟩
              have hk6' := hf6.blk HA.out.2.1 hFb tree_u8
              have hj6 := hf6.blk HA.out.2.2.1 hJb tree_u8
              have hrE6 := HA.out.2.2.2.2.1.keep (fun b' hb hKb => hf6.below.block b' (hK b' hKb)) (fun _ _ h => h)
              have hrr6 := HA.out.2.2.2.1.keep (fun b' hb hKb => hf6.below.block b' (hK b' hKb)) (fun _ _ h => h)
              have he6 := HA.out.2.2.2.2.2.1.below hf6.below hGB
              have hbf6 := HA.out.2.2.2.2.2.2.trans hf6
              clear p0 p1 p2 p3 q0 q1 q2 q3 r0 r1 r2 r3 s0 s1 s2 s3
              obtain ⟨r0, r1, r2, r3, s0, s1, s2, s3⟩ := cells4 hj6
              obtain ⟨p0, p1, p2, p3, q0, q1, q2, q3⟩ := cells4 hk6'
              have H6 := Lib.hid (And.intro hd6 (And.intro hk6' (And.intro hrE6 (And.intro he6 hbf6))))
              have HRR := Lib.hid hrr6
              clear hd6 hk6' hj6 hrE6 hrr6 he6 hbf6 hf6
              go_wp2_with fail
              refine (hIh B b (acc ++ [44, 32]) _ H6.out.2.2.2.1 hGB hBb hK H6.out.2.2.1 (by exact H6.out.1) (by have := H6.out.2.2.2.2.below.size; omega) (by have := H6.out.2.2.2.2.below.size; omega) (by have := HAL.out; rw [List.length_append]; omega)).mono ?_
              rintro e w7 ⟨rfl, hd7, hf7⟩
              have hk7 := hf7.blk H6.out.2.1 hFb tree_u8
              have hr7 := H6.out.2.2.2.2
              have hrr7 := HRR.out.keep (fun b' hb hKb => hf7.below.block b' (hK b' hKb)) (fun _ _ h => h)
              have he7 := H6.out.2.2.2.1.below hf7.below hGB
              have hbf7 := H6.out.2.2.2.2.trans hf7
              have hwi := HWI.out.1
              have hwi2 := HWI.out.2
              have H7 := Lib.hid (And.intro hd7 (And.intro hk7 (And.intro hrr7 (And.intro he7 hbf7))))
              clear hd7 hk7 hrr7 he7 hbf7 hf7 hr7
              go_wp2_with fail
              exact ⟨⟨i + 1, rfl, hi, acc ++ [44, 32] ++ putT (.mk k' t' a' kids'), by rw [HRE.out, ← HAC.out]; simp [List.append_assoc], H7.out.1, H7.out.2.1, H7.out.2.2.1, H7.out.2.2.2.1, H7.out.2.2.2.2⟩, round_less hi⟩
            · have hi0' : ¬ ((0 : Int) < (i : Int)) := by omega
              obtain rfl : sep = [] := hsep.trans (by rw [if_neg (fun h => hpar h.2), if_neg hi0])
              clear hsep
              have H6 : Hid (Bld 50 B b (acc ++ []) (wr.alloc (.cells #[.int .i64 k', St t', St a', .slice A' n' cp'] 24)) ∧ (wr.alloc (.cells #[.int .i64 k', St t', St a', .slice A' n' cp'] 24)).heap[F]? = some (.cells #[.int .i64 6, St t, St [], .slice (some ⟨bb, o, none⟩) n cp] 24) ∧ See (wr.alloc (.cells #[.int .i64 k', St t', St a', .slice A' n' cp'] 24)) K [.mk k' t' a' kids'] [.int .i64 k', St t', St a', .slice A' n' cp'] ∧ Env G (wr.alloc (.cells #[.int .i64 k', St t', St a', .slice A' n' cp'] 24)) ∧ BFr B b w (wr.alloc (.cells #[.int .i64 k', St t', St a', .slice A' n' cp'] 24))) := ⟨by rw [List.append_nil]; exact HA.out.1, HA.out.2.1, HA.out.2.2.2.2.1, HA.out.2.2.2.2.2.1, HA.out.2.2.2.2.2.2⟩
              have HRR := Lib.hid HA.out.2.2.2.1
              go_wp2_with fail
              refine (hIh B b (acc ++ []) _ H6.out.2.2.2.1 hGB hBb hK H6.out.2.2.1 (by exact H6.out.1) (by have := H6.out.2.2.2.2.below.size; omega) (by have := H6.out.2.2.2.2.below.size; omega) (by have := HAL.out; rw [List.length_append]; omega)).mono ?_
              rintro e w7 ⟨rfl, hd7, hf7⟩
              have hk7 := hf7.blk H6.out.2.1 hFb tree_u8
              have hr7 := H6.out.2.2.2.2
              have hrr7 := HRR.out.keep (fun b' hb hKb => hf7.below.block b' (hK b' hKb)) (fun _ _ h => h)
              have he7 := H6.out.2.2.2.1.below hf7.below hGB
              have hbf7 := H6.out.2.2.2.2.trans hf7
              have hwi := HWI.out.1
              have hwi2 := HWI.out.2
              have H7 := Lib.hid (And.intro hd7 (And.intro hk7 (And.intro hrr7 (And.intro he7 hbf7))))
              clear hd7 hk7 hrr7 he7 hbf7 hf7 hr7
              go_wp2_with fail
              exact ⟨⟨i + 1, rfl, hi, acc ++ [] ++ putT (.mk k' t' a' kids'), by rw [HRE.out, ← HAC.out]; simp [List.append_assoc], H7.out.1, H7.out.2.1, H7.out.2.2.1, H7.out.2.2.2.1, H7.out.2.2.2.2⟩, round_less hi⟩
        · have hi' : ¬ ((i : Int) < (n : Int)) := by omega
          obtain rfl : i = n := by omega
          have hdn : kids.drop i = [] := List.drop_of_length_le (by have := HNK.out; omega)
          rw [hdn] at hac
          have hac' : acc = TOT := by rw [← hac]; simp [putL]
          subst hac'
          have HX := Lib.hid (And.intro hdR hbR)
          clear hrR heR hdR hkR hbR hac
          go_wp2_with fail
          refine (hWB acc 125 _ (by exact HX.out.1) hTl (by have := HX.out.2.below.size; omega)).mono ?_
          rintro e w9 ⟨rfl, hd9, hf9⟩
          go_wp2_with fail
          go_end0
          exact ⟨rfl, hd9, HX.out.2.trans hf9⟩
    rw [if_neg (by simp)] at hP
    rw [if_neg hk5, if_neg hk6] at hP
    have b5 : (k == 5) = false := by simpa using hk5
    have b6 : (k == 6) = false := by simpa using hk6
    clear hk5 hk6 ih
    have hPl := congrArg List.length hP
    simp only [List.length_append, List.length_cons, List.length_nil] at hPl
    rw [hP]
    go_enter Tryz.func26, Tryz.ntmps26
    go_wp2_with fail
    have H2 := H1
    refine (flow_Scalar k t [] A n cp true HL.out.1 G _ (by exact H2.out.2.2.2.1)).mono ?_
    rintro e w4 ⟨rfl, hb4⟩
    go_wp2_with fail
    refine (hWS l (scalarS k t true) _ (by exact H2.out.1.own hb4) (by simp only [List.length_append, List.length_cons, List.length_nil] at *; omega) (by have := H2.out.2.2.2.2.below.size; have := hb4.size; omega)).mono ?_
    rintro e w5 ⟨rfl, hd5, hf5⟩
    go_wp2_with fail
    exact bodyPost_ret (v := .tuple #[]) (by simp [results, Tryz.results26, go_sem]) rfl ⟨rfl, by simpa [List.append_assoc] using hd5, (H2.out.2.2.2.2.own hb4 hBw).trans hf5⟩
end Go.Proofs.YtbmonfcahhhdeaaGreatDoor

namespace Go.Proofs.YtbmonfcahhhdeaaGreatDoor
open Go.RowKit

theorem put_spec : ∀ m, PutSpec m
  | 0 => fun _ _ _ _ _ _ _ h => by omega
  | m + 1 => put_step m (put_spec m)

set_option maxHeartbeats 4000000 in
theorem flow_Write_ok (k : Int) (t a : Bs) (kids : List T) (A : Option Addr) (n cp : Nat) (hfit : Fit [.mk k t a kids]) (hR : (rightT (.mk k t a kids) 4096 0).1 = true) (hlen : (putT (.mk k t a kids)).length ≤ 140737488355328) (G : Nat) (K : Nat → Prop) (w : World) (he : Env G w) (hK : ∀ b, K b → b < w.heap.size) (hr : See w K [.mk k t a kids] [.int .i64 k, St t, St a, .slice A n cp]) :
    Calls Tryz.prog 11 #[.agg #[.int .i64 k, St t, St a, .slice A n cp]] w fun e w' => e = .returned (.tuple #[St (putT (.mk k t a kids)), .int .i64 0]) ∧ Below w.heap.size w w' := by
  obtain ⟨F, hF⟩ : ∃ F, w.heap.size = F := ⟨_, rfl⟩
  have hG := he.le
  have hb1 : Below w.heap.size w (w.alloc (.cells #[.int .i64 k, St t, St a, .slice A n cp] 24)) := (Below.refl _ _).alloc (Nat.le_refl _) _
  have hx1 : (w.alloc (.cells #[.int .i64 k, St t, St a, .slice A n cp] 24)).heap[F]? = some (.cells #[.int .i64 k, St t, St a, .slice A n cp] 24) := by rw [← hF]; exact blk_new _ _
  have he1 := he.own hb1
  have hr1 := hr.under hb1
  have hRt := flow_Right k t a kids A n cp hfit G K _ he1 (fun b h => by have := hK b h; rw [World.size_alloc]; omega) hr1
  rw [hR] at hRt
  obtain ⟨x0, x1, x2, x3, y0, y1, y2, y3⟩ := cells4 hx1
  have H1 := Lib.hid (And.intro hb1 (And.intro hx1 (And.intro he1 hr1)))
  have hPut := fun B b w' he h1 h2 h3 h4 h5 h6 h7 h8 => put_spec _ k t a kids A n cp (Nat.lt_succ_self _) hfit B b [] G K w' he h1 h2 h3 h4 h5 h6 h7 h8
  clear he hr hb1 hx1 he1 hr1 hR hfit
  generalize putT (.mk k t a kids) = Y at hPut hlen ⊢
  rw [List.nil_append] at hPut
  go_enter Tryz.func11, Tryz.ntmps11
  go_wp2_with fail
  refine hRt.mono ?_
  rintro e w2 ⟨rfl, hb2⟩
  have hx2 := blk_below H1.out.2.1 hb2 (blk_lt H1.out.2.1)
  have hr2 := H1.out.2.2.2.under hb2
  have he2 := H1.out.2.2.1.own hb2
  have hbw : Below w.heap.size w w2 := H1.out.1.trans (hb2.mono (by simp))
  have hFlt := blk_lt hx2
  obtain ⟨b, hb⟩ : ∃ b, w2.heap.size = b := ⟨_, rfl⟩
  have hb3 : Below w2.heap.size w2 (w2.alloc (.cells #[.pointer none, .slice none 0 0] 50)) := (Below.refl _ _).alloc (Nat.le_refl _) _
  have hx3 : (w2.alloc (.cells #[.pointer none, .slice none 0 0] 50)).heap[F]? = some (.cells #[.int .i64 k, St t, St a, .slice A n cp] 24) := blk_alloc hx2
  have hd3 : Bld 50 b b [] (w2.alloc (.cells #[.pointer none, .slice none 0 0] 50)) := Bld.fresh (Nat.le_refl _) (by rw [← hb]; exact blk_new _ _)
  have hs3 : b < (w2.alloc (.cells #[.pointer none, .slice none 0 0] 50)).heap.size := by rw [World.size_alloc]; omega
  have hz := hbw.size
  have hP3 := hPut b b _ (he2.own hb3) (by omega) (Nat.le_refl _) (fun x hx => by have := hK x hx; omega) (hr2.under hb3) hd3 (by omega) hs3 (by simpa using hlen)
  have hS := fun w' h hw => bld_String bt_builder b b Y w' h hw
  clear x0 x1 x2 x3 y0 y1 y2 y3
  obtain ⟨x0, x1, x2, x3, y0, y1, y2, y3⟩ := cells4 hx3
  have H3 := Lib.hid (And.intro hbw (And.intro hb3 hs3))
  clear hx2 hr2 he2 hbw hb2 hb3 hx3 hd3 hs3 hz
  go_wp2_with fail
  refine hP3.mono ?_
  rintro e w4 ⟨rfl, hd4, hf4⟩
  go_wp2_with fail
  refine (hS _ hd4 (by have := hf4.below.size; have := H3.out.2.2; omega)).mono ?_
  rintro e w5 ⟨rfl, hd5, hf5⟩
  go_wp2_with fail
  go_ret2
  refine ⟨rfl, ?_⟩
  have hz := H3.out.1.size
  exact ((H3.out.1.trans (H3.out.2.1.mono hz)).trans (hf4.below.mono (by omega))).trans (hf5.below.mono (by omega))
end Go.Proofs.YtbmonfcahhhdeaaGreatDoor
