/- FlowDeep's plain law: what Whole makes of its texts. The walk of FlowDeep. -/
import Derived.Test.YtbmonfcahhhdeaaGreatDoorAlive2
import Derived.Test.YtbmonfcahhhdeaaGreatDoorDeep2
set_option linter.unusedVariables false
set_option linter.unusedSimpArgs false
namespace Go.Proofs.YtbmonfcahhhdeaaGreatDoor
open Go.RowKit

theorem opens_add (k : Nat) : opens k ++ [91] = opens (k + 1) := by
  induction k with
  | zero => rfl
  | succ k ih =>
    show 91 :: (opens k ++ [91]) = 91 :: opens (k + 1)
    rw [ih]
theorem opensM_add (k : Nat) : opensM k ++ [123, 97, 58, 32] = opensM (k + 1) := by
  induction k with
  | zero => rfl
  | succ k ih =>
    show 123 :: 97 :: 58 :: 32 :: (opensM k ++ [123, 97, 58, 32]) = 123 :: 97 :: 58 :: 32 :: opensM (k + 1)
    rw [ih]
theorem opens_len (k : Nat) : (opens k).length = k := by
  induction k with
  | zero => rfl
  | succ k ih => show (opens k).length + 1 = _; rw [ih]
theorem opensM_len (k : Nat) : (opensM k).length = 4 * k := by
  induction k with
  | zero => rfl
  | succ k ih => show (opensM k).length + 1 + 1 + 1 + 1 = _; rw [ih]; omega
theorem rep_add (k : Nat) (c : UInt8) : List.replicate k c ++ [c] = List.replicate (k + 1) c := by rw [List.replicate_succ']
theorem trimR_end (l : Bs) (c : UInt8) (h : c ≠ 32) : trimR (l ++ [c]) [32] = l ++ [c] := by
  unfold trimR
  rw [List.reverse_append]
  show (List.dropWhile _ (c :: l.reverse)).reverse = _
  rw [List.dropWhile_cons_of_neg (by simpa using h)]
  simp

theorem whole_list (n : Nat) (h0 : 1 ≤ n) (h1 : n ≤ 64) : readM 100 (opens n ++ List.replicate n 93) false = some (nest n, (((opens n ++ List.replicate n 93).length : Nat) : Int), 0, 0) := by
  obtain ⟨k, rfl⟩ : ∃ k, n = k + 1 := ⟨n - 1, by omega⟩
  have h := deep_list k 100 ((opens (k + 1) ++ List.replicate (k + 1) 93).length : Nat) [] false 0 (by omega) (by decide) (by omega)
  rw [List.append_nil] at h
  have h' : FRd.value 100 (FRd.start (opens (k + 1) ++ List.replicate (k + 1) 93)) false 0 = some (nest (k + 1), FRd.mk ((opens (k + 1) ++ List.replicate (k + 1) 93).length : Nat) [] 0 0) := h
  unfold readM
  rw [h']
  dsimp only
  rw [if_pos (well_mk _ _)]
  have hp : (FRd.mk ((opens (k + 1) ++ List.replicate (k + 1) 93).length : Nat) [] 0 0).pos.toNat = (opens (k + 1) ++ List.replicate (k + 1) 93).length := by
    show (((opens (k + 1) ++ List.replicate (k + 1) 93).length : Nat) - ((0 : Nat) : Int)).toNat = _
    omega
  rw [hp, List.take_length, ← rep_add, ← List.append_assoc, trimR_end _ _ (by decide)]
theorem whole_map (n : Nat) (h0 : 1 ≤ n) (h1 : n ≤ 64) : readM 100 (opensM n ++ List.replicate n 125) false = some (nestM n, (((opensM n ++ List.replicate n 125).length : Nat) : Int), 0, 0) := by
  obtain ⟨k, rfl⟩ : ∃ k, n = k + 1 := ⟨n - 1, by omega⟩
  have h := deep_map k 100 ((opensM (k + 1) ++ List.replicate (k + 1) 125).length : Nat) [] false 0 (by omega) (by decide) (by omega)
  rw [List.append_nil] at h
  have h' : FRd.value 100 (FRd.start (opensM (k + 1) ++ List.replicate (k + 1) 125)) false 0 = some (nestM (k + 1), FRd.mk ((opensM (k + 1) ++ List.replicate (k + 1) 125).length : Nat) [] 0 0) := h
  unfold readM
  rw [h']
  dsimp only
  rw [if_pos (well_mk _ _)]
  have hp : (FRd.mk ((opensM (k + 1) ++ List.replicate (k + 1) 125).length : Nat) [] 0 0).pos.toNat = (opensM (k + 1) ++ List.replicate (k + 1) 125).length := by
    show (((opensM (k + 1) ++ List.replicate (k + 1) 125).length : Nat) - ((0 : Nat) : Int)).toNat = _
    omega
  rw [hp, List.take_length, ← rep_add, ← List.append_assoc, trimR_end _ _ (by decide)]
theorem opens_split (a b : Nat) : opens (a + b) = opens a ++ opens b := by
  induction a with
  | zero => rw [Nat.zero_add]; rfl
  | succ a ih => rw [Nat.succ_add]; show 91 :: opens (a + b) = _; rw [ih]; rfl
theorem opensM_split (a b : Nat) : opensM (a + b) = opensM a ++ opensM b := by
  induction a with
  | zero => rw [Nat.zero_add]; rfl
  | succ a ih => rw [Nat.succ_add]; show 123 :: 97 :: 58 :: 32 :: opensM (a + b) = _; rw [ih]; rfl
theorem over_list (n : Nat) (h1 : 64 < n) : readM 100 (opens n ++ List.replicate n 93) false = some (zeroT, 0, 10, 64) := by
  obtain ⟨k, rfl⟩ : ∃ k, n = 65 + k := ⟨n - 65, by omega⟩
  have hs : opens (65 + k) ++ List.replicate (65 + k) 93 = opens (64 + 1) ++ (opens k ++ List.replicate (65 + k) 93) := by rw [opens_split]; simp
  obtain ⟨t, s, h⟩ := deep_over 64 100 ((opens (65 + k) ++ List.replicate (65 + k) 93).length : Nat) (opens k ++ List.replicate (65 + k) 93) false 0 (by decide) (by decide)
  unfold readM FRd.start
  rw [hs] at h ⊢
  rw [h]
  dsimp only
  rw [if_neg (show ¬ (FRd.mk _ s 10 _).well = true from fun h => by cases h)]
  have hl : ((opens (64 + 1) ++ (opens k ++ List.replicate (65 + k) 93)).length : Int) - ((91 :: (opens k ++ List.replicate (65 + k) 93)).length : Nat) = 64 := by
    simp only [List.length_cons, List.length_append, opens_len, List.length_replicate]
    omega
  rw [hl]
theorem over_map (n : Nat) (h1 : 64 < n) : readM 100 (opensM n ++ List.replicate n 125) false = some (zeroT, 0, 10, 256) := by
  obtain ⟨k, rfl⟩ : ∃ k, n = 64 + (1 + k) := ⟨n - 65, by omega⟩
  have hs : opensM (64 + (1 + k)) ++ List.replicate (64 + (1 + k)) 125 = opensM 64 ++ 123 :: (97 :: 58 :: 32 :: (opensM k ++ List.replicate (64 + (1 + k)) 125)) := by
    rw [opensM_split, Nat.add_comm 1 k]
    show (opensM 64 ++ (123 :: 97 :: 58 :: 32 :: opensM k)) ++ _ = _
    simp
  obtain ⟨t, s, h⟩ := deep_overM 64 100 ((opensM (64 + (1 + k)) ++ List.replicate (64 + (1 + k)) 125).length : Nat) (97 :: 58 :: 32 :: (opensM k ++ List.replicate (64 + (1 + k)) 125)) false 0 (by decide) (by decide)
  unfold readM FRd.start
  rw [hs] at h ⊢
  rw [h]
  dsimp only
  rw [if_neg (show ¬ (FRd.mk _ s 10 _).well = true from fun h => by cases h)]
  have hl : ((opensM 64 ++ 123 :: (97 :: 58 :: 32 :: (opensM k ++ List.replicate (64 + (1 + k)) 125))).length : Int) - ((123 :: 97 :: 58 :: 32 :: (opensM k ++ List.replicate (64 + (1 + k)) 125)).length : Nat) = 256 := by
    simp only [List.length_cons, List.length_append, opensM_len, List.length_replicate]
    omega
  rw [hl]
end Go.Proofs.YtbmonfcahhhdeaaGreatDoor

namespace Go.Proofs.YtbmonfcahhhdeaaGreatDoor
open Go.RowKit

/-- What is left of the value behind some rounds. -/
def trL (j : Nat) : T := nest j
def trM : Nat → T
  | 0 => nullT
  | j + 1 => nestM (j + 1)
/-- What stands when the second loop comes to round i. -/
def DeepR (tr : T) (X : Nat) (F : Nat) (w wr : World) : Prop :=
  ∃ kd tt ta kids A n c, tr = .mk kd tt ta kids ∧ n = kids.length ∧ wr.heap[X]? = some (.cells #[.int .i64 kd, St tt, St ta, .slice A n c] 24) ∧ Rep wr (fun b => b < X) [.mk kd tt ta kids] [.int .i64 kd, St tt, St ta, .slice A n c] ∧
    wr.heap[X + 1]? = some (.cells #[.int .i64 0, .int .i64 0] 31) ∧ Below F w wr ∧ X + 1 < wr.heap.size
theorem trM_eq {i : Nat} (h : 1 ≤ i) : trM i = nestM i := by
  obtain ⟨k, rfl⟩ : ∃ k, i = k + 1 := ⟨i - 1, by omega⟩
  rfl
theorem Rep.count {w : World} {K : Nat → Prop} {k : Int} {t a : Bs} {kids : List T} {A : Option Addr} {n c : Nat} (h : Rep w K [.mk k t a kids] [.int .i64 k, St t, St a, .slice A n c]) : n = kids.length := by
  cases h with | cons _ _ _ _ v xs ts ys base ho hv hk hr =>
    rcases ho.2 with ⟨h, h'⟩ | ⟨gg, cap, cur, h, _⟩
    · simp only [Value.slice.injEq] at h; omega
    · simp only [Value.slice.injEq] at h; exact h.2.1
theorem set4 {w : World} {X b : Nat} {v0 v1 v2 v3 : Value} (h : b ≠ X) : ((((w.setCell ⟨X, 0, none⟩ v0).setCell ⟨X, 1, none⟩ v1).setCell ⟨X, 2, none⟩ v2).setCell ⟨X, 3, none⟩ v3).heap[b]? = w.heap[b]? := by
  rw [Below.heap_setCell _ _ _ _ h, Below.heap_setCell _ _ _ _ h, Below.heap_setCell _ _ _ _ h, Below.heap_setCell _ _ _ _ h]
theorem set4_cells {w : World} {X : Nat} {t : TypeId} {c0 c1 c2 c3 v0 v1 v2 v3 : Value} (h : w.heap[X]? = some (.cells #[c0, c1, c2, c3] t)) :
    ((((w.setCell ⟨X, 0, none⟩ v0).setCell ⟨X, 1, none⟩ v1).setCell ⟨X, 2, none⟩ v2).setCell ⟨X, 3, none⟩ v3).heap[X]? = some (.cells #[v0, v1, v2, v3] t) := blk_set (blk_set (blk_set (blk_set h)))
theorem DeepR.set {tr' : T} {X F : Nat} {w wr : World} {kd : Int} {tt ta : Bs} {kids : List T} {A : Option Addr} {n c : Nat} {c0 c1 c2 c3 : Value} (htr : tr' = .mk kd tt ta kids) (hn : n = kids.length) (hx : wr.heap[X]? = some (.cells #[c0, c1, c2, c3] 24))
    (hr : Rep wr (fun b => b < X) [.mk kd tt ta kids] [.int .i64 kd, St tt, St ta, .slice A n c]) (hy : wr.heap[X + 1]? = some (.cells #[.int .i64 0, .int .i64 0] 31)) (hb : Below F w wr) (hs : X + 1 < wr.heap.size) (hF : F ≤ X) :
    DeepR tr' X F w ((((wr.setCell ⟨X, 0, none⟩ (.int .i64 kd)).setCell ⟨X, 1, none⟩ (St tt)).setCell ⟨X, 2, none⟩ (St ta)).setCell ⟨X, 3, none⟩ (.slice A n c)) :=
  ⟨kd, tt, ta, kids, A, n, c, htr, hn, set4_cells hx, hr.keep (fun b hb hK => set4 (Nat.ne_of_lt hK)) (fun _ _ h => h), (set4 (by omega)).trans hy, (((hb.setCell hF _).setCell hF _).setCell hF _).setCell hF _, by simpa using hs⟩
theorem Rep.old {w w' : World} {K : Nat → Prop} {ts : List T} {xs : List Value} (h : Rep w K ts xs) (hb : Below w.heap.size w w') (X : Nat) (hX : w.heap.size = X) : Rep w' (fun b => b < X) ts xs :=
  h.keep (fun b hl _ => hb.block b hl) fun b hl _ => by rw [← hX]; exact hl
theorem cat_bs (a b : Bs) (B : ByteArray) (h : B = ⟨b.toArray⟩) : Value.string ((⟨a.toArray⟩ : ByteArray) ++ B) = St (a ++ b) := by rw [h, bs_append]

set_option maxHeartbeats 16000000 in
set_option maxRecDepth 100000 in
theorem deep_walk_f (m : Nat) (hm : m < 256) (w : World) (he : Env w.heap.size w) :
    Calls Tryz.prog 6 #[.int .u8 m, .bool false] w fun e w' => e = .returned (.bool true) ∧ Below w.heap.size w w' := by
  obtain ⟨N, hN⟩ : ∃ N : Nat, N = m % 80 + 1 := ⟨_, rfl⟩
  have hN0 : 1 ≤ N := by omega
  have hN1 : N ≤ 80 := by omega
  have hmn : (m : Int) % 80 + 1 = (N : Int) := by omega
  have HE := Lib.hid he
  clear hN he
  obtain ⟨F, hF⟩ : ∃ F, w.heap.size = F := ⟨_, rfl⟩
  go_enter Tryz.func6, Tryz.ntmps6
  go_wp2_with fail

  go_loopw [6, 7, 17] (fun v6 v7 v17 wr => ∃ i : Nat, v17 = .int .i64 i ∧ i ≤ N ∧ wr = w ∧ ∃ a b : Bs, v6 = St a ∧ v7 = St b ∧ Hid (a = opens i ∧ b = List.replicate i 93)) (fun _ _ v17 _ => N - (intOf v17).toNat)
  case atStart => exact ⟨0, rfl, by omega, rfl, [], [], rfl, rfl, rfl, rfl⟩
  case round =>
    obtain ⟨i, rfl, hi, rfl, a, b, rfl, rfl, HAB⟩ := hrel
    by_cases hlt : i < N
    · have hi' : (i : Int) < (N : Int) := by omega
      have hal : a.length = 1 * i := by have := opens_len i; rw [HAB.out.1]; omega
      have hbl : b.length = i := by rw [HAB.out.2, List.length_replicate]
      have h1 : ¬ (9223372036854775807 : Nat) < a.length + 1 := by omega
      have h2 : ¬ (9223372036854775807 : Nat) < b.length + 1 := by omega
      have hwi : IntKind.i64.wrap ((i : Int) + 1) = (i : Int) + 1 := wrapK_le (by omega) (by omega)
      have hwi2 : wrap64 ((i : Int) + 1) = (i : Int) + 1 := wrap6_le (by omega) (by omega)
      clear hal hbl
      go_wp2_with fail
      exact ⟨⟨i + 1, rfl, hlt, (by first | trivial | rfl), a ++ [91], b ++ [93], cat_bs _ _ _ rfl, cat_bs _ _ _ rfl, by rw [HAB.out.1]; exact opens_add i, by rw [HAB.out.2]; exact rep_add i 93⟩, round_less hlt⟩
    · obtain rfl : i = N := by omega
      obtain ⟨w0, hw0⟩ : ∃ w0, w0 = wr := ⟨_, rfl⟩
      subst hw0
      have hi' : ¬ ((i : Int) < (i : Int)) := by omega
      have hA := HAB.out.1
      have hB := HAB.out.2
      have hal : a.length = 1 * i := by have := opens_len i; rw [hA]; omega
      have hbl : b.length = i := by rw [hB, List.length_replicate]
      have h1 : ¬ (9223372036854775807 : Nat) < a.length + b.length := by omega
      have hs : (a ++ b).length ≤ 65536 := by rw [List.length_append]; omega
      have hcat : (⟨a.toArray⟩ : ByteArray) ++ ⟨b.toArray⟩ = ⟨(a ++ b).toArray⟩ := bs_append a b
      by_cases h64 : 64 < i
      · have h64' : (i : Int) > 64 := by omega
        have hM : readM 100 (a ++ b) false = some (zeroT, 0, 10, 64) := by rw [hA, hB]; exact over_list i h64
        have hW := fun w' he' => flow_Whole_ill 100 (by decide) (a ++ b) hs zeroT 0 10 64 hM (by decide) w0.heap.size w' he'
        clear hal hbl hM hA hB
        go_wp2_with fail
        refine (hW _ HE.out).mono ?_
        rintro e w1 ⟨rfl, hb1⟩
        have hb3 : Below w1.heap.size w1 ((w1.alloc (.cells #[.int .i64 0, St [], St [], .slice none 0 0] 24)).alloc (.cells #[.int .i64 10, .int .i64 64] 31)) := ((Below.refl _ _).alloc (Nat.le_refl _) _).alloc (by simp) _
        obtain ⟨X, hX⟩ : ∃ X, w1.heap.size = X := ⟨_, rfl⟩
        have hy3 : ((w1.alloc (.cells #[.int .i64 0, St [], St [], .slice none 0 0] 24)).alloc (.cells #[.int .i64 10, .int .i64 64] 31)).heap[X + 1]? = some (.cells #[.int .i64 10, .int .i64 64] 31) := by rw [← hX]; exact blk_new1 _ _ _
        have hAl := law_alive w0.heap.size _ ((HE.out.own hb1).own hb3)
        obtain ⟨v0, v1, vf0, vf1⟩ := cells2 hy3
        have hbz := hb1.size
        have H3 := Lib.hid (And.intro hb1 hb3)
        clear hb1 hb3 hy3 hW
        go_wp2_with fail
        refine hAl.mono ?_
        rintro e w4 ⟨rfl, hb4⟩
        go_wp2_with fail
        go_ret
        exact ⟨rfl, (H3.out.1.trans (H3.out.2.mono (by omega))).trans (hb4.mono (by have := H3.out.2.size; omega))⟩
      · have h64' : ¬ ((i : Int) > 64) := by omega
        have hM : readM 100 (a ++ b) false = some (nest i, (((a ++ b).length : Nat) : Int), 0, 0) := by rw [hA, hB]; exact whole_list i hN0 (by omega)
        have hrest : trimL ((a ++ b).drop ((((a ++ b).length : Nat) : Int)).toNat) [32] = [] := by rw [Int.toNat_natCast, List.drop_length]; rfl
        have hW := fun w' he' => flow_Whole_ok 100 (by decide) (a ++ b) hs (nest i) _ hM (by omega) (Int.le_refl _) hrest w0.heap.size w' he'
        have hnt : nest i = trL i := rfl
        rw [hnt] at hW
        rcases htr : trL i with ⟨kd, tt, ta, kids⟩
        rw [htr] at hW
        have HTR := Lib.hid htr
        clear hal hbl hM hA hB hrest hnt htr
        go_wp2_with fail
        refine (hW _ HE.out).mono ?_
        rintro e w1 ⟨⟨v, hr, rfl⟩, hb1⟩
        obtain ⟨A, c, rfl, hr1⟩ := hr.shape
        have hb3 : Below w1.heap.size w1 ((w1.alloc (.cells #[.int .i64 kd, St tt, St ta, .slice A kids.length c] 24)).alloc (.cells #[.int .i64 0, .int .i64 0] 31)) := ((Below.refl _ _).alloc (Nat.le_refl _) _).alloc (by simp) _
        obtain ⟨X, hX⟩ : ∃ X, w1.heap.size = X := ⟨_, rfl⟩
        have hbz := hb1.size
        have HR0 : Hid (DeepR (trL i) X w0.heap.size w0 ((w1.alloc (.cells #[.int .i64 kd, St tt, St ta, .slice A kids.length c] 24)).alloc (.cells #[.int .i64 0, .int .i64 0] 31))) :=
          ⟨kd, tt, ta, kids, A, kids.length, c, HTR.out, rfl, by rw [← hX]; exact blk_alloc (blk_new _ _), hr1.old hb3 X hX, by rw [← hX]; exact blk_new1 _ _ _, hb1.trans (hb3.mono hbz), by rw [← hX]; simp⟩
        clear hr hr1 hb1 hb3 hW
        go_wp2_with fail
        go_loopw [47] (fun v wx => ∃ j : Nat, v = .int .i64 j ∧ j ≤ i ∧ DeepR (trL (i - j)) X w0.heap.size w0 wx) (fun v _ => i - (intOf v).toNat)
        case atStart => exact ⟨0, rfl, by omega, HR0.out⟩
        case round =>
          obtain ⟨j, rfl, hj, kd', tt', ta', kids', A', n', c', htj, hnj, hxj, hrj, hyj, hbj, hsj⟩ := hrel
          obtain ⟨z0, z1, z2, z3, y0, y1, y2, y3⟩ := cells4 hxj
          obtain ⟨v0, v1, vf0, vf1⟩ := cells2 hyj
          by_cases hlt2 : j < i
          · have hj' : (j : Int) < (i : Int) := by omega
            obtain ⟨r, hr⟩ : ∃ r, i - j = r + 1 := ⟨i - j - 1, by omega⟩
            have hr2 : i - (j + 1) = r := by omega
            rw [hr] at htj
            have HWI : Hid (IntKind.i64.wrap ((j : Int) + 1) = (j : Int) + 1 ∧ wrap64 ((j : Int) + 1) = (j : Int) + 1) := ⟨wrapK_le (by omega) (by omega), wrap6_le (by omega) (by omega)⟩
            have hFX : w0.heap.size ≤ X := by omega
            have hwi := HWI.out.1
            have hwi2 := HWI.out.2
            rcases r with _ | r
            · obtain ⟨rfl, rfl, rfl, rfl⟩ : kd' = 5 ∧ tt' = [] ∧ ta' = [] ∧ kids' = [] := by cases htj; exact ⟨rfl, rfl, rfl, rfl⟩
              obtain rfl : n' = 0 := hnj
              clear htj
              have HX := Lib.hid (And.intro hxj (And.intro hrj (And.intro hyj (And.intro hbj hsj))))
              clear hrj hbj
              go_wp2_with fail
              clear hwi hwi2
              obtain ⟨hxj, hrj, hyj, hbj, hsj⟩ := HX.out
              refine ⟨⟨j + 1, rfl, hlt2, ?_⟩, round_less hlt2⟩
              rw [hr2]
              exact DeepR.set rfl rfl hxj (.cons 0 [] [] [] (.slice none 0 0) [] [] [] 0 (World.ownsRow_nil _ _ _ _) (fun b hb => by simp [Value.ownBlock] at hb) .nil .nil) hyj hbj hsj hFX
            · obtain ⟨rfl, rfl, rfl, rfl⟩ : kd' = 5 ∧ tt' = [] ∧ ta' = [] ∧ kids' = [trL (r + 1)] := by cases htj; exact ⟨rfl, rfl, rfl, rfl⟩
              obtain rfl : n' = 1 := hnj
              clear htj
              rcases hch : trL (r + 1) with ⟨k2, t2, a2, ks2⟩
              rw [hch] at hrj
              obtain ⟨bb, A2, n2, c2, rfl, hcc, hrE⟩ := hrj.elem 0 rfl
              have g0 : wr.cell? ⟨bb, 0, none⟩ = some (.int .i64 k2) := hcc 0 (by decide)
              have g1 : wr.cell? ⟨bb, 1, none⟩ = some (St t2) := hcc 1 (by decide)
              have g2 : wr.cell? ⟨bb, 2, none⟩ = some (St a2) := hcc 2 (by decide)
              have g3 : wr.cell? ⟨bb, 3, none⟩ = some (.slice A2 n2 c2) := hcc 3 (by decide)
              have hn2 : n2 = ks2.length := hrE.count
              subst hn2
              have HRE := Lib.hid hrE
              have HCH := Lib.hid hch
              clear hcc hrE hch
              have HX := Lib.hid (And.intro hxj (And.intro hrj (And.intro hyj (And.intro hbj hsj))))
              clear hrj hbj
              go_wp2_with fail
              clear hwi hwi2
              obtain ⟨hxj, hrj, hyj, hbj, hsj⟩ := HX.out
              refine ⟨⟨j + 1, rfl, hlt2, ?_⟩, round_less hlt2⟩
              rw [hr2]
              exact DeepR.set HCH.out rfl hxj HRE.out hyj hbj hsj hFX
          · obtain rfl : j = i := by omega
            have hj' : ¬ ((j : Int) < (j : Int)) := by omega
            have hAl := law_alive w0.heap.size _ (HE.out.own hbj)
            have HB := Lib.hid hbj
            clear hrj hbj
            go_wp2_with fail
            refine hAl.mono ?_
            rintro e w4 ⟨rfl, hb4⟩
            go_wp2_with fail
            go_ret
            exact ⟨rfl, HB.out.trans (hb4.mono HB.out.size)⟩

set_option maxHeartbeats 16000000 in
set_option maxRecDepth 100000 in
theorem deep_walk_t (m : Nat) (hm : m < 256) (w : World) (he : Env w.heap.size w) :
    Calls Tryz.prog 6 #[.int .u8 m, .bool true] w fun e w' => e = .returned (.bool true) ∧ Below w.heap.size w w' := by
  obtain ⟨N, hN⟩ : ∃ N : Nat, N = m % 80 + 1 := ⟨_, rfl⟩
  have hN0 : 1 ≤ N := by omega
  have hN1 : N ≤ 80 := by omega
  have hmn : (m : Int) % 80 + 1 = (N : Int) := by omega
  have HE := Lib.hid he
  clear hN he
  obtain ⟨F, hF⟩ : ∃ F, w.heap.size = F := ⟨_, rfl⟩
  go_enter Tryz.func6, Tryz.ntmps6
  go_wp2_with fail

  go_loopw [6, 7, 17] (fun v6 v7 v17 wr => ∃ i : Nat, v17 = .int .i64 i ∧ i ≤ N ∧ wr = w ∧ ∃ a b : Bs, v6 = St a ∧ v7 = St b ∧ Hid (a = opensM i ∧ b = List.replicate i 125)) (fun _ _ v17 _ => N - (intOf v17).toNat)
  case atStart => exact ⟨0, rfl, by omega, rfl, [], [], rfl, rfl, rfl, rfl⟩
  case round =>
    obtain ⟨i, rfl, hi, rfl, a, b, rfl, rfl, HAB⟩ := hrel
    by_cases hlt : i < N
    · have hi' : (i : Int) < (N : Int) := by omega
      have hal : a.length = 4 * i := by have := opensM_len i; rw [HAB.out.1]; omega
      have hbl : b.length = i := by rw [HAB.out.2, List.length_replicate]
      have h1 : ¬ (9223372036854775807 : Nat) < a.length + 4 := by omega
      have h2 : ¬ (9223372036854775807 : Nat) < b.length + 1 := by omega
      have hwi : IntKind.i64.wrap ((i : Int) + 1) = (i : Int) + 1 := wrapK_le (by omega) (by omega)
      have hwi2 : wrap64 ((i : Int) + 1) = (i : Int) + 1 := wrap6_le (by omega) (by omega)
      clear hal hbl
      go_wp2_with fail
      exact ⟨⟨i + 1, rfl, hlt, (by first | trivial | rfl), a ++ [123, 97, 58, 32], b ++ [125], cat_bs _ _ _ rfl, cat_bs _ _ _ rfl, by rw [HAB.out.1]; exact opensM_add i, by rw [HAB.out.2]; exact rep_add i 125⟩, round_less hlt⟩
    · obtain rfl : i = N := by omega
      obtain ⟨w0, hw0⟩ : ∃ w0, w0 = wr := ⟨_, rfl⟩
      subst hw0
      have hi' : ¬ ((i : Int) < (i : Int)) := by omega
      have hA := HAB.out.1
      have hB := HAB.out.2
      have hal : a.length = 4 * i := by have := opensM_len i; rw [hA]; omega
      have hbl : b.length = i := by rw [hB, List.length_replicate]
      have h1 : ¬ (9223372036854775807 : Nat) < a.length + b.length := by omega
      have hs : (a ++ b).length ≤ 65536 := by rw [List.length_append]; omega
      have hcat : (⟨a.toArray⟩ : ByteArray) ++ ⟨b.toArray⟩ = ⟨(a ++ b).toArray⟩ := bs_append a b
      by_cases h64 : 64 < i
      · have h64' : (i : Int) > 64 := by omega
        have hM : readM 100 (a ++ b) false = some (zeroT, 0, 10, 256) := by rw [hA, hB]; exact over_map i h64
        have hW := fun w' he' => flow_Whole_ill 100 (by decide) (a ++ b) hs zeroT 0 10 256 hM (by decide) w0.heap.size w' he'
        clear hal hbl hM hA hB
        go_wp2_with fail
        refine (hW _ HE.out).mono ?_
        rintro e w1 ⟨rfl, hb1⟩
        have hb3 : Below w1.heap.size w1 ((w1.alloc (.cells #[.int .i64 0, St [], St [], .slice none 0 0] 24)).alloc (.cells #[.int .i64 10, .int .i64 256] 31)) := ((Below.refl _ _).alloc (Nat.le_refl _) _).alloc (by simp) _
        obtain ⟨X, hX⟩ : ∃ X, w1.heap.size = X := ⟨_, rfl⟩
        have hy3 : ((w1.alloc (.cells #[.int .i64 0, St [], St [], .slice none 0 0] 24)).alloc (.cells #[.int .i64 10, .int .i64 256] 31)).heap[X + 1]? = some (.cells #[.int .i64 10, .int .i64 256] 31) := by rw [← hX]; exact blk_new1 _ _ _
        have hAl := law_alive w0.heap.size _ ((HE.out.own hb1).own hb3)
        obtain ⟨v0, v1, vf0, vf1⟩ := cells2 hy3
        have hbz := hb1.size
        have H3 := Lib.hid (And.intro hb1 hb3)
        clear hb1 hb3 hy3 hW
        go_wp2_with fail
        refine hAl.mono ?_
        rintro e w4 ⟨rfl, hb4⟩
        go_wp2_with fail
        go_ret
        exact ⟨rfl, (H3.out.1.trans (H3.out.2.mono (by omega))).trans (hb4.mono (by have := H3.out.2.size; omega))⟩
      · have h64' : ¬ ((i : Int) > 64) := by omega
        have hM : readM 100 (a ++ b) false = some (nestM i, (((a ++ b).length : Nat) : Int), 0, 0) := by rw [hA, hB]; exact whole_map i hN0 (by omega)
        have hrest : trimL ((a ++ b).drop ((((a ++ b).length : Nat) : Int)).toNat) [32] = [] := by rw [Int.toNat_natCast, List.drop_length]; rfl
        have hW := fun w' he' => flow_Whole_ok 100 (by decide) (a ++ b) hs (nestM i) _ hM (by omega) (Int.le_refl _) hrest w0.heap.size w' he'
        have hnt : nestM i = trM i := (trM_eq hN0).symm
        rw [hnt] at hW
        rcases htr : trM i with ⟨kd, tt, ta, kids⟩
        rw [htr] at hW
        have HTR := Lib.hid htr
        clear hal hbl hM hA hB hrest hnt htr
        go_wp2_with fail
        refine (hW _ HE.out).mono ?_
        rintro e w1 ⟨⟨v, hr, rfl⟩, hb1⟩
        obtain ⟨A, c, rfl, hr1⟩ := hr.shape
        have hb3 : Below w1.heap.size w1 ((w1.alloc (.cells #[.int .i64 kd, St tt, St ta, .slice A kids.length c] 24)).alloc (.cells #[.int .i64 0, .int .i64 0] 31)) := ((Below.refl _ _).alloc (Nat.le_refl _) _).alloc (by simp) _
        obtain ⟨X, hX⟩ : ∃ X, w1.heap.size = X := ⟨_, rfl⟩
        have hbz := hb1.size
        have HR0 : Hid (DeepR (trM i) X w0.heap.size w0 ((w1.alloc (.cells #[.int .i64 kd, St tt, St ta, .slice A kids.length c] 24)).alloc (.cells #[.int .i64 0, .int .i64 0] 31))) :=
          ⟨kd, tt, ta, kids, A, kids.length, c, HTR.out, rfl, by rw [← hX]; exact blk_alloc (blk_new _ _), hr1.old hb3 X hX, by rw [← hX]; exact blk_new1 _ _ _, hb1.trans (hb3.mono hbz), by rw [← hX]; simp⟩
        clear hr hr1 hb1 hb3 hW
        go_wp2_with fail
        go_loopw [47] (fun v wx => ∃ j : Nat, v = .int .i64 j ∧ j ≤ i ∧ DeepR (trM (i - j)) X w0.heap.size w0 wx) (fun v _ => i - (intOf v).toNat)
        case atStart => exact ⟨0, rfl, by omega, HR0.out⟩
        case round =>
          obtain ⟨j, rfl, hj, kd', tt', ta', kids', A', n', c', htj, hnj, hxj, hrj, hyj, hbj, hsj⟩ := hrel
          obtain ⟨z0, z1, z2, z3, y0, y1, y2, y3⟩ := cells4 hxj
          obtain ⟨v0, v1, vf0, vf1⟩ := cells2 hyj
          by_cases hlt2 : j < i
          · have hj' : (j : Int) < (i : Int) := by omega
            obtain ⟨r, hr⟩ : ∃ r, i - j = r + 1 := ⟨i - j - 1, by omega⟩
            have hr2 : i - (j + 1) = r := by omega
            rw [hr] at htj
            have HWI : Hid (IntKind.i64.wrap ((j : Int) + 1) = (j : Int) + 1 ∧ wrap64 ((j : Int) + 1) = (j : Int) + 1) := ⟨wrapK_le (by omega) (by omega), wrap6_le (by omega) (by omega)⟩
            have hFX : w0.heap.size ≤ X := by omega
            have hwi := HWI.out.1
            have hwi2 := HWI.out.2
            obtain ⟨rfl, rfl, rfl, rfl⟩ : kd' = 6 ∧ tt' = [] ∧ ta' = [] ∧ kids' = [keyA, trM r] := by cases r <;> (cases htj; exact ⟨rfl, rfl, rfl, rfl⟩)
            obtain rfl : n' = 2 := hnj
            clear htj
            rcases hch : trM r with ⟨k2, t2, a2, ks2⟩
            rw [hch] at hrj
            obtain ⟨bb, A2, n2, c2, rfl, hcc, hrE⟩ := hrj.elem 1 rfl
            have g0 : wr.cell? ⟨bb, 4, none⟩ = some (.int .i64 k2) := hcc 0 (by decide)
            have g1 : wr.cell? ⟨bb, 5, none⟩ = some (St t2) := hcc 1 (by decide)
            have g2 : wr.cell? ⟨bb, 6, none⟩ = some (St a2) := hcc 2 (by decide)
            have g3 : wr.cell? ⟨bb, 7, none⟩ = some (.slice A2 n2 c2) := hcc 3 (by decide)
            have hn2 : n2 = ks2.length := hrE.count
            subst hn2
            have HRE := Lib.hid hrE
            have HCH := Lib.hid hch
            clear hcc hrE hch
            have HX := Lib.hid (And.intro hxj (And.intro hrj (And.intro hyj (And.intro hbj hsj))))
            clear hrj hbj
            go_wp2_with fail
            clear hwi hwi2
            obtain ⟨hxj, hrj, hyj, hbj, hsj⟩ := HX.out
            refine ⟨⟨j + 1, rfl, hlt2, ?_⟩, round_less hlt2⟩
            rw [hr2]
            exact DeepR.set HCH.out rfl hxj HRE.out hyj hbj hsj hFX
          · obtain rfl : j = i := by omega
            have hj' : ¬ ((j : Int) < (j : Int)) := by omega
            have hAl := law_alive w0.heap.size _ (HE.out.own hbj)
            have HB := Lib.hid hbj
            clear hrj hbj
            go_wp2_with fail
            refine hAl.mono ?_
            rintro e w4 ⟨rfl, hb4⟩
            go_wp2_with fail
            go_ret
            exact ⟨rfl, HB.out.trans (hb4.mono HB.out.size)⟩

end Go.Proofs.YtbmonfcahhhdeaaGreatDoor
