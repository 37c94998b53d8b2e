/- The walk of the reader's entry. -/
import Derived.Test.YtbmonfcahhhdeaaGreatDoorFRdH
set_option linter.unusedVariables false
set_option linter.unusedSimpArgs false
namespace Go.Proofs.YtbmonfcahhhdeaaGreatDoor
open Go.RowKit

theorem qreadL_len (q : UInt8) (tot : Nat) : ∀ (f k : Nat) (rest acc : Bs), k + rest.length = tot → acc.length ≤ 4 * k → (qreadL q tot f k rest acc).1.length ≤ 4 * tot
  | 0, k, rest, acc, h, ha => by simp [qreadL]
  | f + 1, k, rest, acc, h, ha => by
    unfold qreadL
    by_cases h0 : rest = []
    · rw [if_pos h0]; simp
    rw [if_neg h0]
    by_cases h1 : (qone q rest).2.2 = 4
    · rw [if_pos h1]; simp
    rw [if_neg h1]
    by_cases h2 : (qone q rest).2.2 ≠ 0
    · rw [if_pos h2]; simp
    rw [if_neg h2]
    have hb := qone_bounds q rest (by simpa using h2)
    by_cases h3 : (qone q rest).2.1 = 0
    · rw [if_pos h3]
      show acc.length ≤ _
      omega
    rw [if_neg h3]
    exact qreadL_len q tot f _ _ _ (by rw [List.length_drop]; omega) (by rw [List.length_append]; omega)
theorem qread_len (l : Bs) : (qread l).1.length ≤ 4 * l.length := by
  rcases l with _ | ⟨q, t⟩
  · simp [qread]
  · simp only [qread]
    split
    · have := qreadL_len q (t.length + 1) t.length 1 t [] (by omega) (by simp)
      simpa using this
    · simp
theorem FRd.scalar_len (r : FRd) (f : Bool) : (r.scalar f).1.length ≤ 4 * r.s.length := by
  unfold FRd.scalar
  split
  · split
    · exact qread_len _
    · have := pcut_le r.s f
      show (pcut r.s f).length ≤ _
      omega
  · simp

/-- A key's colon. -/
theorem colon_cases (r : FRd) : (r.next [58] = false ∧ r.colon = false) ∨ (∃ a, r.next [58] = true ∧ r.s = [a] ∧ r.colon = true) ∨
    (∃ a b t, r.next [58] = true ∧ r.s = a :: b :: t ∧ ([32, 44, 91, 93, 123, 125] : Bs).contains b = true ∧ r.colon = true) ∨
    (∃ a b t, r.next [58] = true ∧ r.s = a :: b :: t ∧ ([32, 44, 91, 93, 123, 125] : Bs).contains b = false ∧ r.colon = false) := by
  unfold FRd.colon
  cases hn : r.next [58] with
  | false => exact .inl ⟨rfl, rfl⟩
  | true =>
    rcases hs : r.s with _ | ⟨a, _ | ⟨b, t⟩⟩
    · unfold FRd.next at hn
      rw [hs] at hn
      simp at hn
    · exact .inr (.inl ⟨a, rfl, rfl, rfl⟩)
    · cases hc : ([32, 44, 91, 93, 123, 125] : Bs).contains b with
      | true => exact .inr (.inr (.inl ⟨a, b, t, rfl, rfl, hc, hc⟩))
      | false => exact .inr (.inr (.inr ⟨a, b, t, rfl, rfl, hc, hc⟩))
theorem flows_sp : (32 :: flows : Bs) = [32, 44, 91, 93, 123, 125] := rfl

/-- entry's way up to the colon, told once: the walk's three ends. -/
def EntryEnd (r : FRd) (value : FRd → Option (T × FRd)) (ks : List T) (r1 : FRd) : Prop :=
  ((r.key.2.skip 0).colon = false ∧ ks = [] ∧ r1 = (r.key.2.skip 0).stray) ∨
  (∃ t, (r.key.2.skip 0).colon = true ∧ value ((r.key.2.skip 0).skip 1) = some (t, r1) ∧ ks = [scalarT r.key.1 (r.scalar true).1 [], t])
theorem entry_end {r : FRd} {value : FRd → Option (T × FRd)} {ks : List T} {r1 : FRd} (hm : FRd.entry value r = some (ks, r1)) : EntryEnd r value ks r1 := by
  unfold FRd.entry at hm
  cases hc : (r.key.2.skip 0).colon with
  | false =>
    rw [hc, if_neg (by decide)] at hm
    simp only [Option.some.injEq, Prod.mk.injEq] at hm
    exact .inl ⟨hc, hm.1.symm, hm.2.symm⟩
  | true =>
    rw [hc, if_pos rfl] at hm
    rcases hv : value ((r.key.2.skip 0).skip 1) with _ | ⟨t, r2⟩
    · rw [hv] at hm; cases hm
    rw [hv] at hm
    simp only [Option.some.injEq, Prod.mk.injEq] at hm
    exact .inr ⟨t, hc, by rw [hv, hm.2], hm.1.symm⟩

set_option maxHeartbeats 16000000 in
set_option maxRecDepth 100000 in
theorem frd_entry (value : FRd → Option (T × FRd)) (g : Nat) (W deep : Int) (G : Nat) (hGg : G ≤ g) (hWs : W < 4294967296) (hV : ValSpec true value g W deep G) : PartSpec 64 (FRd.entry value) g W deep G := by
  intro r ks r1 w hm ok hW he h
  have hlt := blk_lt h
  have hend := entry_end hm
  have hkl : ks.length ≤ 2 := by
    rcases hend with ⟨_, rfl, _⟩ | ⟨t, _, _, rfl⟩ <;> simp
  refine ⟨hkl, ?_⟩
  clear hm hkl
  unfold EntryEnd at hend
  have hSc := frd_scalar g r true G w he hGg h ok (by omega)
  have hlen := r.scalar_len true
  have okS := (FRd.sub_scalar r true).ok ok
  have okK := (FRd.sub_keyR r).ok ok
  have hStS := fun w' h' => frd_stray g (r.scalar true).2.2 w' h' okS
  have hWK : r.keyR.whole = W := by rw [(FRd.sub_keyR r).1]; exact hW
  have hkeyW : r.key.2.whole = W := by rw [(FRd.sub_key r).1]; exact hW
  have okKey := (FRd.sub_key r).ok ok
  have hMd : ∀ w', Env G w' → r.keyR.At w' g → _ := fun w' he' h' => frd_made g r.keyR (r.scalar true).1 [] (r.scalar true).2.1 0 0 (by have := ok.len; have := ok.hi; omega) G w' he' h'
  change ∀ w', Env G w' → r.keyR.At w' g → Calls _ _ _ w' (fun e w'' => e = .returned (scalarV r.key.1 (r.scalar true).1 []) ∧ r.key.2.At w'' g ∧ Fr (· = g) w'.heap.size w' w'') at hMd
  have hkc : ((r.scalar true).1 = [] ∧ (r.scalar true).2.1 = false ∧ r.keyR = (r.scalar true).2.2.stray) ∨ ((r.scalar true).1 = [] ∧ (r.scalar true).2.1 = true ∧ r.keyR = (r.scalar true).2.2) ∨ (List.isEmpty (r.scalar true).1 = false ∧ r.keyR = (r.scalar true).2.2) := by
    unfold FRd.keyR
    cases hs : (r.scalar true).1 with
    | nil =>
      cases hq : (r.scalar true).2.1 with
      | false => exact .inl ⟨rfl, rfl, if_pos ⟨rfl, rfl⟩⟩
      | true => exact .inr (.inl ⟨rfl, rfl, if_neg (by simp)⟩)
    | cons a b => exact .inr (.inr ⟨rfl, if_neg (by simp)⟩)
  have HE := Lib.hid he
  have HV := Lib.hid hV
  have hEn : ∀ w', Fr (· = g) w.heap.size w w' → Env G w' := fun w' hf => HE.out.fr hf HE.out.le (fun k hk => by subst hk; exact hGg)
  clear hlen he h hV
  have hcol := colon_cases (r.key.2.skip 0)
  have okC := (FRd.sub_skip r.key.2 0).ok okKey
  have hWC : (r.key.2.skip 0).whole = W := hkeyW
  have hSk0 := fun w' h' => frd_skip g r.key.2 0 (Nat.zero_le _) w' h'
  have hN58 := fun w' h' => frd_next g (r.key.2.skip 0) [58] w' h'
  have hSt := fun w' h' => frd_stray g (r.key.2.skip 0) w' h' okC
  generalize r.key.2.skip 0 = rC at hend hcol okC hWC hSk0 hN58 hSt
  generalize r.key.2 = rK at hMd okKey hkeyW hSk0
  generalize hkk : r.key.1 = kk at hMd hend
  generalize hsc : r.scalar true = sc at hSc okS hStS hMd hkc hend
  obtain ⟨st, sq, rS⟩ := sc
  simp only [] at hSc okS hStS hMd hkc hend
  generalize r.keyR = rY at okK hWK hMd hkc
  change ∀ w', Env G w' → rY.At w' g → Calls _ _ _ w' (fun e w'' => e = .returned (.agg #[.int .i64 kk, St (if kk = 1 then [] else st), St [], .slice none 0 0]) ∧ rK.At w'' g ∧ Fr (· = g) w'.heap.size w' w'') at hMd
  change (rC.colon = false ∧ ks = [] ∧ r1 = rC.stray) ∨ (∃ t, rC.colon = true ∧ value (rC.skip 1) = some (t, r1) ∧ ks = [.mk kk (if kk = 1 then [] else st) [] [], t]) at hend
  generalize (if kk = 1 then [] else st) = X at hMd hend
  have hfg : ∀ w', Fr (· = g) w.heap.size w w' → w'.heap.size ≠ g := fun w' hf => by have := hf.size; omega
  have HEN := Lib.hid hEn
  clear hEn hsc hkk hW ok
  rcases hkc with ⟨rfl, rfl, rfl⟩ | ⟨rfl, rfl, rfl⟩ | ⟨hq, rfl⟩
  · rcases hend with ⟨hc1, rfl, rfl⟩ | ⟨t, hc1, hval, rfl⟩
    · rcases hcol with ⟨hn, hc⟩ | ⟨ca, hn, hs, hc⟩ | ⟨ca, cb, ct, hn, hs, hcc, hc⟩ | ⟨ca, cb, ct, hn, hs, hcc, hc⟩
      · clear hc hc1
        go_enter Tryz.func64, Tryz.ntmps64
        go_wp2_with fail
        refine hSc.mono ?_
        rintro e w1 ⟨rfl, h1, f1⟩
        go_wp2_with fail
        refine (hStS _ h1).mono ?_
        rintro e w2 ⟨rfl, h2, f2'⟩
        have f2 := f1.call f2' f1.size (fun _ _ h => h)
        go_wp2_with fail
        refine (hMd _ (HEN.out _ f2) h2).mono ?_
        rintro e w3 ⟨rfl, h3, f3'⟩
        have f3 := f2.call f3' f2.size (fun _ _ h => h)
        obtain ⟨K, hK⟩ : ∃ K, w3.heap.size = K := ⟨_, rfl⟩
        have hKg : K ≠ g := by rw [← hK]; exact hfg _ f3
        have hKw : w.heap.size ≤ K := by rw [← hK]; exact f3.size
        have h3a : rK.At (w3.alloc (.cells #[.int .i64 kk, St X, St [], .slice none 0 0] 24)) g := blk_alloc h3
        have hk3 : (w3.alloc (.cells #[.int .i64 kk, St X, St [], .slice none 0 0] 24)).heap[K]? = some (.cells #[.int .i64 kk, St X, St [], .slice none 0 0] 24) := by rw [← hK]; exact blk_new _ _
        have f3a : Fr (· = g) w.heap.size w (w3.alloc (.cells #[.int .i64 kk, St X, St [], .slice none 0 0] 24)) := f3.alloc f3.size _
        have H3 := Lib.hid (And.intro h3a (And.intro hk3 f3a))
        clear f1 h1 f2 h2 f3' f3 h3 h3a hk3 f3a
        go_wp2_with fail
        refine (hSk0 _ (by exact H3.out.1)).mono ?_
        rintro e w4 ⟨rfl, h4, f4'⟩
        have f4 := H3.out.2.2.call f4' H3.out.2.2.size (fun _ _ h => h)
        have hk4 := blk_fr H3.out.2.1 f4' (blk_lt H3.out.2.1) hKg
        have hN := hN58 w4 h4
        obtain ⟨a0, a1, a2, a3, i0, i1, i2, i3⟩ := h4.parts
        have H4 := Lib.hid (And.intro h4 (And.intro hk4 f4))
        clear h4 f4' f4 hk4
        rw [hn] at hN
        go_wp2_with fail
        refine hN.mono ?_
        rintro e w5 ⟨rfl, rfl⟩
        go_wp2_with fail
        refine (hSt _ (by exact H4.out.1)).mono ?_
        rintro e w6 ⟨rfl, h6, f6⟩
        go_wp2_with fail
        go_ret
        exact ⟨.inl ⟨rfl, rfl⟩, h6, H4.out.2.2.call f6 H4.out.2.2.size (fun _ _ h => h)⟩
      · rw [hc] at hc1; cases hc1
      · rw [hc] at hc1; cases hc1
      · clear hc hc1
        go_enter Tryz.func64, Tryz.ntmps64
        go_wp2_with fail
        refine hSc.mono ?_
        rintro e w1 ⟨rfl, h1, f1⟩
        go_wp2_with fail
        refine (hStS _ h1).mono ?_
        rintro e w2 ⟨rfl, h2, f2'⟩
        have f2 := f1.call f2' f1.size (fun _ _ h => h)
        go_wp2_with fail
        refine (hMd _ (HEN.out _ f2) h2).mono ?_
        rintro e w3 ⟨rfl, h3, f3'⟩
        have f3 := f2.call f3' f2.size (fun _ _ h => h)
        obtain ⟨K, hK⟩ : ∃ K, w3.heap.size = K := ⟨_, rfl⟩
        have hKg : K ≠ g := by rw [← hK]; exact hfg _ f3
        have hKw : w.heap.size ≤ K := by rw [← hK]; exact f3.size
        have h3a : rK.At (w3.alloc (.cells #[.int .i64 kk, St X, St [], .slice none 0 0] 24)) g := blk_alloc h3
        have hk3 : (w3.alloc (.cells #[.int .i64 kk, St X, St [], .slice none 0 0] 24)).heap[K]? = some (.cells #[.int .i64 kk, St X, St [], .slice none 0 0] 24) := by rw [← hK]; exact blk_new _ _
        have f3a : Fr (· = g) w.heap.size w (w3.alloc (.cells #[.int .i64 kk, St X, St [], .slice none 0 0] 24)) := f3.alloc f3.size _
        have H3 := Lib.hid (And.intro h3a (And.intro hk3 f3a))
        clear f1 h1 f2 h2 f3' f3 h3 h3a hk3 f3a
        go_wp2_with fail
        refine (hSk0 _ (by exact H3.out.1)).mono ?_
        rintro e w4 ⟨rfl, h4, f4'⟩
        have f4 := H3.out.2.2.call f4' H3.out.2.2.size (fun _ _ h => h)
        have hk4 := blk_fr H3.out.2.1 f4' (blk_lt H3.out.2.1) hKg
        have hN := hN58 w4 h4
        obtain ⟨a0, a1, a2, a3, i0, i1, i2, i3⟩ := h4.parts
        have H4 := Lib.hid (And.intro h4 (And.intro hk4 f4))
        clear h4 f4' f4 hk4
        rw [hn] at hN
        rw [hs] at a1
        have hg1 : ∀ h, (⟨(ca :: cb :: ct).toArray⟩ : ByteArray)[1]'h = cb := fun h => bs_get (ca :: cb :: ct) 1 (by simp) h
        have hI := fun w' => str_IndexByte_no [32, 44, 91, 93, 123, 125] cb w' hcc
        go_wp2_with fail
        refine hN.mono ?_
        rintro e w5 ⟨rfl, rfl⟩
        go_wp2_with fail
        refine (hI _).mono ?_
        rintro e w5 ⟨rfl, rfl⟩
        go_wp2_with fail
        refine (hSt _ (by exact H4.out.1)).mono ?_
        rintro e w6 ⟨rfl, h6, f6⟩
        go_wp2_with fail
        go_ret
        exact ⟨.inl ⟨rfl, rfl⟩, h6, H4.out.2.2.call f6 H4.out.2.2.size (fun _ _ h => h)⟩
    · rcases hcol with ⟨hn, hc⟩ | ⟨ca, hn, hs, hc⟩ | ⟨ca, cb, ct, hn, hs, hcc, hc⟩ | ⟨ca, cb, ct, hn, hs, hcc, hc⟩
      · rw [hc] at hc1; cases hc1
      · clear hc hc1
        go_enter Tryz.func64, Tryz.ntmps64
        go_wp2_with fail
        refine hSc.mono ?_
        rintro e w1 ⟨rfl, h1, f1⟩
        go_wp2_with fail
        refine (hStS _ h1).mono ?_
        rintro e w2 ⟨rfl, h2, f2'⟩
        have f2 := f1.call f2' f1.size (fun _ _ h => h)
        go_wp2_with fail
        refine (hMd _ (HEN.out _ f2) h2).mono ?_
        rintro e w3 ⟨rfl, h3, f3'⟩
        have f3 := f2.call f3' f2.size (fun _ _ h => h)
        obtain ⟨K, hK⟩ : ∃ K, w3.heap.size = K := ⟨_, rfl⟩
        have hKg : K ≠ g := by rw [← hK]; exact hfg _ f3
        have hKw : w.heap.size ≤ K := by rw [← hK]; exact f3.size
        have h3a : rK.At (w3.alloc (.cells #[.int .i64 kk, St X, St [], .slice none 0 0] 24)) g := blk_alloc h3
        have hk3 : (w3.alloc (.cells #[.int .i64 kk, St X, St [], .slice none 0 0] 24)).heap[K]? = some (.cells #[.int .i64 kk, St X, St [], .slice none 0 0] 24) := by rw [← hK]; exact blk_new _ _
        have f3a : Fr (· = g) w.heap.size w (w3.alloc (.cells #[.int .i64 kk, St X, St [], .slice none 0 0] 24)) := f3.alloc f3.size _
        have H3 := Lib.hid (And.intro h3a (And.intro hk3 f3a))
        clear f1 h1 f2 h2 f3' f3 h3 h3a hk3 f3a
        go_wp2_with fail
        refine (hSk0 _ (by exact H3.out.1)).mono ?_
        rintro e w4 ⟨rfl, h4, f4'⟩
        have f4 := H3.out.2.2.call f4' H3.out.2.2.size (fun _ _ h => h)
        have hk4 := blk_fr H3.out.2.1 f4' (blk_lt H3.out.2.1) hKg
        have hN := hN58 w4 h4
        obtain ⟨a0, a1, a2, a3, i0, i1, i2, i3⟩ := h4.parts
        have H4 := Lib.hid (And.intro h4 (And.intro hk4 f4))
        clear h4 f4' f4 hk4
        rw [hn] at hN
        rw [hs] at a1
        have hSk1 := frd_skip g rC 1 (by rw [hs]; simp) w4 H4.out.1
        have okV := (FRd.sub_skip rC 1).ok okC
        have hWV : (rC.skip 1).whole = W := hWC
        go_wp2_with fail
        refine hN.mono ?_
        rintro e w5 ⟨rfl, rfl⟩
        go_wp2_with fail
        refine hSk1.mono ?_
        rintro e w6 ⟨rfl, h6, f6'⟩
        have f6 := H4.out.2.2.call f6' H4.out.2.2.size (fun _ _ h => h)
        have hk6 := blk_fr H4.out.2.1 f6' (blk_lt H4.out.2.1) hKg
        obtain ⟨kd, tt, ta, kids⟩ := t
        have hVal := fun w' he' h' => HV.out (rC.skip 1) (.mk kd tt ta kids) r1 w' hval okV hWV he' h'
        have hkd : w6.drew.heap[K]? = some (.cells #[.int .i64 kk, St X, St [], .slice none 0 0] 24) := hk6
        obtain ⟨p0, p1, p2, p3, q0, q1, q2, q3⟩ := cells4 hkd
        have H6 := Lib.hid (And.intro h6 (And.intro hkd f6))
        have he6 : Env G w6.drew := HEN.out _ f6.drew
        clear h6 f6' f6 hk6 hkd hN a0 a1 a2 a3 i0 i1 i2 i3 hSk1
        go_wp2_with fail
        go_region_with (first | (go_at_call 30; refine (hVal _ he6 (by exact H6.out.1)).mono ?_; rintro x w9 ⟨v9, rfl, hr9, h9, f9⟩; obtain ⟨A9, c9, rfl, hr9'⟩ := hr9.shape; obtain ⟨p0', p1', p2', p3', q0', q1', q2', q3'⟩ := cells4 (blk_fr H6.out.2.1 f9 (blk_lt H6.out.2.1) hKg)))
        all_goals
          go_wp2_with fail
          go_ret
          have s9 := f9.size
          have s6 := H6.out.2.2.size
          have s6' : w6.drew.heap.size = w6.heap.size := rfl
          refine ⟨.inr ⟨w9.heap.size, [.int .i64 kk, St X, St [], .slice none 0 0, .int .i64 kd, St tt, St ta, .slice A9 kids.length c9], by simp, rfl, blk_new _ _, by omega, ?_⟩, blk_alloc h9, ((H6.out.2.2.drew).call f9 (by omega) (fun _ _ h => h)).alloc (by omega) _⟩
          refine .cons kk X [] [] (.slice none 0 0) [] _ _ 0 (World.ownsRow_nil _ _ _ _) (fun b hb => by simp [Value.ownBlock] at hb) .nil ?_
          refine hr9'.keep (fun b hb _ => Below.heap_alloc _ _ _ hb) (fun b _ hK' => ?_)
          have hK2 : w6.drew.heap.size ≤ b := hK'
          show w.heap.size ≤ b
          omega
      · clear hc hc1
        go_enter Tryz.func64, Tryz.ntmps64
        go_wp2_with fail
        refine hSc.mono ?_
        rintro e w1 ⟨rfl, h1, f1⟩
        go_wp2_with fail
        refine (hStS _ h1).mono ?_
        rintro e w2 ⟨rfl, h2, f2'⟩
        have f2 := f1.call f2' f1.size (fun _ _ h => h)
        go_wp2_with fail
        refine (hMd _ (HEN.out _ f2) h2).mono ?_
        rintro e w3 ⟨rfl, h3, f3'⟩
        have f3 := f2.call f3' f2.size (fun _ _ h => h)
        obtain ⟨K, hK⟩ : ∃ K, w3.heap.size = K := ⟨_, rfl⟩
        have hKg : K ≠ g := by rw [← hK]; exact hfg _ f3
        have hKw : w.heap.size ≤ K := by rw [← hK]; exact f3.size
        have h3a : rK.At (w3.alloc (.cells #[.int .i64 kk, St X, St [], .slice none 0 0] 24)) g := blk_alloc h3
        have hk3 : (w3.alloc (.cells #[.int .i64 kk, St X, St [], .slice none 0 0] 24)).heap[K]? = some (.cells #[.int .i64 kk, St X, St [], .slice none 0 0] 24) := by rw [← hK]; exact blk_new _ _
        have f3a : Fr (· = g) w.heap.size w (w3.alloc (.cells #[.int .i64 kk, St X, St [], .slice none 0 0] 24)) := f3.alloc f3.size _
        have H3 := Lib.hid (And.intro h3a (And.intro hk3 f3a))
        clear f1 h1 f2 h2 f3' f3 h3 h3a hk3 f3a
        go_wp2_with fail
        refine (hSk0 _ (by exact H3.out.1)).mono ?_
        rintro e w4 ⟨rfl, h4, f4'⟩
        have f4 := H3.out.2.2.call f4' H3.out.2.2.size (fun _ _ h => h)
        have hk4 := blk_fr H3.out.2.1 f4' (blk_lt H3.out.2.1) hKg
        have hN := hN58 w4 h4
        obtain ⟨a0, a1, a2, a3, i0, i1, i2, i3⟩ := h4.parts
        have H4 := Lib.hid (And.intro h4 (And.intro hk4 f4))
        clear h4 f4' f4 hk4
        rw [hn] at hN
        rw [hs] at a1
        have hSk1 := frd_skip g rC 1 (by rw [hs]; simp) w4 H4.out.1
        have okV := (FRd.sub_skip rC 1).ok okC
        have hWV : (rC.skip 1).whole = W := hWC
        have hg1 : ∀ h, (⟨(ca :: cb :: ct).toArray⟩ : ByteArray)[1]'h = cb := fun h => bs_get (ca :: cb :: ct) 1 (by simp) h
        have hI := fun w' => str_IndexByte_yes [32, 44, 91, 93, 123, 125] cb w' hcc
        go_wp2_with fail
        refine hN.mono ?_
        rintro e w5 ⟨rfl, rfl⟩
        go_wp2_with fail
        refine (hI _).mono ?_
        rintro e w5 ⟨⟨kq, hkq, rfl⟩, rfl⟩
        go_wp2_with fail
        refine hSk1.mono ?_
        rintro e w6 ⟨rfl, h6, f6'⟩
        have f6 := H4.out.2.2.call f6' H4.out.2.2.size (fun _ _ h => h)
        have hk6 := blk_fr H4.out.2.1 f6' (blk_lt H4.out.2.1) hKg
        obtain ⟨kd, tt, ta, kids⟩ := t
        have hVal := fun w' he' h' => HV.out (rC.skip 1) (.mk kd tt ta kids) r1 w' hval okV hWV he' h'
        have hkd : w6.drew.heap[K]? = some (.cells #[.int .i64 kk, St X, St [], .slice none 0 0] 24) := hk6
        obtain ⟨p0, p1, p2, p3, q0, q1, q2, q3⟩ := cells4 hkd
        have H6 := Lib.hid (And.intro h6 (And.intro hkd f6))
        have he6 : Env G w6.drew := HEN.out _ f6.drew
        clear h6 f6' f6 hk6 hkd hN a0 a1 a2 a3 i0 i1 i2 i3 hSk1
        go_wp2_with fail
        go_region_with (first | (go_at_call 30; refine (hVal _ he6 (by exact H6.out.1)).mono ?_; rintro x w9 ⟨v9, rfl, hr9, h9, f9⟩; obtain ⟨A9, c9, rfl, hr9'⟩ := hr9.shape; obtain ⟨p0', p1', p2', p3', q0', q1', q2', q3'⟩ := cells4 (blk_fr H6.out.2.1 f9 (blk_lt H6.out.2.1) hKg)))
        all_goals
          go_wp2_with fail
          go_ret
          have s9 := f9.size
          have s6 := H6.out.2.2.size
          have s6' : w6.drew.heap.size = w6.heap.size := rfl
          refine ⟨.inr ⟨w9.heap.size, [.int .i64 kk, St X, St [], .slice none 0 0, .int .i64 kd, St tt, St ta, .slice A9 kids.length c9], by simp, rfl, blk_new _ _, by omega, ?_⟩, blk_alloc h9, ((H6.out.2.2.drew).call f9 (by omega) (fun _ _ h => h)).alloc (by omega) _⟩
          refine .cons kk X [] [] (.slice none 0 0) [] _ _ 0 (World.ownsRow_nil _ _ _ _) (fun b hb => by simp [Value.ownBlock] at hb) .nil ?_
          refine hr9'.keep (fun b hb _ => Below.heap_alloc _ _ _ hb) (fun b _ hK' => ?_)
          have hK2 : w6.drew.heap.size ≤ b := hK'
          show w.heap.size ≤ b
          omega
      · rw [hc] at hc1; cases hc1
  · rcases hend with ⟨hc1, rfl, rfl⟩ | ⟨t, hc1, hval, rfl⟩
    · rcases hcol with ⟨hn, hc⟩ | ⟨ca, hn, hs, hc⟩ | ⟨ca, cb, ct, hn, hs, hcc, hc⟩ | ⟨ca, cb, ct, hn, hs, hcc, hc⟩
      · clear hc hc1
        go_enter Tryz.func64, Tryz.ntmps64
        go_wp2_with fail
        refine hSc.mono ?_
        rintro e w1 ⟨rfl, h1, f1⟩
        go_wp2_with fail
        have f2 := f1
        have h2 := h1
        refine (hMd _ (HEN.out _ f2) h2).mono ?_
        rintro e w3 ⟨rfl, h3, f3'⟩
        have f3 := f2.call f3' f2.size (fun _ _ h => h)
        obtain ⟨K, hK⟩ : ∃ K, w3.heap.size = K := ⟨_, rfl⟩
        have hKg : K ≠ g := by rw [← hK]; exact hfg _ f3
        have hKw : w.heap.size ≤ K := by rw [← hK]; exact f3.size
        have h3a : rK.At (w3.alloc (.cells #[.int .i64 kk, St X, St [], .slice none 0 0] 24)) g := blk_alloc h3
        have hk3 : (w3.alloc (.cells #[.int .i64 kk, St X, St [], .slice none 0 0] 24)).heap[K]? = some (.cells #[.int .i64 kk, St X, St [], .slice none 0 0] 24) := by rw [← hK]; exact blk_new _ _
        have f3a : Fr (· = g) w.heap.size w (w3.alloc (.cells #[.int .i64 kk, St X, St [], .slice none 0 0] 24)) := f3.alloc f3.size _
        have H3 := Lib.hid (And.intro h3a (And.intro hk3 f3a))
        clear f1 h1 f2 h2 f3' f3 h3 h3a hk3 f3a
        go_wp2_with fail
        refine (hSk0 _ (by exact H3.out.1)).mono ?_
        rintro e w4 ⟨rfl, h4, f4'⟩
        have f4 := H3.out.2.2.call f4' H3.out.2.2.size (fun _ _ h => h)
        have hk4 := blk_fr H3.out.2.1 f4' (blk_lt H3.out.2.1) hKg
        have hN := hN58 w4 h4
        obtain ⟨a0, a1, a2, a3, i0, i1, i2, i3⟩ := h4.parts
        have H4 := Lib.hid (And.intro h4 (And.intro hk4 f4))
        clear h4 f4' f4 hk4
        rw [hn] at hN
        go_wp2_with fail
        refine hN.mono ?_
        rintro e w5 ⟨rfl, rfl⟩
        go_wp2_with fail
        refine (hSt _ (by exact H4.out.1)).mono ?_
        rintro e w6 ⟨rfl, h6, f6⟩
        go_wp2_with fail
        go_ret
        exact ⟨.inl ⟨rfl, rfl⟩, h6, H4.out.2.2.call f6 H4.out.2.2.size (fun _ _ h => h)⟩
      · rw [hc] at hc1; cases hc1
      · rw [hc] at hc1; cases hc1
      · clear hc hc1
        go_enter Tryz.func64, Tryz.ntmps64
        go_wp2_with fail
        refine hSc.mono ?_
        rintro e w1 ⟨rfl, h1, f1⟩
        go_wp2_with fail
        have f2 := f1
        have h2 := h1
        refine (hMd _ (HEN.out _ f2) h2).mono ?_
        rintro e w3 ⟨rfl, h3, f3'⟩
        have f3 := f2.call f3' f2.size (fun _ _ h => h)
        obtain ⟨K, hK⟩ : ∃ K, w3.heap.size = K := ⟨_, rfl⟩
        have hKg : K ≠ g := by rw [← hK]; exact hfg _ f3
        have hKw : w.heap.size ≤ K := by rw [← hK]; exact f3.size
        have h3a : rK.At (w3.alloc (.cells #[.int .i64 kk, St X, St [], .slice none 0 0] 24)) g := blk_alloc h3
        have hk3 : (w3.alloc (.cells #[.int .i64 kk, St X, St [], .slice none 0 0] 24)).heap[K]? = some (.cells #[.int .i64 kk, St X, St [], .slice none 0 0] 24) := by rw [← hK]; exact blk_new _ _
        have f3a : Fr (· = g) w.heap.size w (w3.alloc (.cells #[.int .i64 kk, St X, St [], .slice none 0 0] 24)) := f3.alloc f3.size _
        have H3 := Lib.hid (And.intro h3a (And.intro hk3 f3a))
        clear f1 h1 f2 h2 f3' f3 h3 h3a hk3 f3a
        go_wp2_with fail
        refine (hSk0 _ (by exact H3.out.1)).mono ?_
        rintro e w4 ⟨rfl, h4, f4'⟩
        have f4 := H3.out.2.2.call f4' H3.out.2.2.size (fun _ _ h => h)
        have hk4 := blk_fr H3.out.2.1 f4' (blk_lt H3.out.2.1) hKg
        have hN := hN58 w4 h4
        obtain ⟨a0, a1, a2, a3, i0, i1, i2, i3⟩ := h4.parts
        have H4 := Lib.hid (And.intro h4 (And.intro hk4 f4))
        clear h4 f4' f4 hk4
        rw [hn] at hN
        rw [hs] at a1
        have hg1 : ∀ h, (⟨(ca :: cb :: ct).toArray⟩ : ByteArray)[1]'h = cb := fun h => bs_get (ca :: cb :: ct) 1 (by simp) h
        have hI := fun w' => str_IndexByte_no [32, 44, 91, 93, 123, 125] cb w' hcc
        go_wp2_with fail
        refine hN.mono ?_
        rintro e w5 ⟨rfl, rfl⟩
        go_wp2_with fail
        refine (hI _).mono ?_
        rintro e w5 ⟨rfl, rfl⟩
        go_wp2_with fail
        refine (hSt _ (by exact H4.out.1)).mono ?_
        rintro e w6 ⟨rfl, h6, f6⟩
        go_wp2_with fail
        go_ret
        exact ⟨.inl ⟨rfl, rfl⟩, h6, H4.out.2.2.call f6 H4.out.2.2.size (fun _ _ h => h)⟩
    · rcases hcol with ⟨hn, hc⟩ | ⟨ca, hn, hs, hc⟩ | ⟨ca, cb, ct, hn, hs, hcc, hc⟩ | ⟨ca, cb, ct, hn, hs, hcc, hc⟩
      · rw [hc] at hc1; cases hc1
      · clear hc hc1
        go_enter Tryz.func64, Tryz.ntmps64
        go_wp2_with fail
        refine hSc.mono ?_
        rintro e w1 ⟨rfl, h1, f1⟩
        go_wp2_with fail
        have f2 := f1
        have h2 := h1
        refine (hMd _ (HEN.out _ f2) h2).mono ?_
        rintro e w3 ⟨rfl, h3, f3'⟩
        have f3 := f2.call f3' f2.size (fun _ _ h => h)
        obtain ⟨K, hK⟩ : ∃ K, w3.heap.size = K := ⟨_, rfl⟩
        have hKg : K ≠ g := by rw [← hK]; exact hfg _ f3
        have hKw : w.heap.size ≤ K := by rw [← hK]; exact f3.size
        have h3a : rK.At (w3.alloc (.cells #[.int .i64 kk, St X, St [], .slice none 0 0] 24)) g := blk_alloc h3
        have hk3 : (w3.alloc (.cells #[.int .i64 kk, St X, St [], .slice none 0 0] 24)).heap[K]? = some (.cells #[.int .i64 kk, St X, St [], .slice none 0 0] 24) := by rw [← hK]; exact blk_new _ _
        have f3a : Fr (· = g) w.heap.size w (w3.alloc (.cells #[.int .i64 kk, St X, St [], .slice none 0 0] 24)) := f3.alloc f3.size _
        have H3 := Lib.hid (And.intro h3a (And.intro hk3 f3a))
        clear f1 h1 f2 h2 f3' f3 h3 h3a hk3 f3a
        go_wp2_with fail
        refine (hSk0 _ (by exact H3.out.1)).mono ?_
        rintro e w4 ⟨rfl, h4, f4'⟩
        have f4 := H3.out.2.2.call f4' H3.out.2.2.size (fun _ _ h => h)
        have hk4 := blk_fr H3.out.2.1 f4' (blk_lt H3.out.2.1) hKg
        have hN := hN58 w4 h4
        obtain ⟨a0, a1, a2, a3, i0, i1, i2, i3⟩ := h4.parts
        have H4 := Lib.hid (And.intro h4 (And.intro hk4 f4))
        clear h4 f4' f4 hk4
        rw [hn] at hN
        rw [hs] at a1
        have hSk1 := frd_skip g rC 1 (by rw [hs]; simp) w4 H4.out.1
        have okV := (FRd.sub_skip rC 1).ok okC
        have hWV : (rC.skip 1).whole = W := hWC
        go_wp2_with fail
        refine hN.mono ?_
        rintro e w5 ⟨rfl, rfl⟩
        go_wp2_with fail
        refine hSk1.mono ?_
        rintro e w6 ⟨rfl, h6, f6'⟩
        have f6 := H4.out.2.2.call f6' H4.out.2.2.size (fun _ _ h => h)
        have hk6 := blk_fr H4.out.2.1 f6' (blk_lt H4.out.2.1) hKg
        obtain ⟨kd, tt, ta, kids⟩ := t
        have hVal := fun w' he' h' => HV.out (rC.skip 1) (.mk kd tt ta kids) r1 w' hval okV hWV he' h'
        have hkd : w6.drew.heap[K]? = some (.cells #[.int .i64 kk, St X, St [], .slice none 0 0] 24) := hk6
        obtain ⟨p0, p1, p2, p3, q0, q1, q2, q3⟩ := cells4 hkd
        have H6 := Lib.hid (And.intro h6 (And.intro hkd f6))
        have he6 : Env G w6.drew := HEN.out _ f6.drew
        clear h6 f6' f6 hk6 hkd hN a0 a1 a2 a3 i0 i1 i2 i3 hSk1
        go_wp2_with fail
        go_region_with (first | (go_at_call 30; refine (hVal _ he6 (by exact H6.out.1)).mono ?_; rintro x w9 ⟨v9, rfl, hr9, h9, f9⟩; obtain ⟨A9, c9, rfl, hr9'⟩ := hr9.shape; obtain ⟨p0', p1', p2', p3', q0', q1', q2', q3'⟩ := cells4 (blk_fr H6.out.2.1 f9 (blk_lt H6.out.2.1) hKg)))
        all_goals
          go_wp2_with fail
          go_ret
          have s9 := f9.size
          have s6 := H6.out.2.2.size
          have s6' : w6.drew.heap.size = w6.heap.size := rfl
          refine ⟨.inr ⟨w9.heap.size, [.int .i64 kk, St X, St [], .slice none 0 0, .int .i64 kd, St tt, St ta, .slice A9 kids.length c9], by simp, rfl, blk_new _ _, by omega, ?_⟩, blk_alloc h9, ((H6.out.2.2.drew).call f9 (by omega) (fun _ _ h => h)).alloc (by omega) _⟩
          refine .cons kk X [] [] (.slice none 0 0) [] _ _ 0 (World.ownsRow_nil _ _ _ _) (fun b hb => by simp [Value.ownBlock] at hb) .nil ?_
          refine hr9'.keep (fun b hb _ => Below.heap_alloc _ _ _ hb) (fun b _ hK' => ?_)
          have hK2 : w6.drew.heap.size ≤ b := hK'
          show w.heap.size ≤ b
          omega
      · clear hc hc1
        go_enter Tryz.func64, Tryz.ntmps64
        go_wp2_with fail
        refine hSc.mono ?_
        rintro e w1 ⟨rfl, h1, f1⟩
        go_wp2_with fail
        have f2 := f1
        have h2 := h1
        refine (hMd _ (HEN.out _ f2) h2).mono ?_
        rintro e w3 ⟨rfl, h3, f3'⟩
        have f3 := f2.call f3' f2.size (fun _ _ h => h)
        obtain ⟨K, hK⟩ : ∃ K, w3.heap.size = K := ⟨_, rfl⟩
        have hKg : K ≠ g := by rw [← hK]; exact hfg _ f3
        have hKw : w.heap.size ≤ K := by rw [← hK]; exact f3.size
        have h3a : rK.At (w3.alloc (.cells #[.int .i64 kk, St X, St [], .slice none 0 0] 24)) g := blk_alloc h3
        have hk3 : (w3.alloc (.cells #[.int .i64 kk, St X, St [], .slice none 0 0] 24)).heap[K]? = some (.cells #[.int .i64 kk, St X, St [], .slice none 0 0] 24) := by rw [← hK]; exact blk_new _ _
        have f3a : Fr (· = g) w.heap.size w (w3.alloc (.cells #[.int .i64 kk, St X, St [], .slice none 0 0] 24)) := f3.alloc f3.size _
        have H3 := Lib.hid (And.intro h3a (And.intro hk3 f3a))
        clear f1 h1 f2 h2 f3' f3 h3 h3a hk3 f3a
        go_wp2_with fail
        refine (hSk0 _ (by exact H3.out.1)).mono ?_
        rintro e w4 ⟨rfl, h4, f4'⟩
        have f4 := H3.out.2.2.call f4' H3.out.2.2.size (fun _ _ h => h)
        have hk4 := blk_fr H3.out.2.1 f4' (blk_lt H3.out.2.1) hKg
        have hN := hN58 w4 h4
        obtain ⟨a0, a1, a2, a3, i0, i1, i2, i3⟩ := h4.parts
        have H4 := Lib.hid (And.intro h4 (And.intro hk4 f4))
        clear h4 f4' f4 hk4
        rw [hn] at hN
        rw [hs] at a1
        have hSk1 := frd_skip g rC 1 (by rw [hs]; simp) w4 H4.out.1
        have okV := (FRd.sub_skip rC 1).ok okC
        have hWV : (rC.skip 1).whole = W := hWC
        have hg1 : ∀ h, (⟨(ca :: cb :: ct).toArray⟩ : ByteArray)[1]'h = cb := fun h => bs_get (ca :: cb :: ct) 1 (by simp) h
        have hI := fun w' => str_IndexByte_yes [32, 44, 91, 93, 123, 125] cb w' hcc
        go_wp2_with fail
        refine hN.mono ?_
        rintro e w5 ⟨rfl, rfl⟩
        go_wp2_with fail
        refine (hI _).mono ?_
        rintro e w5 ⟨⟨kq, hkq, rfl⟩, rfl⟩
        go_wp2_with fail
        refine hSk1.mono ?_
        rintro e w6 ⟨rfl, h6, f6'⟩
        have f6 := H4.out.2.2.call f6' H4.out.2.2.size (fun _ _ h => h)
        have hk6 := blk_fr H4.out.2.1 f6' (blk_lt H4.out.2.1) hKg
        obtain ⟨kd, tt, ta, kids⟩ := t
        have hVal := fun w' he' h' => HV.out (rC.skip 1) (.mk kd tt ta kids) r1 w' hval okV hWV he' h'
        have hkd : w6.drew.heap[K]? = some (.cells #[.int .i64 kk, St X, St [], .slice none 0 0] 24) := hk6
        obtain ⟨p0, p1, p2, p3, q0, q1, q2, q3⟩ := cells4 hkd
        have H6 := Lib.hid (And.intro h6 (And.intro hkd f6))
        have he6 : Env G w6.drew := HEN.out _ f6.drew
        clear h6 f6' f6 hk6 hkd hN a0 a1 a2 a3 i0 i1 i2 i3 hSk1
        go_wp2_with fail
        go_region_with (first | (go_at_call 30; refine (hVal _ he6 (by exact H6.out.1)).mono ?_; rintro x w9 ⟨v9, rfl, hr9, h9, f9⟩; obtain ⟨A9, c9, rfl, hr9'⟩ := hr9.shape; obtain ⟨p0', p1', p2', p3', q0', q1', q2', q3'⟩ := cells4 (blk_fr H6.out.2.1 f9 (blk_lt H6.out.2.1) hKg)))
        all_goals
          go_wp2_with fail
          go_ret
          have s9 := f9.size
          have s6 := H6.out.2.2.size
          have s6' : w6.drew.heap.size = w6.heap.size := rfl
          refine ⟨.inr ⟨w9.heap.size, [.int .i64 kk, St X, St [], .slice none 0 0, .int .i64 kd, St tt, St ta, .slice A9 kids.length c9], by simp, rfl, blk_new _ _, by omega, ?_⟩, blk_alloc h9, ((H6.out.2.2.drew).call f9 (by omega) (fun _ _ h => h)).alloc (by omega) _⟩
          refine .cons kk X [] [] (.slice none 0 0) [] _ _ 0 (World.ownsRow_nil _ _ _ _) (fun b hb => by simp [Value.ownBlock] at hb) .nil ?_
          refine hr9'.keep (fun b hb _ => Below.heap_alloc _ _ _ hb) (fun b _ hK' => ?_)
          have hK2 : w6.drew.heap.size ≤ b := hK'
          show w.heap.size ≤ b
          omega
      · rw [hc] at hc1; cases hc1
  · rcases hend with ⟨hc1, rfl, rfl⟩ | ⟨t, hc1, hval, rfl⟩
    · rcases hcol with ⟨hn, hc⟩ | ⟨ca, hn, hs, hc⟩ | ⟨ca, cb, ct, hn, hs, hcc, hc⟩ | ⟨ca, cb, ct, hn, hs, hcc, hc⟩
      · clear hc hc1
        go_enter Tryz.func64, Tryz.ntmps64
        go_wp2_with fail
        refine hSc.mono ?_
        rintro e w1 ⟨rfl, h1, f1⟩
        go_wp2_with fail
        have f2 := f1
        have h2 := h1
        refine (hMd _ (HEN.out _ f2) h2).mono ?_
        rintro e w3 ⟨rfl, h3, f3'⟩
        have f3 := f2.call f3' f2.size (fun _ _ h => h)
        obtain ⟨K, hK⟩ : ∃ K, w3.heap.size = K := ⟨_, rfl⟩
        have hKg : K ≠ g := by rw [← hK]; exact hfg _ f3
        have hKw : w.heap.size ≤ K := by rw [← hK]; exact f3.size
        have h3a : rK.At (w3.alloc (.cells #[.int .i64 kk, St X, St [], .slice none 0 0] 24)) g := blk_alloc h3
        have hk3 : (w3.alloc (.cells #[.int .i64 kk, St X, St [], .slice none 0 0] 24)).heap[K]? = some (.cells #[.int .i64 kk, St X, St [], .slice none 0 0] 24) := by rw [← hK]; exact blk_new _ _
        have f3a : Fr (· = g) w.heap.size w (w3.alloc (.cells #[.int .i64 kk, St X, St [], .slice none 0 0] 24)) := f3.alloc f3.size _
        have H3 := Lib.hid (And.intro h3a (And.intro hk3 f3a))
        clear f1 h1 f2 h2 f3' f3 h3 h3a hk3 f3a
        go_wp2_with fail
        refine (hSk0 _ (by exact H3.out.1)).mono ?_
        rintro e w4 ⟨rfl, h4, f4'⟩
        have f4 := H3.out.2.2.call f4' H3.out.2.2.size (fun _ _ h => h)
        have hk4 := blk_fr H3.out.2.1 f4' (blk_lt H3.out.2.1) hKg
        have hN := hN58 w4 h4
        obtain ⟨a0, a1, a2, a3, i0, i1, i2, i3⟩ := h4.parts
        have H4 := Lib.hid (And.intro h4 (And.intro hk4 f4))
        clear h4 f4' f4 hk4
        rw [hn] at hN
        go_wp2_with fail
        refine hN.mono ?_
        rintro e w5 ⟨rfl, rfl⟩
        go_wp2_with fail
        refine (hSt _ (by exact H4.out.1)).mono ?_
        rintro e w6 ⟨rfl, h6, f6⟩
        go_wp2_with fail
        go_ret
        exact ⟨.inl ⟨rfl, rfl⟩, h6, H4.out.2.2.call f6 H4.out.2.2.size (fun _ _ h => h)⟩
      · rw [hc] at hc1; cases hc1
      · rw [hc] at hc1; cases hc1
      · clear hc hc1
        go_enter Tryz.func64, Tryz.ntmps64
        go_wp2_with fail
        refine hSc.mono ?_
        rintro e w1 ⟨rfl, h1, f1⟩
        go_wp2_with fail
        have f2 := f1
        have h2 := h1
        refine (hMd _ (HEN.out _ f2) h2).mono ?_
        rintro e w3 ⟨rfl, h3, f3'⟩
        have f3 := f2.call f3' f2.size (fun _ _ h => h)
        obtain ⟨K, hK⟩ : ∃ K, w3.heap.size = K := ⟨_, rfl⟩
        have hKg : K ≠ g := by rw [← hK]; exact hfg _ f3
        have hKw : w.heap.size ≤ K := by rw [← hK]; exact f3.size
        have h3a : rK.At (w3.alloc (.cells #[.int .i64 kk, St X, St [], .slice none 0 0] 24)) g := blk_alloc h3
        have hk3 : (w3.alloc (.cells #[.int .i64 kk, St X, St [], .slice none 0 0] 24)).heap[K]? = some (.cells #[.int .i64 kk, St X, St [], .slice none 0 0] 24) := by rw [← hK]; exact blk_new _ _
        have f3a : Fr (· = g) w.heap.size w (w3.alloc (.cells #[.int .i64 kk, St X, St [], .slice none 0 0] 24)) := f3.alloc f3.size _
        have H3 := Lib.hid (And.intro h3a (And.intro hk3 f3a))
        clear f1 h1 f2 h2 f3' f3 h3 h3a hk3 f3a
        go_wp2_with fail
        refine (hSk0 _ (by exact H3.out.1)).mono ?_
        rintro e w4 ⟨rfl, h4, f4'⟩
        have f4 := H3.out.2.2.call f4' H3.out.2.2.size (fun _ _ h => h)
        have hk4 := blk_fr H3.out.2.1 f4' (blk_lt H3.out.2.1) hKg
        have hN := hN58 w4 h4
        obtain ⟨a0, a1, a2, a3, i0, i1, i2, i3⟩ := h4.parts
        have H4 := Lib.hid (And.intro h4 (And.intro hk4 f4))
        clear h4 f4' f4 hk4
        rw [hn] at hN
        rw [hs] at a1
        have hg1 : ∀ h, (⟨(ca :: cb :: ct).toArray⟩ : ByteArray)[1]'h = cb := fun h => bs_get (ca :: cb :: ct) 1 (by simp) h
        have hI := fun w' => str_IndexByte_no [32, 44, 91, 93, 123, 125] cb w' hcc
        go_wp2_with fail
        refine hN.mono ?_
        rintro e w5 ⟨rfl, rfl⟩
        go_wp2_with fail
        refine (hI _).mono ?_
        rintro e w5 ⟨rfl, rfl⟩
        go_wp2_with fail
        refine (hSt _ (by exact H4.out.1)).mono ?_
        rintro e w6 ⟨rfl, h6, f6⟩
        go_wp2_with fail
        go_ret
        exact ⟨.inl ⟨rfl, rfl⟩, h6, H4.out.2.2.call f6 H4.out.2.2.size (fun _ _ h => h)⟩
    · rcases hcol with ⟨hn, hc⟩ | ⟨ca, hn, hs, hc⟩ | ⟨ca, cb, ct, hn, hs, hcc, hc⟩ | ⟨ca, cb, ct, hn, hs, hcc, hc⟩
      · rw [hc] at hc1; cases hc1
      · clear hc hc1
        go_enter Tryz.func64, Tryz.ntmps64
        go_wp2_with fail
        refine hSc.mono ?_
        rintro e w1 ⟨rfl, h1, f1⟩
        go_wp2_with fail
        have f2 := f1
        have h2 := h1
        refine (hMd _ (HEN.out _ f2) h2).mono ?_
        rintro e w3 ⟨rfl, h3, f3'⟩
        have f3 := f2.call f3' f2.size (fun _ _ h => h)
        obtain ⟨K, hK⟩ : ∃ K, w3.heap.size = K := ⟨_, rfl⟩
        have hKg : K ≠ g := by rw [← hK]; exact hfg _ f3
        have hKw : w.heap.size ≤ K := by rw [← hK]; exact f3.size
        have h3a : rK.At (w3.alloc (.cells #[.int .i64 kk, St X, St [], .slice none 0 0] 24)) g := blk_alloc h3
        have hk3 : (w3.alloc (.cells #[.int .i64 kk, St X, St [], .slice none 0 0] 24)).heap[K]? = some (.cells #[.int .i64 kk, St X, St [], .slice none 0 0] 24) := by rw [← hK]; exact blk_new _ _
        have f3a : Fr (· = g) w.heap.size w (w3.alloc (.cells #[.int .i64 kk, St X, St [], .slice none 0 0] 24)) := f3.alloc f3.size _
        have H3 := Lib.hid (And.intro h3a (And.intro hk3 f3a))
        clear f1 h1 f2 h2 f3' f3 h3 h3a hk3 f3a
        go_wp2_with fail
        refine (hSk0 _ (by exact H3.out.1)).mono ?_
        rintro e w4 ⟨rfl, h4, f4'⟩
        have f4 := H3.out.2.2.call f4' H3.out.2.2.size (fun _ _ h => h)
        have hk4 := blk_fr H3.out.2.1 f4' (blk_lt H3.out.2.1) hKg
        have hN := hN58 w4 h4
        obtain ⟨a0, a1, a2, a3, i0, i1, i2, i3⟩ := h4.parts
        have H4 := Lib.hid (And.intro h4 (And.intro hk4 f4))
        clear h4 f4' f4 hk4
        rw [hn] at hN
        rw [hs] at a1
        have hSk1 := frd_skip g rC 1 (by rw [hs]; simp) w4 H4.out.1
        have okV := (FRd.sub_skip rC 1).ok okC
        have hWV : (rC.skip 1).whole = W := hWC
        go_wp2_with fail
        refine hN.mono ?_
        rintro e w5 ⟨rfl, rfl⟩
        go_wp2_with fail
        refine hSk1.mono ?_
        rintro e w6 ⟨rfl, h6, f6'⟩
        have f6 := H4.out.2.2.call f6' H4.out.2.2.size (fun _ _ h => h)
        have hk6 := blk_fr H4.out.2.1 f6' (blk_lt H4.out.2.1) hKg
        obtain ⟨kd, tt, ta, kids⟩ := t
        have hVal := fun w' he' h' => HV.out (rC.skip 1) (.mk kd tt ta kids) r1 w' hval okV hWV he' h'
        have hkd : w6.drew.heap[K]? = some (.cells #[.int .i64 kk, St X, St [], .slice none 0 0] 24) := hk6
        obtain ⟨p0, p1, p2, p3, q0, q1, q2, q3⟩ := cells4 hkd
        have H6 := Lib.hid (And.intro h6 (And.intro hkd f6))
        have he6 : Env G w6.drew := HEN.out _ f6.drew
        clear h6 f6' f6 hk6 hkd hN a0 a1 a2 a3 i0 i1 i2 i3 hSk1
        go_wp2_with fail
        go_region_with (first | (go_at_call 30; refine (hVal _ he6 (by exact H6.out.1)).mono ?_; rintro x w9 ⟨v9, rfl, hr9, h9, f9⟩; obtain ⟨A9, c9, rfl, hr9'⟩ := hr9.shape; obtain ⟨p0', p1', p2', p3', q0', q1', q2', q3'⟩ := cells4 (blk_fr H6.out.2.1 f9 (blk_lt H6.out.2.1) hKg)))
        all_goals
          go_wp2_with fail
          go_ret
          have s9 := f9.size
          have s6 := H6.out.2.2.size
          have s6' : w6.drew.heap.size = w6.heap.size := rfl
          refine ⟨.inr ⟨w9.heap.size, [.int .i64 kk, St X, St [], .slice none 0 0, .int .i64 kd, St tt, St ta, .slice A9 kids.length c9], by simp, rfl, blk_new _ _, by omega, ?_⟩, blk_alloc h9, ((H6.out.2.2.drew).call f9 (by omega) (fun _ _ h => h)).alloc (by omega) _⟩
          refine .cons kk X [] [] (.slice none 0 0) [] _ _ 0 (World.ownsRow_nil _ _ _ _) (fun b hb => by simp [Value.ownBlock] at hb) .nil ?_
          refine hr9'.keep (fun b hb _ => Below.heap_alloc _ _ _ hb) (fun b _ hK' => ?_)
          have hK2 : w6.drew.heap.size ≤ b := hK'
          show w.heap.size ≤ b
          omega
      · clear hc hc1
        go_enter Tryz.func64, Tryz.ntmps64
        go_wp2_with fail
        refine hSc.mono ?_
        rintro e w1 ⟨rfl, h1, f1⟩
        go_wp2_with fail
        have f2 := f1
        have h2 := h1
        refine (hMd _ (HEN.out _ f2) h2).mono ?_
        rintro e w3 ⟨rfl, h3, f3'⟩
        have f3 := f2.call f3' f2.size (fun _ _ h => h)
        obtain ⟨K, hK⟩ : ∃ K, w3.heap.size = K := ⟨_, rfl⟩
        have hKg : K ≠ g := by rw [← hK]; exact hfg _ f3
        have hKw : w.heap.size ≤ K := by rw [← hK]; exact f3.size
        have h3a : rK.At (w3.alloc (.cells #[.int .i64 kk, St X, St [], .slice none 0 0] 24)) g := blk_alloc h3
        have hk3 : (w3.alloc (.cells #[.int .i64 kk, St X, St [], .slice none 0 0] 24)).heap[K]? = some (.cells #[.int .i64 kk, St X, St [], .slice none 0 0] 24) := by rw [← hK]; exact blk_new _ _
        have f3a : Fr (· = g) w.heap.size w (w3.alloc (.cells #[.int .i64 kk, St X, St [], .slice none 0 0] 24)) := f3.alloc f3.size _
        have H3 := Lib.hid (And.intro h3a (And.intro hk3 f3a))
        clear f1 h1 f2 h2 f3' f3 h3 h3a hk3 f3a
        go_wp2_with fail
        refine (hSk0 _ (by exact H3.out.1)).mono ?_
        rintro e w4 ⟨rfl, h4, f4'⟩
        have f4 := H3.out.2.2.call f4' H3.out.2.2.size (fun _ _ h => h)
        have hk4 := blk_fr H3.out.2.1 f4' (blk_lt H3.out.2.1) hKg
        have hN := hN58 w4 h4
        obtain ⟨a0, a1, a2, a3, i0, i1, i2, i3⟩ := h4.parts
        have H4 := Lib.hid (And.intro h4 (And.intro hk4 f4))
        clear h4 f4' f4 hk4
        rw [hn] at hN
        rw [hs] at a1
        have hSk1 := frd_skip g rC 1 (by rw [hs]; simp) w4 H4.out.1
        have okV := (FRd.sub_skip rC 1).ok okC
        have hWV : (rC.skip 1).whole = W := hWC
        have hg1 : ∀ h, (⟨(ca :: cb :: ct).toArray⟩ : ByteArray)[1]'h = cb := fun h => bs_get (ca :: cb :: ct) 1 (by simp) h
        have hI := fun w' => str_IndexByte_yes [32, 44, 91, 93, 123, 125] cb w' hcc
        go_wp2_with fail
        refine hN.mono ?_
        rintro e w5 ⟨rfl, rfl⟩
        go_wp2_with fail
        refine (hI _).mono ?_
        rintro e w5 ⟨⟨kq, hkq, rfl⟩, rfl⟩
        go_wp2_with fail
        refine hSk1.mono ?_
        rintro e w6 ⟨rfl, h6, f6'⟩
        have f6 := H4.out.2.2.call f6' H4.out.2.2.size (fun _ _ h => h)
        have hk6 := blk_fr H4.out.2.1 f6' (blk_lt H4.out.2.1) hKg
        obtain ⟨kd, tt, ta, kids⟩ := t
        have hVal := fun w' he' h' => HV.out (rC.skip 1) (.mk kd tt ta kids) r1 w' hval okV hWV he' h'
        have hkd : w6.drew.heap[K]? = some (.cells #[.int .i64 kk, St X, St [], .slice none 0 0] 24) := hk6
        obtain ⟨p0, p1, p2, p3, q0, q1, q2, q3⟩ := cells4 hkd
        have H6 := Lib.hid (And.intro h6 (And.intro hkd f6))
        have he6 : Env G w6.drew := HEN.out _ f6.drew
        clear h6 f6' f6 hk6 hkd hN a0 a1 a2 a3 i0 i1 i2 i3 hSk1
        go_wp2_with fail
        go_region_with (first | (go_at_call 30; refine (hVal _ he6 (by exact H6.out.1)).mono ?_; rintro x w9 ⟨v9, rfl, hr9, h9, f9⟩; obtain ⟨A9, c9, rfl, hr9'⟩ := hr9.shape; obtain ⟨p0', p1', p2', p3', q0', q1', q2', q3'⟩ := cells4 (blk_fr H6.out.2.1 f9 (blk_lt H6.out.2.1) hKg)))
        all_goals
          go_wp2_with fail
          go_ret
          have s9 := f9.size
          have s6 := H6.out.2.2.size
          have s6' : w6.drew.heap.size = w6.heap.size := rfl
          refine ⟨.inr ⟨w9.heap.size, [.int .i64 kk, St X, St [], .slice none 0 0, .int .i64 kd, St tt, St ta, .slice A9 kids.length c9], by simp, rfl, blk_new _ _, by omega, ?_⟩, blk_alloc h9, ((H6.out.2.2.drew).call f9 (by omega) (fun _ _ h => h)).alloc (by omega) _⟩
          refine .cons kk X [] [] (.slice none 0 0) [] _ _ 0 (World.ownsRow_nil _ _ _ _) (fun b hb => by simp [Value.ownBlock] at hb) .nil ?_
          refine hr9'.keep (fun b hb _ => Below.heap_alloc _ _ _ hb) (fun b _ hK' => ?_)
          have hK2 : w6.drew.heap.size ≤ b := hK'
          show w.heap.size ≤ b
          omega
      · rw [hc] at hc1; cases hc1
end Go.Proofs.YtbmonfcahhhdeaaGreatDoor
