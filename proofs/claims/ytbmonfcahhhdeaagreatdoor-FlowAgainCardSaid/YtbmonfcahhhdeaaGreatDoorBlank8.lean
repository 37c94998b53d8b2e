/- FlowBlanks' plain law: blanks behind a text that is well: value. -/
import Derived.Test.YtbmonfcahhhdeaaGreatDoorBlank7
set_option linter.unusedVariables false
set_option linter.unusedSimpArgs false
namespace Go.Proofs.YtbmonfcahhhdeaaGreatDoor
open Go.RowKit

theorem Bh.of_ne {n : Nat} {r r' : FRd} (h : Bh n r r') (hs : r.s ≠ []) : r'.s = r.s ++ sp n := by
  rcases h.2.2.2.2.2 with e | ⟨e1, _⟩
  · exact e
  · exact absurd e1 hs
theorem Bh.next_any {n : Nat} {r r' : FRd} (h : Bh n r r') (hs : r.s ≠ []) (cs : Bs) : r'.next cs = r.next cs := by
  unfold FRd.next
  rw [h.well.1, h.well.2, h.of_ne hs]
  cases hx : r.s with
  | nil => exact absurd hx hs
  | cons a b => rfl
theorem Bh.pos {n : Nat} {r r' : FRd} (h : Bh n r r') (hs : r.s ≠ []) : r'.pos = r.pos := by
  unfold FRd.pos
  rw [h.of_ne hs, h.2.2.2.2.1, List.length_append, List.length_replicate]
  omega
theorem next_len {r : FRd} {cs : Bs} (h : r.next cs = true) : 1 ≤ r.s.length := List.length_pos_iff.2 (next_ne h)
theorem name_keeps_ill (r : FRd) (h : r.well = false) : r.name.well = false := by
  unfold FRd.name
  split
  · exact stray_is_ill _
  split
  · exact wrong_is_ill _ (by decide) _
  · exact h
theorem Bh.tag {n : Nat} {r r' : FRd} (h : Bh n r r') (hs : r.next [33] = true) (hw : r.tag.2.well = true) : r'.tag.1 = r.tag.1 ∧ Bh n r.tag.2 r'.tag.2 := by
  have h1 := h.dropS 1 (next_len hs)
  unfold FRd.tag at hw ⊢
  rw [h1.next [33] (by decide)]
  by_cases c1 : (r.dropS 1).next [33] = false
  · rw [if_pos c1] at hw; rw [stray_is_ill] at hw; cases hw
  rw [if_neg c1] at hw
  rw [if_neg c1, if_neg c1]
  have c1' : (r.dropS 1).next [33] = true := by simpa using c1
  have hl : 2 ≤ r.s.length := by
    have := next_len c1'
    have e : (r.dropS 1).s.length = r.s.length - 1 := by show (r.s.drop 1).length = _; rw [List.length_drop]
    omega
  have h2 := h.dropS 2 hl
  have e := h.of_ne (next_ne hs)
  by_cases c2 : r.s.drop 2 = []
  · rw [if_pos c2] at hw; rw [stray_is_ill] at hw; cases hw
  rw [if_neg c2] at hw
  rw [if_neg c2]
  have ed : r'.s.drop 2 = r.s.drop 2 ++ sp n := by rw [e, drop_behind _ _ _ hl]
  have c2' : ¬ r'.s.drop 2 = [] := by rw [ed]; intro hx; exact c2 (List.append_eq_nil_iff.1 hx).1
  rw [if_neg c2', ed, word_behind _ _ _ lowers_no]
  obtain ⟨_, h3⟩ := h2.word lowers lowers_no
  by_cases c3 : kindOf (wordL (r.s.drop 2) lowers) = 0
  · rw [if_pos c3] at hw; rw [wrong_is_ill _ (by decide)] at hw; cases hw
  rw [if_neg c3, if_neg c3]
  exact ⟨rfl, h3⟩
theorem Bh.after {n : Nat} {r r' : FRd} (h : Bh n r r') (f : Bool) (hw : (r.after f).well = true) : Bh n (r.after f) (r'.after f) := by
  have hk := h.skip 0 (Nat.zero_le _)
  unfold FRd.after at hw ⊢
  by_cases c : r.s ≠ [] ∧ r.next [32] = false ∧ (f && r.next flows) = false
  · rw [if_pos c] at hw
    have hi : ((r.wrong 3 r.pos).skip 0).well = false := wrong_is_ill r (by decide) _
    rw [hi] at hw
    cases hw
  · rw [if_neg c]
    have c' : ¬ (r'.s ≠ [] ∧ r'.next [32] = false ∧ (f && r'.next flows) = false) := by
      by_cases hs : r.s = []
      · rcases h.2.2.2.2.2 with e | ⟨_, e2⟩
        · rw [hs] at e
          rintro ⟨x1, x2, _⟩
          unfold FRd.next at x2
          rw [h.well.2, e] at x2
          rw [e] at x1
          cases n with
          | zero => exact x1 rfl
          | succ n => cases x2
        · exact fun x => x.1 e2
      · rw [h.next_any hs, h.next_any hs, h.of_ne hs]
        rintro ⟨x1, x2, x3⟩
        exact c ⟨hs, x2, x3⟩
    rw [if_neg c']
    exact hk
theorem props_ill (f : Bool) (k : Nat) (r : FRd) (p q : Pr) (r1 : FRd) (h : r.well = false) (hm : FRd.props f k r p = some (q, r1)) : q = p ∧ r1 = r := by
  cases k with
  | zero => simp [FRd.props] at hm
  | succ k =>
    rw [FRd.props, if_pos h] at hm
    simp only [Option.some.injEq, Prod.mk.injEq] at hm
    exact ⟨hm.1.symm, hm.2.symm⟩
theorem Bh.props {n : Nat} (f : Bool) : ∀ (k : Nat) (r r' : FRd) (p q : Pr) (r1 : FRd), Bh n r r' → FRd.props f k r p = some (q, r1) → r1.well = true → ∃ r1', FRd.props f k r' p = some (q, r1') ∧ Bh n r1 r1'
  | 0, r, r', p, q, r1, h, hm, hw => by simp [FRd.props] at hm
  | k + 1, r, r', p, q, r1, h, hm, hw => by
    rw [FRd.props] at hm ⊢
    rw [h.well.2, h.next [38] (by decide), h.next [33] (by decide)]
    rw [if_neg (by rw [h.well.1]; decide)] at hm
    rw [if_neg (by decide)]
    by_cases c2 : p.anchor = [] ∧ r.next [38] = true
    · rw [if_pos c2] at hm ⊢
      have wa : ((r.dropS 1).name.after f).well = true := by
        by_cases x : ((r.dropS 1).name.after f).well = true
        · exact x
        · obtain ⟨_, rfl⟩ := props_ill f k _ _ _ _ (by simpa using x) hm
          exact absurd hw x
      have wn : (r.dropS 1).name.well = true := by
        by_cases x : (r.dropS 1).name.well = true
        · exact x
        · rw [after_ill _ f (by simpa using x)] at wa; cases wa
      obtain ⟨e, h1⟩ := (h.dropS 1 (next_len c2.2)).name wn
      have e' : wordL (r'.s.drop 1) lettersBs = wordL (r.s.drop 1) lettersBs := e
      rw [e']
      exact Bh.props f k _ _ _ q r1 (h1.after f wa) hm hw
    rw [if_neg c2] at hm ⊢
    by_cases c3 : p.tag = 0 ∧ r.next [33] = true
    · rw [if_pos c3] at hm ⊢
      have wa : (r.tag.2.after f).well = true := by
        by_cases x : (r.tag.2.after f).well = true
        · exact x
        · obtain ⟨_, rfl⟩ := props_ill f k _ _ _ _ (by simpa using x) hm
          exact absurd hw x
      have wn : r.tag.2.well = true := by
        by_cases x : r.tag.2.well = true
        · exact x
        · rw [after_ill _ f (by simpa using x)] at wa; cases wa
      obtain ⟨e, h1⟩ := h.tag c3.2 wn
      rw [e, h.pos (next_ne c3.2)]
      exact Bh.props f k _ _ _ q r1 (h1.after f wa) hm hw
    · rw [if_neg c3] at hm ⊢
      simp only [Option.some.injEq, Prod.mk.injEq] at hm
      obtain ⟨rfl, rfl⟩ := hm
      exact ⟨r', rfl, h⟩
theorem scalar_ill (r : FRd) (f : Bool) (h : r.well = false) : r.scalar f = ([], false, r) := by
  unfold FRd.scalar
  rw [if_neg (by rw [h]; decide)]
theorem made_ill (r : FRd) (t : Bs) (q : Bool) (tag tagAt : Int) (h : r.well = false) : (r.made t q tag tagAt).2.well = false := by
  unfold FRd.made
  split
  · exact h
  split
  · exact wrong_is_ill _ (by decide) _
  split
  · exact h
  · exact h
theorem value_ill (k : Nat) (r : FRd) (f : Bool) (deep : Int) (t : T) (r1 : FRd) (h : r.well = false) (hm : FRd.value k r f deep = some (t, r1)) : r1.well = false := by
  cases k with
  | zero => simp [FRd.value] at hm
  | succ k =>
    rw [FRd.value] at hm
    have hs : (r.skip 0).well = false := h
    rcases hx : FRd.props f 4 (r.skip 0) Pr.no with _ | ⟨p, rp⟩
    · rw [hx] at hm; cases hm
    rw [hx] at hm
    obtain ⟨_, rfl⟩ := props_ill f 4 _ _ _ _ hs hx
    dsimp only at hm
    rw [if_neg (by rw [next_ill hs]; decide), if_neg (by rw [next_ill hs]; decide), if_neg (by rw [next_ill hs]; decide), scalar_ill _ f hs] at hm
    simp only [Option.some.injEq, Prod.mk.injEq] at hm
    obtain ⟨_, rfl⟩ := hm
    exact made_ill _ _ _ _ _ hs
/-- The same part, with blanks behind. -/
def BhP (n : Nat) {α : Type} (v : FRd → Option (α × FRd)) : Prop := ∀ r r' t r1, Bh n r r' → v r = some (t, r1) → r1.well = true → ∃ r1', v r' = some (t, r1') ∧ Bh n r1 r1'
theorem Bh.made {n : Nat} {r r' : FRd} (h : Bh n r r') (t : Bs) (q : Bool) (tag tagAt : Int) (hw : (r.made t q tag tagAt).2.well = true) : (r'.made t q tag tagAt).1 = (r.made t q tag tagAt).1 ∧ Bh n (r.made t q tag tagAt).2 (r'.made t q tag tagAt).2 := by
  unfold FRd.made at hw ⊢
  split
  · exact ⟨rfl, h⟩
  rename_i c1
  rw [if_neg c1] at hw
  split
  · rename_i c2
    rw [if_pos c2] at hw
    rw [wrong_is_ill _ (by decide)] at hw
    cases hw
  split
  · exact ⟨rfl, h⟩
  · exact ⟨rfl, h⟩
theorem BhP.item {n : Nat} {v : FRd → Option (T × FRd)} (hi : ∀ r t r1, r.well = false → v r = some (t, r1) → r1.well = false) (hv : BhP n v) : BhP n (FRd.item v) := by
  intro r r' t r1 h hm hw
  unfold FRd.item at hm ⊢
  rcases hx : v r.itemR with _ | ⟨u, r2⟩
  · rw [hx] at hm; cases hm
  rw [hx] at hm
  simp only [Option.some.injEq, Prod.mk.injEq] at hm
  obtain ⟨rfl, rfl⟩ := hm
  have hwi : r.itemR.well = true := by
    by_cases x : r.itemR.well = true
    · exact x
    · rw [hi _ _ _ (by simpa using x) hx] at hw; cases hw
  unfold FRd.itemR at hwi hx ⊢
  by_cases c : r.s = [] ∨ r.next [44] = true
  · rw [if_pos c, stray_is_ill] at hwi; cases hwi
  rw [if_neg c] at hx
  have hs : r.s ≠ [] := fun x => c (.inl x)
  have c' : ¬ (r'.s = [] ∨ r'.next [44] = true) := by
    rw [h.next_any hs, h.of_ne hs]
    rintro (x | x)
    · exact hs (List.append_eq_nil_iff.1 x).1
    · exact c (.inr x)
  rw [if_neg c']
  obtain ⟨r2', e, h2⟩ := hv _ _ _ _ h hx hw
  exact ⟨r2', by rw [e], h2⟩
theorem Bh.colon {n : Nat} {r r' : FRd} (h : Bh n r r') : r'.colon = r.colon := by
  unfold FRd.colon
  rw [h.next [58] (by decide)]
  rcases h.2.2.2.2.2 with e | ⟨e1, e2⟩
  · rw [e]
    rcases hx : r.s with _ | ⟨a, _ | ⟨b, t⟩⟩
    · have : r.next [58] = false := by unfold FRd.next; rw [hx]; simp
      rw [this]; rfl
    · cases n with
      | zero => rfl
      | succ n => show (_ && (32 :: flows).contains 32) = _; rw [show (32 :: flows).contains 32 = true from by kernel_rfl]
    · rfl
  · rw [e1, e2]
theorem BhP.entry {n : Nat} {v : FRd → Option (T × FRd)} (hi : ∀ r t r1, r.well = false → v r = some (t, r1) → r1.well = false) (hv : BhP n v) : BhP n (FRd.entry v) := by
  intro r r' t r1 h hm hw
  have hkw : r.key.2.well = true := by
    by_cases x : r.key.2.well = true
    · exact x
    have x0 : r.key.2.well = false := by simpa using x
    have x' : ((r.key.2.skip 0).skip 1).well = false := x0
    unfold FRd.entry at hm
    split at hm
    · rename_i c
      rcases hx : v ((r.key.2.skip 0).skip 1) with _ | ⟨u, r2⟩
      · rw [hx] at hm; cases hm
      rw [hx] at hm
      simp only [Option.some.injEq, Prod.mk.injEq] at hm
      obtain ⟨rfl, rfl⟩ := hm
      rw [hi _ _ _ x' hx] at hw
      cases hw
    · simp only [Option.some.injEq, Prod.mk.injEq] at hm
      obtain ⟨rfl, rfl⟩ := hm
      rw [stray_is_ill] at hw
      cases hw
  have hKw : r.keyR.well = true := by
    by_cases x : r.keyR.well = true
    · exact x
    · have := made_ill r.keyR (r.scalar true).1 (r.scalar true).2.1 0 0 (by simpa using x)
      unfold FRd.key at hkw
      rw [this] at hkw
      cases hkw
  have hc : ¬ ((r.scalar true).1 = [] ∧ (r.scalar true).2.1 = false) := by
    intro c
    unfold FRd.keyR at hKw
    rw [if_pos c, stray_is_ill] at hKw
    cases hKw
  have hkR : r.keyR = (r.scalar true).2.2 := by unfold FRd.keyR; rw [if_neg hc]
  obtain ⟨s1, s2, s3⟩ := h.scalar true (by rw [← hkR]; exact hKw)
  have hkR' : r'.keyR = (r'.scalar true).2.2 := by unfold FRd.keyR; rw [s1, s2, if_neg hc]
  have hK : Bh n r.keyR r'.keyR := by rw [hkR, hkR']; exact s3
  have hk := hK.made (r.scalar true).1 (r.scalar true).2.1 0 0 hkw
  have e1 : r'.key.1 = r.key.1 := by unfold FRd.key; rw [s1, s2]; exact hk.1
  have e2 : Bh n r.key.2 r'.key.2 := by unfold FRd.key; rw [s1, s2]; exact hk.2
  have e3 := e2.skip 0 (Nat.zero_le _)
  unfold FRd.entry at hm ⊢
  rw [e3.colon, e1, s1]
  by_cases c : (r.key.2.skip 0).colon = true
  · rw [if_pos c] at hm ⊢
    have hl : 1 ≤ (r.key.2.skip 0).s.length := next_len (cs := [58]) (by unfold FRd.colon at c; exact (Bool.and_eq_true_iff.1 c).1)
    rcases hx : v ((r.key.2.skip 0).skip 1) with _ | ⟨u, r2⟩
    · rw [hx] at hm; cases hm
    rw [hx] at hm
    simp only [Option.some.injEq, Prod.mk.injEq] at hm
    obtain ⟨rfl, rfl⟩ := hm
    obtain ⟨r2', e, h2⟩ := hv _ _ _ _ (e3.skip 1 hl) hx hw
    exact ⟨r2', by rw [e], h2⟩
  · rw [if_neg c] at hm
    simp only [Option.some.injEq, Prod.mk.injEq] at hm
    obtain ⟨rfl, rfl⟩ := hm
    rw [stray_is_ill] at hw
    cases hw
theorem BhP.partsL {n : Nat} {v : FRd → Option (List T × FRd)} (hv : BhP n v) (e : UInt8) (he : ([e] : Bs).contains 32 = false) : ∀ (m : Nat) (r r' : FRd) (l l1 : List T) (r1 : FRd), Bh n r r' → FRd.partsL v e m r l = some (l1, r1) → r1.well = true → ∃ r1', FRd.partsL v e m r' l = some (l1, r1') ∧ Bh n r1 r1' ∧ r1.next [e] = true
  | 0, r, r', l, l1, r1, h, hm, hw => by simp [FRd.partsL] at hm
  | m + 1, r, r', l, l1, r1, h, hm, hw => by
    rw [FRd.partsL] at hm ⊢
    rw [h.well.2, h.next [e] he]
    rw [h.well.1] at hm
    by_cases c : (true && !r.next [e]) = true
    · rw [if_pos c] at hm ⊢
      rcases hx : v r with _ | ⟨ks, r2⟩
      · rw [hx] at hm; cases hm
      rw [hx] at hm
      simp only [] at hm
      have hend : ∀ (r3 : FRd), r3.well = false → FRd.partsL v e m r3 (l ++ ks) = some (l1, r1) → False := fun r3 hi hp => by
        cases m with
        | zero => simp [FRd.partsL] at hp
        | succ m =>
          rw [partsL_ends v e m r3 _ (by rw [hi]; rfl)] at hp
          simp only [Option.some.injEq, Prod.mk.injEq] at hp
          rw [← hp.2, hi] at hw
          cases hw
      have w2 : r2.well = true := by
        by_cases x : r2.well = true
        · exact x
        · have x' : r2.well = false := by simpa using x
          refine (hend _ ?_ hm).elim
          split
          · exact x'
          split
          · exact x'
          · exact stray_is_ill _
      obtain ⟨r2', ex, h2⟩ := hv _ _ _ _ h hx w2
      rw [ex]
      have h20 := h2.skip 0 (Nat.zero_le _)
      simp only []
      rw [h20.next [44] (by decide), h20.next [e] he]
      by_cases c44 : (r2.skip 0).next [44] = true
      · rw [if_pos c44] at hm ⊢
        exact BhP.partsL hv e he m _ _ _ _ _ (h20.skip 1 (next_len c44)) hm hw
      rw [if_neg c44] at hm ⊢
      by_cases ce : (r2.skip 0).next [e] = true
      · rw [if_pos ce] at hm ⊢
        exact BhP.partsL hv e he m _ _ _ _ _ h20 hm hw
      · rw [if_neg ce] at hm
        exact (hend _ (stray_is_ill _) hm).elim
    · rw [if_neg c] at hm ⊢
      simp only [Option.some.injEq, Prod.mk.injEq] at hm
      obtain ⟨rfl, rfl⟩ := hm
      exact ⟨r', rfl, h, by simpa using c⟩
theorem BhP.list {n : Nat} {v : FRd → Option (List T × FRd)} (hv : BhP n v) (kind : Int) (e : UInt8) (he : ([e] : Bs).contains 32 = false) (m : Nat) (deep : Int) (p : Pr) (r r' : FRd) (t : T) (r1 : FRd) (h : Bh n r r') (hl : 1 ≤ r.s.length) (hm : FRd.list v kind e m deep p r = some (t, r1)) (hw : r1.well = true) :
    ∃ r1', FRd.list v kind e m deep p r' = some (t, r1') ∧ Bh n r1 r1' := by
  unfold FRd.list at hm ⊢
  split at hm
  · rename_i c
    simp only [Option.some.injEq, Prod.mk.injEq] at hm
    obtain ⟨rfl, rfl⟩ := hm
    rw [wrong_is_ill _ (by decide)] at hw
    cases hw
  · rename_i c
    rw [if_neg c]
    unfold FRd.parts at hm ⊢
    rcases hx : FRd.partsL v e m (r.skip 1) [] with _ | ⟨l, r2⟩
    · rw [hx] at hm; cases hm
    rw [hx] at hm
    simp only [Option.some.injEq, Prod.mk.injEq] at hm ⊢
    obtain ⟨rfl, rfl⟩ := hm
    have ct : ¬ (p.tag ≠ 0 ∧ p.tag ≠ kind) := by
      intro x
      rw [if_pos x, wrong_is_ill _ (by decide)] at hw
      cases hw
    rw [if_neg ct] at hw
    have w2 : r2.well = true := by
      by_cases x : r2.well = true
      · exact x
      · rw [if_neg x] at hw; exact absurd hw x
    obtain ⟨r2', ex, h2, hn⟩ := BhP.partsL hv e he m _ _ _ _ _ (h.skip 1 hl) hx w2
    rw [ex]
    simp only [Option.some.injEq, Prod.mk.injEq]
    rw [if_neg ct, if_neg ct, h2.well.1, h2.well.2, if_pos rfl, if_pos rfl]
    exact ⟨_, ⟨trivial, rfl⟩, h2.dropS 1 (next_len hn)⟩
theorem value_bh (n : Nat) : ∀ (k : Nat) (f : Bool) (deep : Int), BhP n (fun r => FRd.value k r f deep)
  | 0, f, deep => fun r r' t r1 h hm hw => by simp [FRd.value] at hm
  | k + 1, f, deep => by
    intro r r' t r1 h hm hw
    have ih := value_bh n k true (deep + 1)
    have il : ∀ r t r1, r.well = false → FRd.value k r true (deep + 1) = some (t, r1) → r1.well = false := fun r t r1 a b => value_ill k r true (deep + 1) t r1 a b
    simp only [] at hm ⊢
    rw [FRd.value] at hm ⊢
    rcases hx : FRd.props f 4 (r.skip 0) Pr.no with _ | ⟨p, rp⟩
    · rw [hx] at hm; cases hm
    rw [hx] at hm
    have wp : rp.well = true := by
      by_cases x : rp.well = true
      · exact x
      have x' : rp.well = false := by simpa using x
      dsimp only at hm
      rw [if_neg (by rw [next_ill x']; decide), if_neg (by rw [next_ill x']; decide), if_neg (by rw [next_ill x']; decide), scalar_ill _ f x'] at hm
      simp only [Option.some.injEq, Prod.mk.injEq] at hm
      obtain ⟨_, rfl⟩ := hm
      rw [made_ill _ _ _ _ _ x'] at hw
      cases hw
    obtain ⟨rp', ex, h2⟩ := Bh.props f 4 _ _ Pr.no p rp (h.skip 0 (Nat.zero_le _)) hx wp
    rw [ex]
    simp only [] at hm ⊢
    rw [h2.next [42] (by decide), h2.next [91] (by decide), h2.next [123] (by decide)]
    by_cases c1 : rp.next [42] = true
    · rw [if_pos c1] at hm ⊢
      simp only [Option.some.injEq, Prod.mk.injEq] at hm ⊢
      obtain ⟨rfl, rfl⟩ := hm
      have ws : (rp.starR p).well = true := by
        by_cases x : (rp.starR p).well = true
        · exact x
        · rw [name_keeps_ill _ (by simpa using x)] at hw; cases hw
      have cp : p.anchor = [] ∧ p.tag = 0 ∧ p.tagAt = 0 := by
        by_cases x : p.anchor = [] ∧ p.tag = 0 ∧ p.tagAt = 0
        · exact x
        · unfold FRd.starR at ws
          rw [if_neg x] at ws
          have hi : (rp.stray.dropS 1).well = false := stray_is_ill rp
          rw [hi] at ws
          cases ws
      have hs : Bh n (rp.starR p) (rp'.starR p) := by
        unfold FRd.starR
        rw [if_pos cp, if_pos cp]
        exact h2.dropS 1 (next_len c1)
      obtain ⟨e, h3⟩ := hs.name hw
      rw [e]
      exact ⟨_, ⟨rfl, rfl⟩, h3⟩
    rw [if_neg c1] at hm ⊢
    by_cases c2 : rp.next [91] = true
    · rw [if_pos c2] at hm ⊢
      exact BhP.list (ih.item il) _ _ (by decide) _ _ _ _ _ _ _ h2 (next_len c2) hm hw
    rw [if_neg c2] at hm ⊢
    by_cases c3 : rp.next [123] = true
    · rw [if_pos c3] at hm ⊢
      exact BhP.list (ih.entry il) _ _ (by decide) _ _ _ _ _ _ _ h2 (next_len c3) hm hw
    rw [if_neg c3] at hm ⊢
    simp only [Option.some.injEq, Prod.mk.injEq] at hm ⊢
    obtain ⟨rfl, rfl⟩ := hm
    have wsc : (rp.scalar f).2.2.well = true := by
      by_cases x : (rp.scalar f).2.2.well = true
      · exact x
      · rw [made_ill _ _ _ _ _ (by simpa using x)] at hw; cases hw
    obtain ⟨s1, s2, s3⟩ := h2.scalar f wsc
    have hk := s3.made (rp.scalar f).1 (rp.scalar f).2.1 p.tag p.tagAt hw
    rw [s1, s2, hk.1]
    exact ⟨_, ⟨rfl, rfl⟩, hk.2⟩
end Go.Proofs.YtbmonfcahhhdeaaGreatDoor
