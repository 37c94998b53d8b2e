/- Trees: what is put is read. A tree that was put is read. -/
import Derived.Test.YtbmonfcahhhdeaaGreatDoorPut3
import Derived.Test.YtbmonfcahhhdeaaGreatDoorDeep2
import Derived.Test.YtbmonfcahhhdeaaGreatDoorFMod2
set_option linter.unusedVariables false
set_option linter.unusedSimpArgs false
namespace Go.Proofs.YtbmonfcahhhdeaaGreatDoor
open Go.RowKit

/-- A reader that is well. -/
abbrev FRd.of (W : Int) (s : Bs) : FRd := ⟨W, s, 0, 0⟩
theorem of_well (W : Int) (s : Bs) : (FRd.of W s).well = true := rfl
theorem of_next (W : Int) (b : UInt8) (z cs : Bs) : (FRd.of W (b :: z)).next cs = cs.contains b := by simp [FRd.next, FRd.well]
theorem of_none (W : Int) (cs : Bs) : (FRd.of W []).next cs = false := by simp [FRd.next, FRd.well]
theorem of_skip0 {W : Int} {b : UInt8} {z : Bs} (h : b ≠ 32) : (FRd.of W (b :: z)).skip 0 = FRd.of W (b :: z) := by
  unfold FRd.skip
  simp only [List.drop_zero]
  rw [trimL_head h]
theorem of_skip0_nil (W : Int) : (FRd.of W []).skip 0 = FRd.of W [] := rfl
theorem of_skip1 {W : Int} {b c : UInt8} {z : Bs} (h : b ≠ 32) : (FRd.of W (c :: b :: z)).skip 1 = FRd.of W (b :: z) := by
  unfold FRd.skip
  simp only [List.drop_succ_cons, List.drop_zero]
  rw [trimL_head h]
theorem of_skip2 {W : Int} {b c : UInt8} {z : Bs} (h : b ≠ 32) : (FRd.of W (c :: 32 :: b :: z)).skip 1 = FRd.of W (b :: z) := by
  unfold FRd.skip
  simp only [List.drop_succ_cons, List.drop_zero]
  have : trimL (32 :: b :: z) [32] = trimL (b :: z) [32] := by unfold trimL; rw [List.dropWhile_cons_of_pos (by decide)]
  rw [this, trimL_head h]
/-- How a value's text begins. -/
def Hd (x : Bs) : Prop := ∃ b z, x = b :: z ∧ b ≠ 32 ∧ b ≠ 38 ∧ b ≠ 33 ∧ b ≠ 42 ∧ b ≠ 93 ∧ b ≠ 125 ∧ b ≠ 44 ∧ b ≠ 58
theorem scalar_hd (k : Int) (t : Bs) (h1 : 1 ≤ k) (h4 : k ≤ 4) (ht : isTextB k t = true) : ∃ b z, scalarS k t true = b :: z ∧ b ≠ 32 ∧ (b = 34 ∨ marks.contains b = false) := by
  rcases scalar_ways k t h1 h4 ht with ⟨_, hp, _⟩ | ⟨_, e, hu⟩
  · obtain ⟨b, z, hx, h32, hm⟩ := (pis_plain (hp true)).head
    exact ⟨b, z, hx, h32, .inr hm⟩
  · obtain ⟨z, hz⟩ := (qread_double t [] hu).2
    exact ⟨34, z, by rw [e, hz], by decide, .inl rfl⟩
theorem hd_marks {b : UInt8} (h : b = 34 ∨ marks.contains b = false) : b ≠ 38 ∧ b ≠ 33 ∧ b ≠ 42 ∧ b ≠ 93 ∧ b ≠ 125 ∧ b ≠ 44 ∧ b ≠ 58 ∧ b ≠ 91 ∧ b ≠ 123 := by
  rcases h with rfl | h
  · decide
  · have := marks_are b h; exact ⟨this.1, this.2.1, this.2.2.1, this.2.2.2.2.2.1, this.2.2.2.2.2.2.1, this.2.2.2.2.2.2.2.1, this.2.2.2.2.2.2.2.2.1, this.2.2.2.1, this.2.2.2.2.1⟩
theorem made_plain (r : FRd) (x : Bs) (at_ : Int) : r.made x false 0 at_ = (presolve x, r) := by
  unfold FRd.made
  rw [if_neg (by decide), if_neg (by simp), if_neg (by simp)]
theorem made_quoted (r : FRd) (x : Bs) (at_ : Int) : r.made x true 0 at_ = (4, r) := by
  unfold FRd.made
  rw [if_neg (by decide), if_neg (by simp), if_pos (by simp)]
/-- A scalar that was put is read. -/
theorem scalar_put (W k : Int) (t : Bs) (h1 : 1 ≤ k) (h4 : k ≤ 4) (ht : isTextB k t = true) (f : Bool) (y : Bs) (hy : Stop f y) :
    ∃ x q, (FRd.of W (scalarS k t true ++ y)).scalar f = (x, q, FRd.of W y) ∧ (∀ (r : FRd) at_, r.made x q 0 at_ = (k, r)) ∧ (if k = 1 then [] else x) = t ∧ (x = [] → q = true) := by
  rcases scalar_ways k t h1 h4 ht with ⟨hk, hp, hx⟩ | ⟨rfl, e, hu⟩
  · obtain ⟨x, hX⟩ : ∃ x, scalarS k t true = x := ⟨_, rfl⟩
    rw [hX] at hk hp hx ⊢
    have hP := pis_plain (hp f)
    obtain ⟨b, z, hb, h32, hm⟩ := hP.head
    refine ⟨x, false, ?_, fun r at_ => by rw [made_plain, hk], hx, fun h => absurd h hP.ne⟩
    have hn : (FRd.of W (x ++ y)).next [39, 34] = false := by
      rw [hb, List.cons_append, of_next]
      have := marks_are b hm
      simp [this.2.2.2.2.2.2.2.2.2.1, this.2.2.2.2.2.2.2.2.2.2]
    have hc : pcut (FRd.of W (x ++ y)).s f = x := pcut_stop hP y hy
    unfold FRd.scalar
    rw [if_pos (of_well _ _), if_neg (by rw [hn]; simp), hc, if_neg (by rw [hp f]; simp)]
    unfold FRd.dropS
    simp only [List.drop_left]
  · obtain ⟨hq, z, hz⟩ := qread_double t y hu
    rw [e]
    refine ⟨t, true, ?_, fun r at_ => made_quoted r t at_, by rw [if_neg (by decide)], fun _ => rfl⟩
    have hn : (FRd.of W ((qdouble t).getD [] ++ y)).next [39, 34] = true := by
      rw [hz, List.cons_append, of_next]; rfl
    unfold FRd.scalar
    rw [if_pos (of_well _ _), if_pos hn]
    show ((qread ((qdouble t).getD [] ++ y)).1, true, _) = _
    rw [hq]
    simp only [FRd.wrongAs, and_self, if_true, Int.toNat_natCast, FRd.dropS, List.drop_left]
/-- Properties. -/
def apart (a : Bs) : Bs := if a ≠ [] then 38 :: a ++ [32] else []
theorem props_none (W : Int) (f : Bool) (n : Nat) (b : UInt8) (z : Bs) (p : Pr) (h : b ≠ 38 ∧ b ≠ 33) : FRd.props f (n + 1) (FRd.of W (b :: z)) p = some (p, FRd.of W (b :: z)) := by
  rw [FRd.props, if_neg (by rw [of_well]; simp), if_neg (by rw [of_next]; simp [h.1]), if_neg (by rw [of_next]; simp [h.2])]
theorem props_body (W : Int) (f : Bool) (a : Bs) (ha : a ≠ [] → isName a = true) (b : UInt8) (z : Bs) (h32 : b ≠ 32) (h : b ≠ 38 ∧ b ≠ 33) :
    FRd.props f 4 ((FRd.of W (apart a ++ b :: z)).skip 0) Pr.no = some (⟨a, 0, 0⟩, FRd.of W (b :: z)) := by
  by_cases c : a = []
  · subst c
    have : apart [] ++ b :: z = b :: z := rfl
    rw [this, of_skip0 h32]
    exact props_none W f 3 b z _ h
  · obtain ⟨_, h2, h3⟩ := name_all (ha c)
    have e : apart a ++ b :: z = 38 :: (a ++ 32 :: b :: z) := by unfold apart; rw [if_pos c]; simp
    obtain ⟨w1, w2⟩ := word_stop a (32 :: b :: z) lettersBs h3 (.inr ⟨32, _, rfl, by decide⟩)
    rw [e, of_skip0 (by decide), FRd.props, if_neg (by rw [of_well]; simp), if_pos ⟨rfl, by rw [of_next]; rfl⟩]
    have d : (FRd.of W (38 :: (a ++ 32 :: b :: z))).dropS 1 = FRd.of W (a ++ 32 :: b :: z) := rfl
    have n : (FRd.of W (a ++ 32 :: b :: z)).name = FRd.of W (32 :: b :: z) := by
      unfold FRd.name
      rw [show wordL (FRd.of W (a ++ 32 :: b :: z)).s lettersBs = a from w1, if_neg c, if_neg (by omega)]
      unfold FRd.cut
      rw [show cutL (FRd.of W (a ++ 32 :: b :: z)).s lettersBs = 32 :: b :: z from w2]
    have af : (FRd.of W (32 :: b :: z)).after f = FRd.of W (b :: z) := by
      unfold FRd.after
      rw [if_neg (by rw [of_next]; simp)]
      unfold FRd.skip
      simp only [List.drop_zero]
      have : trimL (32 :: b :: z) [32] = trimL (b :: z) [32] := by unfold trimL; rw [List.dropWhile_cons_of_pos (by decide)]
      rw [this, trimL_head h32]
    rw [d, n, af]
    show FRd.props f 3 (FRd.of W (b :: z)) { Pr.no with anchor := wordL (a ++ 32 :: b :: z) lettersBs } = _
    rw [w1]
    exact props_none W f 2 b z _ h
theorem isSc_iff {k : Int} (h : isSc k = true) : 1 ≤ k ∧ k ≤ 4 := by
  unfold isSc at h
  rw [Bool.and_eq_true, decide_eq_true_eq, decide_eq_true_eq] at h
  exact h
/-! ### how many trees -/
mutual
def tsz : T → Nat
  | .mk _ _ _ kids => 1 + tszL kids
def tszL : List T → Nat
  | [] => 0
  | t :: ts => tsz t + tszL ts
end
theorem tsz_mk (k : Int) (t a : Bs) (kids : List T) : tsz (.mk k t a kids) = 1 + tszL kids := by rw [tsz]
theorem tszL_cons (t : T) (ts : List T) : tszL (t :: ts) = tsz t + tszL ts := by rw [tszL]
theorem tsz_pos (t : T) : 1 ≤ tsz t := by cases t; rw [tsz_mk]; omega
theorem tsz_mem : ∀ (ts : List T) (t : T), t ∈ ts → tsz t ≤ tszL ts
  | [], t, h => by simp at h
  | u :: ts, t, h => by
    rw [tszL_cons]
    rcases List.mem_cons.1 h with rfl | h
    · omega
    · have := tsz_mem ts t h; omega
theorem tsz_len : ∀ (ts : List T), ts.length ≤ tszL ts
  | [] => by simp
  | t :: ts => by rw [tszL_cons, List.length_cons]; have := tsz_len ts; have := tsz_pos t; omega
/-! ### what may be -/
theorem rightT_inv {k : Int} {t a : Bs} {kids : List T} {left d : Int} (h : (rightT (.mk k t a kids) left d).1 = true) :
    1 ≤ k ∧ k ≤ 7 ∧ isTextB k t = true ∧ (a ≠ [] ∨ k = 7 → isName a = true) ∧ (k ≠ 5 ∧ k ≠ 6 → kids = []) ∧ (k = 5 ∨ k = 6 → d ≠ 64 ∧ (k = 6 → kids.length % 2 = 0) ∧ (rightL (decide (k = 6)) kids 0 (left - 1) (d + 1)).1 = true) := by
  rw [rightT_mk] at h
  by_cases c1 : left - 1 < 0 ∨ k < 1 ∨ 7 < k ∨ isTextB k t = false
  · rw [if_pos c1] at h; simp at h
  rw [if_neg c1] at h
  have e1 : isTextB k t = true := by
    cases hx : isTextB k t with
    | true => rfl
    | false => exact absurd (.inr (.inr (.inr hx))) c1
  have e2 : 1 ≤ k ∧ k ≤ 7 := ⟨by have : ¬ k < 1 := fun x => c1 (.inr (.inl x)); omega, by have : ¬ 7 < k := fun x => c1 (.inr (.inr (.inl x))); omega⟩
  by_cases c2 : (a ≠ [] ∨ k = 7) ∧ isName a = false
  · rw [if_pos c2] at h; simp at h
  rw [if_neg c2] at h
  have e3 : a ≠ [] ∨ k = 7 → isName a = true := by
    intro x
    cases hx : isName a with
    | true => rfl
    | false => exact absurd ⟨x, hx⟩ c2
  by_cases c3 : k ≠ 5 ∧ k ≠ 6
  · rw [if_pos c3] at h
    exact ⟨e2.1, e2.2, e1, e3, fun _ => List.isEmpty_iff.1 h, fun x => by omega⟩
  rw [if_neg c3] at h
  by_cases c4 : d = 64 ∨ (k = 6 ∧ kids.length % 2 ≠ 0)
  · rw [if_pos c4] at h; simp at h
  rw [if_neg c4] at h
  exact ⟨e2.1, e2.2, e1, e3, fun x => absurd x c3, fun _ => ⟨fun x => c4 (.inl x), fun x => Decidable.byContradiction fun y => c4 (.inr ⟨x, y⟩), h⟩⟩
theorem rightL_inv {m : Bool} {t : T} {ts : List T} {i : Nat} {left d : Int} (h : (rightL m (t :: ts) i left d).1 = true) :
    (m = true → i % 2 = 0 → isSc t.kind = true ∧ t.anchor = []) ∧ (rightT t left d).1 = true ∧ (rightL m ts (i + 1) (rightT t left d).2 d).1 = true := by
  rw [rightL_cons] at h
  by_cases c1 : m = true ∧ i % 2 = 0 ∧ (isSc t.kind = false ∨ t.anchor ≠ [])
  · rw [if_pos c1] at h; simp at h
  rw [if_neg c1] at h
  by_cases c2 : (rightT t left d).1 = true
  · rw [if_pos c2] at h
    refine ⟨fun x y => ⟨?_, ?_⟩, c2, h⟩
    · cases hx : isSc t.kind with
      | true => rfl
      | false => exact absurd ⟨x, y, .inl hx⟩ c1
    · exact Decidable.byContradiction fun z => c1 ⟨x, y, .inr z⟩
  · rw [if_neg c2] at h; simp at h
theorem rightL_mem {m : Bool} {d : Int} : ∀ (ts : List T) (i : Nat) (left : Int), (rightL m ts i left d).1 = true → ∀ t ∈ ts, ∃ l, (rightT t l d).1 = true
  | [], _, _, _, t, h => by simp at h
  | u :: ts, i, left, h, t, ht => by
    obtain ⟨_, h1, h2⟩ := rightL_inv h
    rcases List.mem_cons.1 ht with rfl | ht
    · exact ⟨_, h1⟩
    · exact rightL_mem ts (i + 1) _ h2 t ht
/-- Keys and values. -/
inductive Pairs (P : T → Prop) : List T → Prop
  | nil : Pairs P []
  | cons (k v : T) (ts : List T) (h1 : isSc k.kind = true) (h2 : k.anchor = []) (h3 : P k) (h4 : P v) (h5 : Pairs P ts) : Pairs P (k :: v :: ts)
theorem rightL_pairs {d : Int} (P : T → Prop) (n : Nat) : ∀ (ts : List T) (i : Nat) (left : Int), ts.length = 2 * n → i % 2 = 0 → (rightL true ts i left d).1 = true → (∀ t ∈ ts, P t) → Pairs P ts := by
  induction n with
  | zero =>
    intro ts i left hl hi h hP
    rw [List.eq_nil_of_length_eq_zero hl]
    exact .nil
  | succ n ih =>
    intro ts i left hl hi h hP
    match ts, hl, h, hP with
    | k :: v :: ts, hl, h, hP =>
      obtain ⟨h1, _, h2⟩ := rightL_inv h
      obtain ⟨_, _, h3⟩ := rightL_inv h2
      exact .cons k v ts (h1 rfl hi).1 (h1 rfl hi).2 (hP k (by simp)) (hP v (by simp)) (ih ts (i + 1 + 1) _ (by simp at hl; omega) (by omega) h3 fun t ht => hP t (by simp [ht]))
/-! ### rows -/
theorem putL_nil (m : Bool) (i : Nat) : putL m [] i = [] := by rw [putL]
theorem putL_same (m : Bool) : ∀ (ts : List T) (i j : Nat), (m = true → i % 2 = j % 2) → 0 < i → 0 < j → putL m ts i = putL m ts j := by
  intro ts
  induction ts with
  | nil => intro i j _ _ _; rw [putL_nil, putL_nil]
  | cons t ts ih =>
    intro i j h hi hj
    rw [putL_cons, putL_cons, ih (i + 1) (j + 1) (fun c => by have := h c; omega) (by omega) (by omega)]
    have e : (m = true ∧ i % 2 = 1) = (m = true ∧ j % 2 = 1) := propext ⟨fun x => ⟨x.1, by rw [← h x.1]; exact x.2⟩, fun x => ⟨x.1, by rw [h x.1]; exact x.2⟩⟩
    simp only [e, if_pos hi, if_pos hj]
/-- What follows a part. -/
def more (m : Bool) : List T → Bs
  | [] => []
  | t :: ts => 44 :: 32 :: putL m (t :: ts) 0
theorem putL_seq (t : T) (ts : List T) : putL false (t :: ts) 0 = putT t ++ more false ts := by
  rw [putL_cons, if_neg (by simp), if_neg (by omega), List.nil_append]
  cases ts with
  | nil => rw [putL_nil]; rfl
  | cons u us =>
    simp only [more]
    rw [putL_cons, if_neg (by simp), if_pos (by omega), putL_cons false u us 0, if_neg (by simp), if_neg (by omega), putL_same false us (0 + 1 + 1) (0 + 1) (by simp) (by omega) (by omega)]
    simp
theorem putL_map (k v : T) (ts : List T) : putL true (k :: v :: ts) 0 = putT k ++ 58 :: 32 :: (putT v ++ more true ts) := by
  rw [putL_cons, if_neg (by simp), if_neg (by omega), List.nil_append, putL_cons, if_pos (by simp)]
  cases ts with
  | nil => rw [putL_nil]; simp [more]
  | cons u us =>
    simp only [more]
    rw [putL_cons, if_neg (by simp), if_pos (by omega), putL_cons true u us 0, if_neg (by simp), if_neg (by omega), putL_same true us (0 + 1 + 1 + 1) (0 + 1) (by simp) (by omega) (by omega)]
    simp
theorem stop_flow (b : UInt8) (z : Bs) (h : flows.contains b = true) : Stop true (b :: z) := .inr (.inl (by show (true && flows.contains b) = true; rw [h]; rfl))
/-- The parts of a Seq. -/
theorem parts_seq (W : Int) (v : FRd → Option (T × FRd)) (Q : T → Prop) (hv : ∀ t, Q t → ∀ y, Stop true y → v (FRd.of W (putT t ++ y)) = some (t, FRd.of W y)) (hh : ∀ t, Q t → ∃ b z, putT t = b :: z ∧ b ≠ 32 ∧ b ≠ 44 ∧ b ≠ 93 ∧ b ≠ 125) (y : Bs) :
    ∀ (ts : List T) (m : Nat) (acc : List T), (∀ t ∈ ts, Q t) → ts.length < m → FRd.partsL (FRd.item v) 93 m (FRd.of W (putL false ts 0 ++ 93 :: y)) acc = some (acc ++ ts, FRd.of W (93 :: y)) := by
  intro ts
  induction ts with
  | nil =>
    intro m acc _ hm
    obtain ⟨m, rfl⟩ : ∃ n, m = n + 1 := ⟨m - 1, by simp at hm; omega⟩
    rw [putL_nil, List.nil_append, FRd.partsL, if_neg (by rw [of_next]; simp), List.append_nil]
  | cons t ts ih =>
    intro m acc hQ hm
    obtain ⟨m, rfl⟩ : ∃ n, m = n + 1 := ⟨m - 1, by simp at hm; omega⟩
    rw [List.length_cons] at hm
    obtain ⟨b, z, hb, b32, b44, b93, _⟩ := hh t (hQ t (by simp))
    rw [putL_seq, List.append_assoc]
    obtain ⟨Y, hY⟩ : ∃ Y, more false ts ++ 93 :: y = Y := ⟨_, rfl⟩
    rw [hY]
    have hYs : Stop true Y := by
      rw [← hY]
      cases ts with
      | nil => exact stop_flow 93 y (by decide)
      | cons u us => exact stop_flow 44 _ (by decide)
    have hi : FRd.item v (FRd.of W (putT t ++ Y)) = some ([t], FRd.of W Y) := by
      unfold FRd.item FRd.itemR
      rw [if_neg (by rw [hb, List.cons_append, of_next]; simp [b44]), hv t (hQ t (by simp)) Y hYs]
    rw [FRd.partsL, if_pos (by rw [hb, List.cons_append, of_next]; simp [b93, FRd.well]), hi]
    simp only []
    cases ts with
    | nil =>
      simp only [more, List.nil_append] at hY
      subst hY
      rw [of_skip0 (by decide), if_neg (by rw [of_next]; simp), if_pos (by rw [of_next]; simp)]
      have := ih m (acc ++ [t]) (by simp) (by simpa using hm)
      rw [putL_nil, List.nil_append, List.append_nil] at this
      exact this
    | cons u us =>
      simp only [more, List.cons_append] at hY
      subst hY
      obtain ⟨b', z', hb', c32, _, _, _⟩ := hh u (hQ u (by simp))
      have e : putL false (u :: us) 0 ++ 93 :: y = b' :: (z' ++ more false us ++ 93 :: y) := by rw [putL_seq, hb']; simp
      rw [of_skip0 (by decide), if_pos (by rw [of_next]; simp), e, of_skip2 c32, ← e]
      have := ih m (acc ++ [t]) (fun x hx => hQ x (List.mem_cons_of_mem _ hx)) (by omega)
      rw [this, List.append_assoc]
      rfl
/-- The parts of a Map. -/
theorem parts_map (W : Int) (v : FRd → Option (T × FRd)) (Q : T → Prop) (hv : ∀ t, Q t → ∀ y, Stop true y → v (FRd.of W (putT t ++ y)) = some (t, FRd.of W y)) (hh : ∀ t, Q t → ∃ b z, putT t = b :: z ∧ b ≠ 32 ∧ b ≠ 44 ∧ b ≠ 93 ∧ b ≠ 125)
    (hk : ∀ t, Q t → isTextB t.kind t.text = true ∧ (isSc t.kind = true → t.kids = [])) (y : Bs) :
    ∀ (ts : List T), Pairs Q ts → ∀ (m : Nat) (acc : List T), ts.length < m → FRd.partsL (FRd.entry v) 125 m (FRd.of W (putL true ts 0 ++ 125 :: y)) acc = some (acc ++ ts, FRd.of W (125 :: y)) := by
  intro ts hp
  induction hp with
  | nil =>
    intro m acc hm
    obtain ⟨m, rfl⟩ : ∃ n, m = n + 1 := ⟨m - 1, by simp at hm; omega⟩
    rw [putL_nil, List.nil_append, FRd.partsL, if_neg (by rw [of_next]; simp), List.append_nil]
  | cons key val ts h1 h2 h3 h4 h5 ih =>
    intro m acc hm
    obtain ⟨m, rfl⟩ : ∃ n, m = n + 1 := ⟨m - 1, by simp at hm; omega⟩
    simp only [List.length_cons] at hm
    obtain ⟨b, z, hb, b32, b44, _, b125⟩ := hh key h3
    obtain ⟨d, x, hd, d32, _, _, _⟩ := hh val h4
    obtain ⟨kt, kk⟩ := hk key h3
    rw [putL_map, List.append_assoc, List.cons_append, List.cons_append, List.append_assoc]
    obtain ⟨Y, hY⟩ : ∃ Y, more true ts ++ 125 :: y = Y := ⟨_, rfl⟩
    rw [hY]
    have hYs : Stop true Y := by
      rw [← hY]
      cases ts with
      | nil => exact stop_flow 125 y (by decide)
      | cons u us => exact stop_flow 44 _ (by decide)
    obtain ⟨kd, kx, ka, kkids⟩ := key
    have hsc : 1 ≤ kd ∧ kd ≤ 4 := isSc_iff h1
    obtain rfl : ka = [] := h2
    obtain rfl : kkids = [] := kk h1
    have hput : putT (.mk kd kx [] []) = scalarS kd kx true := by
      rw [putT_mk, if_neg (by omega), if_neg (by simp), if_neg (by omega), if_neg (by omega), List.nil_append]
    have kt' : isTextB kd kx = true := kt
    obtain ⟨tx, q, hs, hmk, htx, hq⟩ := scalar_put W kd kx hsc.1 hsc.2 kt' true (58 :: 32 :: (putT val ++ Y)) (.inr (.inr ⟨_, rfl⟩))
    rw [← hput] at hs
    have hne : ¬ (tx = [] ∧ q = false) := fun ⟨a, b⟩ => by rw [hq a] at b; simp at b
    have he : FRd.entry v (FRd.of W (putT (.mk kd kx [] []) ++ 58 :: 32 :: (putT val ++ Y))) = some ([.mk kd kx [] [], val], FRd.of W Y) := by
      have hkey : (FRd.of W (putT (.mk kd kx [] []) ++ 58 :: 32 :: (putT val ++ Y))).key = (kd, FRd.of W (58 :: 32 :: (putT val ++ Y))) := by
        unfold FRd.key FRd.keyR
        rw [hs]
        simp only []
        rw [if_neg hne, hmk]
      unfold FRd.entry
      rw [hkey, hs]
      simp only []
      have hsk : (FRd.of W (58 :: 32 :: (putT val ++ Y))).skip 0 = FRd.of W (58 :: 32 :: (putT val ++ Y)) := of_skip0 (by decide)
      rw [hsk]
      have hcol : (FRd.of W (58 :: 32 :: (putT val ++ Y))).colon = true := by
        unfold FRd.colon
        rw [of_next]
        rfl
      rw [if_pos hcol]
      have hs2 : (FRd.of W (58 :: 32 :: (putT val ++ Y))).skip 1 = FRd.of W (putT val ++ Y) := by rw [hd, List.cons_append]; exact of_skip2 d32
      rw [hs2, hv val h4 Y hYs]
      simp only []
      unfold scalarT
      rw [htx]
    rw [FRd.partsL, if_pos (by rw [hb, List.cons_append, of_next]; simp [b125, FRd.well]), he]
    simp only []
    cases h5 with
    | nil =>
      simp only [more, List.nil_append] at hY
      subst hY
      rw [of_skip0 (by decide), if_neg (by rw [of_next]; simp), if_pos (by rw [of_next]; simp)]
      have := ih m (acc ++ [.mk kd kx [] [], val]) (by simp; omega)
      rw [putL_nil, List.nil_append, List.append_nil] at this
      exact this
    | cons u w us g1 g2 g3 g4 g5 =>
      simp only [more, List.cons_append] at hY
      subst hY
      obtain ⟨b', z', hb', c32, _, _, _⟩ := hh u g3
      have e : putL true (u :: w :: us) 0 ++ 125 :: y = b' :: (z' ++ 58 :: 32 :: (putT w ++ more true us) ++ 125 :: y) := by rw [putL_map, hb']; simp
      rw [of_skip0 (by decide), if_pos (by rw [of_next]; simp), e, of_skip2 c32, ← e]
      have := ih m (acc ++ [.mk kd kx [] [], val]) (by simp at hm ⊢; omega)
      rw [this, List.append_assoc]
      rfl
end Go.Proofs.YtbmonfcahhhdeaaGreatDoor

namespace Go.Proofs.YtbmonfcahhhdeaaGreatDoor
open Go.RowKit

theorem right_head (t : T) (left d : Int) (h : (rightT t left d).1 = true) : ∃ b z, putT t = b :: z ∧ b ≠ 32 ∧ b ≠ 44 ∧ b ≠ 93 ∧ b ≠ 125 := by
  obtain ⟨k, x, a, kids⟩ := t
  obtain ⟨h1, h7, ht, ha, hk, hl⟩ := rightT_inv h
  rw [putT_mk]
  by_cases c7 : k = 7
  · rw [if_pos c7]; exact ⟨42, _, rfl, by decide, by decide, by decide, by decide⟩
  rw [if_neg c7]
  by_cases ca : a ≠ []
  · rw [if_pos ca]; exact ⟨38, _, rfl, by decide, by decide, by decide, by decide⟩
  rw [if_neg ca, List.nil_append]
  by_cases c5 : k = 5
  · rw [if_pos c5]; exact ⟨91, _, rfl, by decide, by decide, by decide, by decide⟩
  rw [if_neg c5]
  by_cases c6 : k = 6
  · rw [if_pos c6]; exact ⟨123, _, rfl, by decide, by decide, by decide, by decide⟩
  rw [if_neg c6]
  obtain ⟨b, z, hb, h32, hm⟩ := scalar_hd k x h1 (by omega) ht
  have := hd_marks hm
  exact ⟨b, z, hb, h32, this.2.2.2.2.2.1, this.2.2.2.1, this.2.2.2.2.1⟩
/-- What was put is read. -/
theorem value_put : ∀ (k : Nat) (t : T) (f : Bool) (W left d : Int) (y : Bs), tsz t ≤ k → (rightT t left d).1 = true → Stop f y → FRd.value (k + 1) (FRd.of W (putT t ++ y)) f d = some (t, FRd.of W y) := by
  intro k
  induction k with
  | zero => intro t; have := tsz_pos t; intros; omega
  | succ k ih =>
    intro t f W left d y hk h hy
    obtain ⟨kd, x, a, kids⟩ := t
    rw [tsz_mk] at hk
    obtain ⟨h1, h7, ht, ha, hks, hl⟩ := rightT_inv h
    rw [FRd.value]
    by_cases c7 : kd = 7
    · subst c7
      obtain rfl : kids = [] := hks ⟨by decide, by decide⟩
      have hx : x = [] := by
        unfold isTextB at ht
        rw [if_neg (by decide), if_neg (by decide)] at ht
        exact List.isEmpty_iff.1 ht
      subst hx
      obtain ⟨n1, n2, n3⟩ := name_all (ha (.inr rfl))
      obtain ⟨w1, w2⟩ := word_stop a y lettersBs n3 hy.letter
      rw [putT_mk, if_pos rfl, List.cons_append, of_skip0 (by decide), props_none W f 3 42 _ _ (by decide)]
      simp only []
      rw [if_pos (by rw [of_next]; rfl)]
      have hs : (FRd.of W (42 :: (a ++ y))).starR Pr.no = FRd.of W (a ++ y) := by
        unfold FRd.starR
        rw [if_pos ⟨rfl, rfl, rfl⟩]
        rfl
      rw [hs]
      have n : (FRd.of W (a ++ y)).name = FRd.of W y := by
        unfold FRd.name
        rw [show wordL (FRd.of W (a ++ y)).s lettersBs = a from w1, if_neg n1, if_neg (by omega)]
        unfold FRd.cut
        rw [show cutL (FRd.of W (a ++ y)).s lettersBs = y from w2]
      rw [n]
      show some (T.mk 7 [] (wordL (a ++ y) lettersBs) [], _) = _
      rw [w1]
    have hap : ∀ body : Bs, (if a ≠ [] then 38 :: a ++ [32] else []) ++ body = apart a ++ body := fun _ => rfl
    have han : a ≠ [] → isName a = true := fun c => ha (.inl c)
    rw [putT_mk, if_neg c7, List.append_assoc, hap]
    by_cases c56 : kd = 5 ∨ kd = 6
    · obtain ⟨d64, heven, hr⟩ := hl c56
      have hx : x = [] := by
        unfold isTextB at ht
        rw [if_neg (by omega), if_neg (by omega)] at ht
        exact List.isEmpty_iff.1 ht
      subst hx
      have hQ : ∀ t ∈ kids, tsz t ≤ k ∧ ∃ l, (rightT t l (d + 1)).1 = true := fun t hm => ⟨by have := tsz_mem kids t hm; omega, rightL_mem kids 0 _ hr t hm⟩
      have hv : ∀ t : T, (tsz t ≤ k ∧ ∃ l, (rightT t l (d + 1)).1 = true) → ∀ y, Stop true y → FRd.value (k + 1) (FRd.of W (putT t ++ y)) true (d + 1) = some (t, FRd.of W y) := fun t ⟨q1, l, q2⟩ y hy => ih t true W l (d + 1) y q1 q2 hy
      have hh : ∀ t : T, (tsz t ≤ k ∧ ∃ l, (rightT t l (d + 1)).1 = true) → ∃ b z, putT t = b :: z ∧ b ≠ 32 ∧ b ≠ 44 ∧ b ≠ 93 ∧ b ≠ 125 := fun t ⟨_, l, q⟩ => right_head t l _ q
      have hlen := tsz_len kids
      have skip1 : ∀ (c b : UInt8) (z : Bs), b ≠ 32 → (FRd.of W (c :: b :: z)).skip 1 = FRd.of W (b :: z) := fun c b z h => of_skip1 h
      rcases c56 with rfl | rfl
      · rw [if_pos rfl]
        rw [show ([91] ++ putL false kids 0 ++ [93] : Bs) ++ y = 91 :: (putL false kids 0 ++ 93 :: y) by simp, props_body W f a han 91 _ (by decide) (by decide)]
        simp only []
        rw [if_neg (by rw [of_next]; simp), if_pos (by rw [of_next]; rfl)]
        unfold FRd.list
        rw [if_neg d64]
        have hsk : (FRd.of W (91 :: (putL false kids 0 ++ 93 :: y))).skip 1 = FRd.of W (putL false kids 0 ++ 93 :: y) := by
          cases kids with
          | nil => rw [putL_nil, List.nil_append]; exact of_skip1 (by decide)
          | cons u us =>
            obtain ⟨b, z, hb, h32, _⟩ := hh u (hQ u (by simp))
            rw [putL_seq, hb]
            exact of_skip1 h32
        have hP := parts_seq W (fun r => FRd.value (k + 1) r true (d + 1)) _ hv hh y kids (k + 1 + 1) [] hQ (by omega)
        unfold FRd.parts
        rw [hsk, hP]
        simp only [List.nil_append]
        rw [if_pos (of_well _ _), if_neg (by simp)]
        rfl
      · rw [if_neg (by decide), if_pos rfl]
        rw [show ([123] ++ putL true kids 0 ++ [125] : Bs) ++ y = 123 :: (putL true kids 0 ++ 125 :: y) by simp, props_body W f a han 123 _ (by decide) (by decide)]
        simp only []
        rw [if_neg (by rw [of_next]; simp), if_neg (by rw [of_next]; simp), if_pos (by rw [of_next]; rfl)]
        unfold FRd.list
        rw [if_neg d64]
        have hpairs : Pairs (fun t => tsz t ≤ k ∧ ∃ l, (rightT t l (d + 1)).1 = true) kids := rightL_pairs _ (kids.length / 2) kids 0 _ (by have := heven rfl; omega) rfl hr hQ
        have hsk : (FRd.of W (123 :: (putL true kids 0 ++ 125 :: y))).skip 1 = FRd.of W (putL true kids 0 ++ 125 :: y) := by
          cases hpairs with
          | nil => rw [putL_nil, List.nil_append]; exact of_skip1 (by decide)
          | cons u v us g1 g2 g3 g4 g5 =>
            obtain ⟨b, z, hb, h32, _⟩ := hh u g3
            rw [putL_map, hb]
            exact of_skip1 h32
        have hkk : ∀ t : T, (tsz t ≤ k ∧ ∃ l, (rightT t l (d + 1)).1 = true) → isTextB t.kind t.text = true ∧ (isSc t.kind = true → t.kids = []) := by
          rintro ⟨k', x', a', kids'⟩ ⟨_, l, q⟩
          obtain ⟨g1, g7, gt, ga, gk, gl⟩ := rightT_inv q
          refine ⟨gt, fun hs => gk ?_⟩
          have : 1 ≤ k' ∧ k' ≤ 4 := isSc_iff hs
          omega
        have hP := parts_map W (fun r => FRd.value (k + 1) r true (d + 1)) _ hv hh hkk y kids hpairs (k + 1 + 1) [] (by omega)
        unfold FRd.parts
        rw [hsk, hP]
        simp only [List.nil_append]
        rw [if_pos (of_well _ _), if_neg (by simp)]
        rfl
    · have h4 : kd ≤ 4 := by omega
      obtain rfl : kids = [] := hks ⟨by omega, by omega⟩
      rw [if_neg (by omega), if_neg (by omega)]
      obtain ⟨b, z, hb, h32, hm⟩ := scalar_hd kd x h1 h4 ht
      have hm' := hd_marks hm
      obtain ⟨tx, q, hs, hmk, htx, hq⟩ := scalar_put W kd x h1 h4 ht f y hy
      rw [hb, List.cons_append] at hs
      rw [hb, List.cons_append, props_body W f a han b _ h32 ⟨hm'.1, hm'.2.1⟩]
      simp only []
      rw [if_neg (by rw [of_next]; simp [hm'.2.2.1]), if_neg (by rw [of_next]; simp [hm'.2.2.2.2.2.2.2.1]), if_neg (by rw [of_next]; simp [hm'.2.2.2.2.2.2.2.2]), hs]
      simp only []
      rw [hmk]
      simp only []
      unfold scalarT
      rw [htx]
/-- How many trees right counts. -/
theorem rightL_count_of (n : Nat) (ih : ∀ t left d, SizeOf.sizeOf t < n → (rightT t left d).1 = true → (rightT t left d).2 = left - tsz t ∧ 0 ≤ (rightT t left d).2) (m : Bool) (d : Int) :
    ∀ (ts : List T) (i : Nat) (left : Int), SizeOf.sizeOf ts < n → 0 ≤ left → (rightL m ts i left d).1 = true → (rightL m ts i left d).2 = left - tszL ts ∧ 0 ≤ (rightL m ts i left d).2 := by
  intro ts
  induction ts with
  | nil => intro i left _ h0 h; rw [rightL, tszL]; simp [h0]
  | cons t ts ihl =>
    intro i left hs h0 h
    obtain ⟨_, h1, h2⟩ := rightL_inv h
    simp only [List.cons.sizeOf_spec] at hs
    obtain ⟨e1, e2⟩ := ih t left d (by omega) h1
    obtain ⟨e3, e4⟩ := ihl (i + 1) (rightT t left d).2 (by omega) e2 h2
    have e : rightL m (t :: ts) i left d = rightL m ts (i + 1) (rightT t left d).2 d := by
      rw [rightL_cons] at h ⊢
      by_cases c1 : m = true ∧ i % 2 = 0 ∧ (isSc t.kind = false ∨ t.anchor ≠ [])
      · rw [if_pos c1] at h; simp at h
      · rw [if_neg c1, if_pos h1]
    rw [e, tszL_cons]
    refine ⟨?_, e4⟩
    rw [e3, e1]
    omega
theorem rightT_count : ∀ (n : Nat) (t : T) (left d : Int), SizeOf.sizeOf t < n → (rightT t left d).1 = true → (rightT t left d).2 = left - tsz t ∧ 0 ≤ (rightT t left d).2 := by
  intro n
  induction n with
  | zero => intro t left d h; omega
  | succ n ih =>
    intro t left d hs h
    obtain ⟨k, x, a, kids⟩ := t
    obtain ⟨h1, h7, ht, ha, hks, hl⟩ := rightT_inv h
    have hsz : SizeOf.sizeOf kids < n := by simp only [T.mk.sizeOf_spec] at hs; omega
    rw [rightT_mk] at h ⊢
    by_cases c1 : left - 1 < 0 ∨ k < 1 ∨ 7 < k ∨ isTextB k x = false
    · rw [if_pos c1] at h; simp at h
    have hl0 : 0 ≤ left - 1 := by have : ¬ left - 1 < 0 := fun y => c1 (.inl y); omega
    rw [if_neg c1] at h ⊢
    by_cases c2 : (a ≠ [] ∨ k = 7) ∧ isName a = false
    · rw [if_pos c2] at h; simp at h
    rw [if_neg c2] at h ⊢
    rw [tsz_mk]
    by_cases c3 : k ≠ 5 ∧ k ≠ 6
    · rw [if_pos c3]
      obtain rfl : kids = [] := hks c3
      rw [tszL]
      exact ⟨by simp, hl0⟩
    rw [if_neg c3] at h ⊢
    by_cases c4 : d = 64 ∨ (k = 6 ∧ kids.length % 2 ≠ 0)
    · rw [if_pos c4] at h; simp at h
    rw [if_neg c4] at h ⊢
    obtain ⟨e1, e2⟩ := rightL_count_of n ih (decide (k = 6)) (d + 1) kids 0 (left - 1) hsz hl0 h
    refine ⟨?_, e2⟩
    rw [e1]
    omega
theorem rest_none (s cs : Bs) : trimL (s.drop (trimR s cs).length) cs = [] := by
  have e : trimR s cs ++ (s.reverse.takeWhile (cs.contains ·)).reverse = s := by
    unfold trimR
    rw [← List.reverse_append, List.takeWhile_append_dropWhile, List.reverse_reverse]
  have h := List.drop_left (l₁ := trimR s cs) (l₂ := (s.reverse.takeWhile (cs.contains ·)).reverse)
  rw [e] at h
  rw [h]
  unfold trimL
  rw [dw_nil]
  intro b hb
  exact List.all_eq_true.1 List.all_takeWhile b (List.mem_reverse.1 hb)
/-- A whole tree that was put is read. -/
theorem whole_put (t : T) (h : (rightT t 4096 0).1 = true) (hl : (putT t).length ≤ 65536) (n : Nat) (hn : 4096 ≤ n) : wholeM (n + 1) (putT t) = some (t, 0, 0) := by
  have hc := rightT_count _ t 4096 0 (Nat.lt_succ_self _) h
  have hv := value_put n t false ((putT t).length : Int) 4096 0 [] (by have := hc.1; have := hc.2; omega) h (.inl rfl)
  rw [List.append_nil] at hv
  have hst : FRd.start (putT t) = FRd.of ((putT t).length : Int) (putT t) := rfl
  have hr : readM (n + 1) (putT t) false = some (t, ((trimR (putT t) [32]).length : Int), 0, 0) := by
    unfold readM
    rw [hst, hv]
    simp only []
    rw [if_pos (of_well _ _)]
    have hp : (FRd.of ((putT t).length : Int) []).pos.toNat = (putT t).length := by unfold FRd.pos; simp
    rw [hp, List.take_length]
  unfold wholeM
  rw [if_neg (by omega), hr]
  simp only []
  rw [if_neg (by simp), Int.toNat_natCast, rest_none, if_neg (by simp)]
end Go.Proofs.YtbmonfcahhhdeaaGreatDoor
