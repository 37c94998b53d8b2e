/- FlowAgain's plain law: what is read may be, if it has not too many trees. FlowAgain's plain law: what a reader's value is. How long what is put may be. -/
import Derived.Test.YtbmonfcahhhdeaaGreatDoorPut5
import Derived.Test.YtbmonfcahhhdeaaGreatDoorBlank8
import Derived.Test.YtbmonfcahhhdeaaGreatDoorBlankA
import Derived.Test.YtbmonfcahhhdeaaGreatDoorFW8
set_option linter.unusedVariables false
set_option linter.unusedSimpArgs false
namespace Go.Proofs.YtbmonfcahhhdeaaGreatDoor
open Go.RowKit

/-- At even places of a row that begins at place i keys stand. -/
def Alt (i : Nat) (ts : List T) : Prop := ∀ j t, ts[j]? = some t → (i + j) % 2 = 0 → isSc t.kind = true ∧ t.anchor = []
theorem Alt.head {i : Nat} {t : T} {ts : List T} (h : Alt i (t :: ts)) (hi : i % 2 = 0) : isSc t.kind = true ∧ t.anchor = [] := h 0 t rfl (by omega)
theorem Alt.tail {i : Nat} {t : T} {ts : List T} (h : Alt i (t :: ts)) : Alt (i + 1) ts := fun j u hu hj => h (j + 1) u hu (by omega)
theorem Alt.two {l : List T} (h : Alt 0 l) (hl : l.length % 2 = 0) (k v : T) (h1 : isSc k.kind = true) (h2 : k.anchor = []) : Alt 0 (l ++ [k, v]) := by
  intro j t ht hj
  by_cases c : j < l.length
  · rw [List.getElem?_append_left c] at ht
    exact h j t ht hj
  · rw [List.getElem?_append_right (by omega)] at ht
    obtain ⟨i, hi⟩ : ∃ i, j - l.length = i := ⟨_, rfl⟩
    rw [hi] at ht
    match i, hi, ht with
    | 0, _, ht => simp at ht; subst ht; exact ⟨h1, h2⟩
    | 1, hi, _ => omega
    | i + 2, _, ht => simp at ht
/-- Trees that may be, but for their number. -/
inductive May : Int → List T → Prop
  | nil (d : Int) : May d []
  | cons (d k : Int) (t a : Bs) (kids ts : List T) (h1 : 1 ≤ k ∧ k ≤ 7) (h2 : isTextB k t = true) (h3 : a ≠ [] ∨ k = 7 → isName a = true) (h4 : k ≠ 5 ∧ k ≠ 6 → kids = []) (h5 : k = 5 ∨ k = 6 → d ≠ 64) (h6 : k = 6 → kids.length % 2 = 0 ∧ Alt 0 kids) (h7 : May (d + 1) kids) (h8 : May d ts) : May d (.mk k t a kids :: ts)
theorem May.append {d : Int} {a b : List T} (h : May d a) (k : May d b) : May d (a ++ b) := by
  induction h with
  | nil => exact k
  | cons d k' t a kids ts h1 h2 h3 h4 h5 h6 h7 h8 ih1 ih2 => exact .cons d k' t a kids _ h1 h2 h3 h4 h5 h6 h7 (ih2 k)
theorem may_right {d : Int} {ts : List T} (h : May d ts) : ∀ (m : Bool) (i : Nat) (left : Int), (m = true → Alt i ts) → (tszL ts : Int) ≤ left → (rightL m ts i left d).1 = true ∧ (rightL m ts i left d).2 = left - tszL ts := by
  induction h with
  | nil => intro m i left _ _; rw [rightL, tszL]; simp
  | cons d k t a kids ts h1 h2 h3 h4 h5 h6 h7 h8 ih1 ih2 =>
    intro m i left hm hl
    rw [tszL_cons, tsz_mk] at hl
    have hT : rightT (.mk k t a kids) left d = (true, left - (tsz (.mk k t a kids) : Int)) := by
      rw [rightT_mk, tsz_mk]
      rw [if_neg (by rw [h2]; intro x; rcases x with x | x | x | x <;> first | omega | cases x)]
      rw [if_neg (by rintro ⟨x, y⟩; rw [h3 x] at y; cases y)]
      by_cases c3 : k ≠ 5 ∧ k ≠ 6
      · rw [if_pos c3, h4 c3, tszL]; rfl
      rw [if_neg c3]
      rw [if_neg (by rintro (x | ⟨x, y⟩); exact h5 (by omega) x; exact y (h6 x).1)]
      obtain ⟨e1, e2⟩ := ih1 (decide (k = 6)) 0 (left - 1) (fun x => (h6 (of_decide_eq_true x)).2) (by omega)
      exact Prod.ext e1 (by rw [e2]; simp only []; omega)
    rw [rightL_cons, hT, tszL_cons]
    rw [if_neg (by rintro ⟨x, y, z⟩; have := (hm x).head y; rcases z with z | z; (rw [this.1] at z; cases z); exact z this.2), if_pos rfl]
    obtain ⟨e1, e2⟩ := ih2 m (i + 1) (left - (tsz (.mk k t a kids) : Int)) (fun x => (hm x).tail) (by rw [tsz_mk]; omega)
    refine ⟨e1, ?_⟩
    rw [e2]
    omega
theorem may_rightT {d left : Int} {t : T} (h : May d [t]) (hl : (tsz t : Int) ≤ left) : (rightT t left d).1 = true := by
  have := (may_right h false 0 left (by simp) (by rw [tszL_cons, tszL]; omega)).1
  exact (rightL_inv this).2.1
/-! ### texts -/
theorem uw_runes : ∀ (xs : List Int), (∀ x ∈ xs, sign x = true) → uw nonneg (xs.flatMap runeBs) = (xs.flatMap runeBs).length
  | [], _ => uw_nil _
  | x :: xs, h => by
    have hs := h x (by simp)
    obtain ⟨b, z, hb, _⟩ := rune_head x hs
    have hu := utf1_enc x hs (xs.flatMap runeBs)
    rw [List.flatMap_cons, uw_step nonneg (by rw [hb]; simp), hu]
    simp only []
    rw [if_pos (by simpa [nonneg] using (sign_iff hs).1), List.drop_left, uw_runes xs fun y hy => h y (List.mem_cons_of_mem _ hy), List.length_append]
/-- A text of signs. -/
def Signs (l : Bs) : Prop := ∃ xs : List Int, (∀ x ∈ xs, sign x = true) ∧ l = xs.flatMap runeBs
theorem Signs.nil : Signs [] := ⟨[], by simp, rfl⟩
theorem Signs.one {r : Int} (h : sign r = true) : Signs (runeBs r) := ⟨[r], by simpa using h, by simp⟩
theorem Signs.append {a b : Bs} (h : Signs a) (k : Signs b) : Signs (a ++ b) := by
  obtain ⟨xs, hx, rfl⟩ := h
  obtain ⟨ys, hy, rfl⟩ := k
  exact ⟨xs ++ ys, fun z hz => (List.mem_append.1 hz).elim (hx z) (hy z), by rw [List.flatMap_append]⟩
theorem Signs.uw {l : Bs} (h : Signs l) : uw nonneg l = l.length := by
  obtain ⟨xs, hx, rfl⟩ := h
  exact uw_runes xs hx
theorem qescHex_sg (many : Nat) (t : Bs) (h : (qescHex many t).2.2 = 0) : sign (qescHex many t).1 = true := by
  unfold qescHex at h ⊢
  split
  · rename_i c; rw [if_pos c] at h; simp at h
  rename_i c
  rw [if_neg c] at h
  split
  · rename_i c; rw [if_pos c] at h; simp at h
  rename_i c
  rw [if_neg c] at h
  split
  · rename_i c; exact c
  · rename_i c; rw [if_neg c] at h; simp at h
theorem qescape_sg (l : Bs) (h : (qescape l).2.2 = 0) : sign (qescape l).1 = true := by
  match l, h with
  | [], h => simp [qescape] at h
  | [_], h => simp [qescape] at h
  | b :: c :: t, h =>
    simp only [qescape] at h ⊢
    split
    · rename_i c1; rcases c1 with rfl | rfl <;> decide
    rename_i c1
    rw [if_neg c1] at h
    split
    · decide
    rename_i c2
    rw [if_neg c2] at h
    split
    · decide
    rename_i c3
    rw [if_neg c3] at h
    split
    · decide
    rename_i c4
    rw [if_neg c4] at h
    split
    · decide
    rename_i c5
    rw [if_neg c5] at h
    split
    · rename_i c6; rw [if_pos c6] at h; exact qescHex_sg _ _ h
    rename_i c6
    rw [if_neg c6] at h
    split
    · rename_i c7; rw [if_pos c7] at h; exact qescHex_sg _ _ h
    rename_i c7
    rw [if_neg c7] at h
    split
    · rename_i c8; rw [if_pos c8] at h; exact qescHex_sg _ _ h
    · rename_i c8; rw [if_neg c8] at h; simp at h
theorem qone_signs (q : UInt8) (l : Bs) (h : (qone q l).2.2 = 0) : Signs (qone q l).1 := by
  cases l with
  | nil => exact Signs.nil
  | cons b t =>
    simp only [qone] at h ⊢
    split
    · split
      · exact ⟨[39], by decide, rfl⟩
      · exact Signs.nil
    rename_i c1
    rw [if_neg c1] at h
    split
    · split
      · rename_i c3
        exact Signs.one (qescape_sg _ c3)
      · exact Signs.nil
    · split
      · rename_i c4
        have h0 : 0 ≤ (utf1 (b :: t)).1 := by
          by_cases x : 0 ≤ (utf1 (b :: t)).1
          · exact x
          · have hb := (utf1_bounds (b :: t)).1
            have : (utf1 (b :: t)).1 = -1 := by omega
            rw [this] at c4
            exact absurd c4 (by decide)
        obtain ⟨e1, e2⟩ := enc_utf1 (b :: t) (by simp) h0
        show Signs ((b :: t).take _)
        rw [← e2]
        exact Signs.one e1
      · exact Signs.nil
theorem qreadL_signs (q : UInt8) (tot : Nat) : ∀ (f k : Nat) (rest acc : Bs), Signs acc → Signs (qreadL q tot f k rest acc).1
  | 0, _, _, _, h => Signs.nil
  | f + 1, k, rest, acc, h => by
    rw [qreadL]
    split
    · exact Signs.nil
    split
    · exact Signs.nil
    split
    · exact Signs.nil
    rename_i c
    split
    · exact h
    · exact qreadL_signs q tot f _ _ _ (h.append (qone_signs q rest (by simpa using c)))
theorem qread_signs (l : Bs) : Signs (qread l).1 := by
  unfold qread
  split
  · exact Signs.nil
  · split
    · exact qreadL_signs _ _ _ _ _ _ Signs.nil
    · exact Signs.nil
theorem uw_less (n : Nat) : ∀ (l : Bs), l.length ≤ n → uw printable l = l.length → uw nonneg l = l.length := by
  induction n with
  | zero => intro l h _; rw [List.eq_nil_of_length_eq_zero (show l.length = 0 by omega)]; exact uw_nil _
  | succ n ih =>
    intro l h hp
    by_cases hl : l = []
    · subst hl; exact uw_nil _
    have hp0 : 0 < l.length := List.length_pos_iff.2 hl
    rw [uw_step printable hl] at hp
    rw [uw_step nonneg hl]
    by_cases c : printable (utf1 l).1 = true
    · rw [if_pos c] at hp
      have hb := utf1_bounds l
      have h1 := hb.2.2.2 hl
      have h0 : nonneg (utf1 l).1 = true := by
        by_cases x : 0 ≤ (utf1 l).1
        · simpa [nonneg] using x
        · have : (utf1 l).1 = -1 := by omega
          rw [this] at c
          exact absurd c (by decide)
      have hle := uw_le printable (l.drop (utf1 l).2)
      rw [if_pos h0, ih (l.drop (utf1 l).2) (by rw [List.length_drop]; omega) (by rw [List.length_drop] at hle ⊢; omega), List.length_drop]
      omega
    · rw [if_neg c] at hp; omega
theorem pis_uw {x : Bs} {f : Bool} (h : pis x f = true) : uw nonneg x = x.length := by
  unfold pis at h
  simp only [Bool.and_eq_true, Bool.not_eq_true', Bool.or_eq_false_iff, beq_iff_eq, Bool.not_eq_false'] at h
  have hu := h.1.1.1.2
  refine uw_less _ x (Nat.le_refl _) ?_
  rcases ucheck_cases x with ⟨_, e⟩ | ⟨k, e, _⟩
  · exact e
  · rw [e] at hu; simp at hu
/-- A scalar's text is one of signs. -/
theorem scalar_uw (r : FRd) (f : Bool) (h : (r.scalar f).2.2.well = true) : uw nonneg (r.scalar f).1 = (r.scalar f).1.length := by
  unfold FRd.scalar at h ⊢
  split
  · rename_i c1
    rw [if_pos c1] at h
    split
    · exact (qread_signs _).uw
    · rename_i c2
      rw [if_neg c2] at h
      show uw nonneg (pcut r.s f) = (pcut r.s f).length
      by_cases e : pcut r.s f = []
      · rw [e]; exact uw_nil _
      · by_cases g : pis (pcut r.s f) f = true
        · exact pis_uw g
        · rw [if_pos ⟨e, by simpa using g⟩] at h
          have : (r.stray.dropS (pcut r.s f).length).well = false := stray_is_ill r
          rw [this] at h; cases h
  · exact uw_nil _
/-- What is made of a scalar's text may be. -/
theorem made_may (r : FRd) (t : Bs) (q : Bool) (tag tagAt : Int) (hu : uw nonneg t = t.length) (d : Int) (a : Bs) (ha : a ≠ [] → isName a = true) (hw : (r.made t q tag tagAt).2.well = true) : May d [scalarT (r.made t q tag tagAt).1 t a] := by
  have key : ∀ k : Int, k = 4 ∨ k = presolve t → May d [scalarT k t a] := by
    intro k hk
    have h14 : 1 ≤ k ∧ k ≤ 4 := by
      rcases hk with rfl | rfl
      · omega
      · rcases presolve_cases t with ⟨h, _⟩ | ⟨h, _⟩ | ⟨h, _⟩ | h <;> omega
    unfold scalarT
    refine .cons d k _ a [] [] ⟨h14.1, by omega⟩ ?_ (fun x => ha (by rcases x with x | x; exact x; omega)) (fun _ => rfl) (fun x => by omega) (fun x => by omega) (.nil _) (.nil _)
    unfold isTextB
    by_cases c1 : k = 1
    · subst c1; rfl
    rw [if_neg c1]
    by_cases c23 : k = 2 ∨ k = 3
    · rw [if_pos c23]
      rcases hk with rfl | rfl
      · omega
      · simp
    · rw [if_neg c23, if_pos (by omega)]
      simpa using hu
  unfold FRd.made at hw ⊢
  split
  · exact key 4 (.inl rfl)
  split
  · exact key _ (.inr rfl)
  split
  · exact key 4 (.inl rfl)
  · exact key _ (.inr rfl)
end Go.Proofs.YtbmonfcahhhdeaaGreatDoor

namespace Go.Proofs.YtbmonfcahhhdeaaGreatDoor
open Go.RowKit

theorem next_well {r : FRd} {cs : Bs} (h : r.next cs = true) : r.well = true := by unfold FRd.next at h; exact (Bool.and_eq_true_iff.1 h).1
theorem well_or (r : FRd) : r.well = true ∨ r.well = false := by cases r.well <;> simp
theorem name_is (r : FRd) (h : r.name.well = true) : isName (wordL r.s lettersBs) = true := by
  unfold FRd.name at h
  split at h
  · rw [stray_is_ill] at h; cases h
  rename_i c1
  split at h
  · rw [wrong_is_ill _ (by decide)] at h; cases h
  rename_i c2
  have hL : nameSet = lettersBs := by kernel_rfl
  have ht : trim (wordL r.s lettersBs) nameSet = [] := trim_all _ _ fun b hb => by rw [hL]; exact List.all_eq_true.1 List.all_takeWhile b hb
  unfold isName
  rw [ht]
  simp only [Bool.and_eq_true, Bool.not_eq_true', decide_eq_true_eq]
  exact ⟨⟨by cases hx : wordL r.s lettersBs with | nil => exact absurd hx c1 | cons _ _ => rfl, by omega⟩, rfl⟩
theorem props_may (f : Bool) : ∀ (k : Nat) (r : FRd) (p q : Pr) (r1 : FRd), (p.anchor ≠ [] → isName p.anchor = true) → FRd.props f k r p = some (q, r1) → r1.well = true → q.anchor ≠ [] → isName q.anchor = true
  | 0, r, p, q, r1, h, hm, hw => by simp [FRd.props] at hm
  | k + 1, r, p, q, r1, h, hm, hw => by
    rw [FRd.props] at hm
    split at hm
    · simp only [Option.some.injEq, Prod.mk.injEq] at hm
      obtain ⟨rfl, rfl⟩ := hm
      exact h
    split at hm
    · rename_i c2
      refine props_may f k _ _ q r1 ?_ hm hw
      intro _
      have wa : ((r.dropS 1).name.after f).well = true := by
        rcases well_or ((r.dropS 1).name.after f) with x | x
        · exact x
        · obtain ⟨_, rfl⟩ := props_ill f k _ _ _ _ x hm
          rw [x] at hw; cases hw
      have wn : (r.dropS 1).name.well = true := by
        rcases well_or (r.dropS 1).name with x | x
        · exact x
        · rw [after_ill _ f x] at wa; cases wa
      exact name_is (r.dropS 1) wn
    split at hm
    · exact props_may f k _ _ q r1 (by exact h) hm hw
    · simp only [Option.some.injEq, Prod.mk.injEq] at hm
      obtain ⟨rfl, rfl⟩ := hm
      exact h
/-- A part that reads what may be, and no more trees than bytes, and one. -/
def MayP (d : Int) (v : FRd → Option (List T × FRd)) : Prop := ∀ r ts r1, v r = some (ts, r1) → r1.well = true → r.well = true ∧ May d ts ∧ tszL ts + r1.s.length ≤ r.s.length + 1
/-- A value. -/
def MayV (d : Int) (v : FRd → Option (T × FRd)) : Prop := ∀ r t r1, v r = some (t, r1) → r1.well = true → r.well = true ∧ May d [t] ∧ tsz t + r1.s.length ≤ r.s.length + 1
theorem MayV.item {d : Int} {v : FRd → Option (T × FRd)} (hv : MayV d v) : MayP d (FRd.item v) := by
  intro r ts r1 hm hw
  unfold FRd.item at hm
  split at hm
  · cases hm
  · rename_i u r2 hx
    simp only [Option.some.injEq, Prod.mk.injEq] at hm
    obtain ⟨rfl, rfl⟩ := hm
    obtain ⟨w, m, s⟩ := hv _ _ _ hx hw
    have hi : r.itemR = r := by
      unfold FRd.itemR at w ⊢
      split
      · rename_i c; rw [if_pos c, stray_is_ill] at w; cases w
      · rfl
    rw [hi] at w s
    exact ⟨w, m, by rw [tszL_cons, tszL]; omega⟩
theorem MayV.entry {d : Int} {v : FRd → Option (T × FRd)} (hv : MayV d v) : ∀ r ts r1, FRd.entry v r = some (ts, r1) → r1.well = true → r.well = true ∧ May d ts ∧ tszL ts + r1.s.length ≤ r.s.length + 1 ∧ ∃ k w, ts = [k, w] ∧ isSc k.kind = true ∧ k.anchor = [] := by
  intro r ts r1 hm hw
  unfold FRd.entry at hm
  split at hm
  · rename_i hc
    split at hm
    · cases hm
    · rename_i u r2 hx
      simp only [Option.some.injEq, Prod.mk.injEq] at hm
      obtain ⟨rfl, rfl⟩ := hm
      obtain ⟨w, m, s⟩ := hv _ _ _ hx hw
      have wk : r.key.2.well = true := w
      have wK : r.keyR.well = true := by
        rcases well_or r.keyR with x | x
        · exact x
        · have := made_ill r.keyR (r.scalar true).1 (r.scalar true).2.1 0 0 x
          unfold FRd.key at wk
          rw [this] at wk; cases wk
      have hn : ¬ ((r.scalar true).1 = [] ∧ (r.scalar true).2.1 = false) := by
        intro c
        unfold FRd.keyR at wK
        rw [if_pos c, stray_is_ill] at wK; cases wK
      have eK : r.keyR = (r.scalar true).2.2 := by unfold FRd.keyR; rw [if_neg hn]
      have ws : (r.scalar true).2.2.well = true := by rw [← eK]; exact wK
      have wr : r.well = true := by
        rcases well_or r with x | x
        · exact x
        · rw [scalar_ill r true x] at ws; rw [x] at ws; cases ws
      have mk := made_may r.keyR (r.scalar true).1 (r.scalar true).2.1 0 0 (scalar_uw r true ws) d [] (fun h => absurd rfl h) wk
      have hsub := (FRd.sub_key r).2
      have hl : 1 ≤ (r.key.2.skip 0).s.length := next_len (cs := [58]) (by unfold FRd.colon at hc; exact (Bool.and_eq_true_iff.1 hc).1)
      have hs0 : (r.key.2.skip 0).s.length ≤ r.key.2.s.length := (FRd.sub_skip r.key.2 0).2
      have hs1 : ((r.key.2.skip 0).skip 1).s.length + 1 ≤ (r.key.2.skip 0).s.length := by
        have := trimL_le ((r.key.2.skip 0).s.drop 1) [32]
        rw [List.length_drop] at this
        show (trimL ((r.key.2.skip 0).s.drop 1) [32]).length + 1 ≤ _
        omega
      have hkey : r.key.1 = (r.keyR.made (r.scalar true).1 (r.scalar true).2.1 0 0).1 := rfl
      refine ⟨wr, ?_, ?_, _, u, rfl, ?_, rfl⟩
      · rw [hkey]; exact mk.append m
      · rw [tszL_cons, tszL_cons, tszL]
        have : tsz (scalarT r.key.1 (r.scalar true).1 []) = 1 := by unfold scalarT; rw [tsz_mk, tszL]
        omega
      · rw [hkey]
        show isSc (r.keyR.made (r.scalar true).1 (r.scalar true).2.1 0 0).1 = true
        have hk : ∀ (R : FRd) (t : Bs) (q : Bool) (a : Int), isSc (R.made t q 0 a).1 = true := by
          intro R t q a
          unfold FRd.made
          rw [if_neg (by decide), if_neg (by simp)]
          have hp : isSc (presolve t) = true := by rcases presolve_cases t with ⟨h, _⟩ | ⟨h, _⟩ | ⟨h, _⟩ | h <;> rw [h] <;> decide
          split
          · rfl
          · exact hp
        exact hk _ _ _ _
  · simp only [Option.some.injEq, Prod.mk.injEq] at hm
    obtain ⟨rfl, rfl⟩ := hm
    rw [stray_is_ill] at hw; cases hw
/-- What the loop over parts gathers. -/
theorem MayP.partsL {d : Int} {v : FRd → Option (List T × FRd)} (hv : MayP d v) (A : List T → Prop) (hA : ∀ l r ts r1, A l → v r = some (ts, r1) → r1.well = true → A (l ++ ts)) (e : UInt8) (C : Nat) : ∀ (m : Nat) (r : FRd) (l l1 : List T) (r1 : FRd), May d l → A l → (r.next [e] = true → tszL l + r.s.length ≤ C + 1) → (r.next [e] = false → tszL l + r.s.length ≤ C) → FRd.partsL v e m r l = some (l1, r1) → r1.well = true → r.well = true ∧ May d l1 ∧ A l1 ∧ r1.next [e] = true ∧ tszL l1 + r1.s.length ≤ C + 1
  | 0, r, l, l1, r1, hl, ha, hC1, hC, hm, hw => by simp [FRd.partsL] at hm
  | m + 1, r, l, l1, r1, hl, ha, hC1, hC, hm, hw => by
    rw [FRd.partsL] at hm
    split at hm
    · rename_i c
      simp only [Bool.and_eq_true, Bool.not_eq_true'] at c
      split at hm
      · cases hm
      · rename_i ks r2 hx
        have tot : ∀ a b : List T, tszL (a ++ b) = tszL a + tszL b := by
          intro a b
          induction a with
          | nil => rw [List.nil_append, tszL]; omega
          | cons t ts ih => rw [List.cons_append, tszL_cons, tszL_cons, ih]; omega
        have hill : ∀ r3 : FRd, r3.well = false → FRd.partsL v e m r3 (l ++ ks) = some (l1, r1) → False := by
          intro r3 x hp
          cases m with
          | zero => simp [FRd.partsL] at hp
          | succ m =>
            rw [FRd.partsL, if_neg (by rw [x]; simp)] at hp
            simp only [Option.some.injEq, Prod.mk.injEq] at hp
            rw [← hp.2, x] at hw; cases hw
        have w2 : r2.well = true := by
          rcases well_or r2 with x | x
          · exact x
          · exfalso
            refine hill _ ?_ hm
            split
            · exact x
            split
            · exact x
            · exact stray_is_ill _
        obtain ⟨_, mk, sk⟩ := hv _ _ _ hx w2
        have hC' := hC c.2
        have hs0 : (r2.skip 0).s.length ≤ r2.s.length := (FRd.sub_skip r2 0).2
        by_cases c44 : (r2.skip 0).next [44] = true
        · rw [if_pos c44] at hm
          have hl1 := next_len c44
          have hs1 : ((r2.skip 0).skip 1).s.length + 1 ≤ (r2.skip 0).s.length := by
            have := trimL_le ((r2.skip 0).s.drop 1) [32]
            rw [List.length_drop] at this
            show (trimL ((r2.skip 0).s.drop 1) [32]).length + 1 ≤ _
            omega
          obtain ⟨_, b1, b2, b3, b4⟩ := MayP.partsL hv A hA e C m _ _ _ _ (hl.append mk) (hA _ _ _ _ ha hx w2) (fun _ => by rw [tot]; omega) (fun _ => by rw [tot]; omega) hm hw
          exact ⟨c.1, b1, b2, b3, b4⟩
        rw [if_neg c44] at hm
        by_cases ce : (r2.skip 0).next [e] = true
        · rw [if_pos ce] at hm
          obtain ⟨_, b1, b2, b3, b4⟩ := MayP.partsL hv A hA e C m _ _ _ _ (hl.append mk) (hA _ _ _ _ ha hx w2) (fun _ => by rw [tot]; omega) (fun x => by rw [ce] at x; cases x) hm hw
          exact ⟨c.1, b1, b2, b3, b4⟩
        · rw [if_neg ce] at hm
          exact (hill _ (stray_is_ill _) hm).elim
    · rename_i c
      simp only [Option.some.injEq, Prod.mk.injEq] at hm
      obtain ⟨rfl, rfl⟩ := hm
      rw [hw] at c
      have ce : r.next [e] = true := by simpa using c
      exact ⟨hw, hl, ha, ce, hC1 ce⟩
theorem MayP.list {d : Int} {v : FRd → Option (List T × FRd)} (hv : MayP (d + 1) v) (kind : Int) (e : UInt8) (A : List T → Prop) (hA0 : A []) (hA : ∀ l r ts r1, A l → v r = some (ts, r1) → r1.well = true → A (l ++ ts)) (hk : kind = 5 ∨ kind = 6) (hA6 : ∀ l, A l → kind = 6 → l.length % 2 = 0 ∧ Alt 0 l) (m : Nat) (p : Pr) (hp : p.anchor ≠ [] → isName p.anchor = true) (r : FRd) (t : T) (r1 : FRd) (hl : 1 ≤ r.s.length)
    (hm : FRd.list v kind e m d p r = some (t, r1)) (hw : r1.well = true) : r.well = true ∧ May d [t] ∧ tsz t + r1.s.length ≤ r.s.length + 1 := by
  unfold FRd.list at hm
  split at hm
  · simp only [Option.some.injEq, Prod.mk.injEq] at hm
    obtain ⟨_, rfl⟩ := hm
    rw [wrong_is_ill _ (by decide)] at hw; cases hw
  · rename_i hd
    split at hm
    · cases hm
    · rename_i l r2 hx
      simp only [Option.some.injEq, Prod.mk.injEq] at hm
      obtain ⟨rfl, hr1⟩ := hm
      have e12 : r1 = r2 := by
        split at hr1
        · rw [← hr1, wrong_is_ill _ (by decide)] at hw; cases hw
        · exact hr1.symm
      subst e12
      unfold FRd.parts at hx
      split at hx
      · cases hx
      · rename_i l3 r3 hy
        simp only [Option.some.injEq, Prod.mk.injEq] at hx
        obtain ⟨rfl, hr⟩ := hx
        have w3 : r3.well = true := by
          rcases well_or r3 with x | x
          · exact x
          · rw [if_neg (by rw [x]; simp)] at hr; rw [hr] at x; rw [x] at hw; cases hw
        rw [if_pos w3] at hr
        have hs1 : (r.skip 1).s.length + 1 ≤ r.s.length := by
          have := trimL_le (r.s.drop 1) [32]
          rw [List.length_drop] at this
          show (trimL (r.s.drop 1) [32]).length + 1 ≤ _
          omega
        obtain ⟨b0, b1, b2, b3, b4⟩ := MayP.partsL hv A hA e (r.s.length - 1) m _ _ _ _ (.nil _) hA0 (fun _ => by rw [tszL]; omega) (fun _ => by rw [tszL]; omega) hy w3
        have hl3 := next_len b3
        have hr1l : r1.s.length + 1 = r3.s.length := by
          rw [← hr]
          show (r3.s.drop 1).length + 1 = _
          rw [List.length_drop]; omega
        refine ⟨b0, ?_, ?_⟩
        · exact .cons d kind [] p.anchor l3 [] (by omega) (by unfold isTextB; rw [if_neg (by omega), if_neg (by omega)]; rfl) (fun x => hp (by rcases x with x | x; exact x; omega)) (fun x => by omega) (fun _ => hd) (fun x => hA6 l3 b2 x) b1 (.nil _)
        · rw [tsz_mk]; omega
theorem value_may : ∀ (k : Nat) (f : Bool) (d : Int), MayV d (fun r => FRd.value k r f d)
  | 0, f, d => fun r t r1 hm hw => by simp [FRd.value] at hm
  | k + 1, f, d => by
    intro r t r1 hm hw
    have ih := value_may k true (d + 1)
    simp only [] at hm
    rw [FRd.value] at hm
    rcases hx : FRd.props f 4 (r.skip 0) Pr.no with _ | ⟨p, rp⟩
    · rw [hx] at hm; cases hm
    rw [hx] at hm
    have hsub := (FRd.sub_props f 4 _ _ _ _ hx).2
    have hs0 : (r.skip 0).s.length ≤ r.s.length := (FRd.sub_skip r 0).2
    have wp : rp.well = true → r.well = true := by
      intro w
      rcases well_or r with x | x
      · exact x
      · have x' : (r.skip 0).well = false := x
        obtain ⟨_, rfl⟩ := props_ill f 4 _ _ _ _ x' hx
        rw [x'] at w; cases w
    have hpm : rp.well = true → p.anchor ≠ [] → isName p.anchor = true := fun w => props_may f 4 _ _ p rp (fun h => absurd rfl h) hx w
    dsimp only at hm
    split at hm
    · rename_i c42
      simp only [Option.some.injEq, Prod.mk.injEq] at hm
      obtain ⟨rfl, rfl⟩ := hm
      have w1 : (rp.starR p).well = true := by
        rcases well_or (rp.starR p) with x | x
        · exact x
        · rw [name_keeps_ill _ x] at hw; cases hw
      have w2 : rp.well = true := next_well c42
      refine ⟨wp w2, .cons d 7 [] _ [] [] (by omega) rfl (fun _ => name_is _ hw) (fun _ => rfl) (fun x => by omega) (fun x => by omega) (.nil _) (.nil _), ?_⟩
      rw [tsz_mk, tszL]
      have h1 := (FRd.sub_name (rp.starR p)).2
      have h2 : (rp.starR p).s.length ≤ rp.s.length := by
        unfold FRd.starR
        refine Nat.le_trans (FRd.sub_dropS _ 1).2 ?_
        split
        · exact Nat.le_refl _
        · exact (FRd.sub_stray rp).2
      omega
    split at hm
    · rename_i c
      have w2 : rp.well = true := next_well c
      obtain ⟨b1, b2, b3⟩ := MayP.list ih.item 5 93 (fun _ => True) trivial (fun _ _ _ _ _ _ _ => trivial) (.inl rfl) (fun _ _ x => by omega) _ p (hpm w2) rp t r1 (next_len c) hm hw
      exact ⟨wp b1, b2, by omega⟩
    split at hm
    · rename_i c
      have w2 : rp.well = true := next_well c
      obtain ⟨b1, b2, b3⟩ := MayP.list (fun r ts r1 h w => ⟨(ih.entry r ts r1 h w).1, (ih.entry r ts r1 h w).2.1, (ih.entry r ts r1 h w).2.2.1⟩) 6 125 (fun l => l.length % 2 = 0 ∧ Alt 0 l) ⟨rfl, fun j t h => by simp at h⟩
        (fun l r ts r1 h hx w => by
          obtain ⟨_, _, _, key, val, rfl, s1, s2⟩ := ih.entry r ts r1 hx w
          exact ⟨by rw [List.length_append]; simp; omega, h.2.two h.1 key val s1 s2⟩) (.inr rfl) (fun _ h _ => h) _ p (hpm w2) rp t r1 (next_len c) hm hw
      exact ⟨wp b1, b2, by omega⟩
    · simp only [Option.some.injEq, Prod.mk.injEq] at hm
      obtain ⟨rfl, rfl⟩ := hm
      have w1 : (rp.scalar f).2.2.well = true := by
        rcases well_or (rp.scalar f).2.2 with x | x
        · exact x
        · rw [made_ill _ _ _ _ _ x] at hw; cases hw
      have w2 : rp.well = true := by
        rcases well_or rp with x | x
        · exact x
        · rw [scalar_ill rp f x] at w1; rw [x] at w1; cases w1
      refine ⟨wp w2, made_may _ _ _ _ _ (scalar_uw rp f w1) d _ (hpm w2) hw, ?_⟩
      have h1 := (FRd.sub_made (rp.scalar f).2.2 (rp.scalar f).1 (rp.scalar f).2.1 p.tag p.tagAt).2
      have h2 := (FRd.sub_scalar rp f).2
      unfold scalarT
      rw [tsz_mk, tszL]
      omega
/-- What a whole text is may be, if it has not too many trees. -/
theorem whole_right (n : Nat) (s : Bs) (t : T) (h : wholeM n s = some (t, 0, 0)) : (rightT t 4096 0).1 = true ∨ 4096 ≤ s.length := by
  unfold wholeM at h
  split at h
  · simp at h
  rcases hr : readM n s false with _ | ⟨t', k, y', a'⟩
  · rw [hr] at h; cases h
  rw [hr] at h
  dsimp only at h
  by_cases c : ¬ (y' = 0 ∧ a' = 0)
  · rw [if_pos c] at h
    simp only [Option.some.injEq, Prod.mk.injEq] at h
    exact absurd ⟨h.2.1, h.2.2⟩ c
  rw [if_neg c] at h
  split at h
  · simp at h
  · simp only [Option.some.injEq, Prod.mk.injEq] at h
    obtain ⟨rfl, _⟩ := h
    have c' : y' = 0 ∧ a' = 0 := Decidable.byContradiction c
    obtain ⟨rfl, rfl⟩ := c'
    unfold readM at hr
    rcases hv : FRd.value n (FRd.start s) false 0 with _ | ⟨u, r⟩
    · rw [hv] at hr; cases hr
    rw [hv] at hr
    dsimp only at hr
    split at hr
    · rename_i w
      simp only [Option.some.injEq, Prod.mk.injEq] at hr
      obtain ⟨rfl, _⟩ := hr
      obtain ⟨_, m, z⟩ := value_may n false 0 _ _ _ hv w
      have hs : (FRd.start s).s = s := rfl
      rw [hs] at z
      by_cases c : tsz u ≤ 4096
      · exact .inl (may_rightT m (by omega))
      · exact .inr (by omega)
    · rename_i w
      simp only [Option.some.injEq, Prod.mk.injEq] at hr
      exfalso
      apply w
      unfold FRd.well
      rw [hr.2.2.1, hr.2.2.2]
      rfl
end Go.Proofs.YtbmonfcahhhdeaaGreatDoor

namespace Go.Proofs.YtbmonfcahhhdeaaGreatDoor
open Go.RowKit

/-- A tree's texts are no longer than B. -/
inductive FitB (B : Nat) : List T → Prop
  | nil : FitB B []
  | cons (k : Int) (t a : Bs) (kids ts : List T) (h1 : t.length ≤ B) (h2 : a.length ≤ B) (h4 : FitB B kids) (h5 : FitB B ts) : FitB B (.mk k t a kids :: ts)
theorem FitB.append {B : Nat} {a b : List T} (h : FitB B a) (k : FitB B b) : FitB B (a ++ b) := by
  induction h with
  | nil => exact k
  | cons k t a kids ts h1 h2 h4 h5 _ ih => exact .cons k t a kids _ h1 h2 h4 ih
theorem fitB_scalar {B : Nat} (kind : Int) (t a : Bs) (ht : t.length ≤ B) (ha : a.length ≤ B) : FitB B [scalarT kind t a] := by
  unfold scalarT
  refine .cons _ _ _ _ _ ?_ ha .nil .nil
  split
  · simp
  · exact ht
theorem partsL_fitB (part : FRd → Option (List T × FRd)) (e : UInt8) (N B : Nat) (hv : ∀ r ks r1, r.s.length ≤ N → part r = some (ks, r1) → FitB B ks ∧ ks.length ≤ 2 ∧ r.Sub r1) : ∀ (m : Nat) (r : FRd) (l l1 : List T) (r1 : FRd), r.s.length ≤ N → FitB B l → FRd.partsL part e m r l = some (l1, r1) → FitB B l1 ∧ l1.length ≤ l.length + 2 * m
  | 0, r, l, l1, r1, _, _, h => by simp [FRd.partsL] at h
  | m + 1, r, l, l1, r1, h0, h1, h => by
    rw [FRd.partsL] at h
    split at h
    · split at h
      · cases h
      · rename_i ks r2 hx
        obtain ⟨f1, f2, f3⟩ := hv _ _ _ h0 hx
        have h2 : (r2.skip 0).s.length ≤ N := by have := (f3.trans (FRd.sub_skip r2 0)).2; omega
        have h3 := partsL_fitB part e N B hv m _ _ _ _ (by
          split
          · have := (FRd.sub_skip (r2.skip 0) 1).2; omega
          split
          · exact h2
          · have := (FRd.sub_stray (r2.skip 0)).2; omega) (h1.append f1) h
        rw [List.length_append] at h3
        exact ⟨h3.1, by omega⟩
    · simp only [Option.some.injEq, Prod.mk.injEq] at h
      rw [← h.1]
      exact ⟨h1, by omega⟩
theorem value_fitB (N B : Nat) (hN : 4 * N ≤ B) : ∀ (k : Nat) (r : FRd) (f : Bool) (deep : Int) (t : T) (r1 : FRd), r.s.length ≤ N → FRd.value k r f deep = some (t, r1) → FitB B [t]
  | 0, r, f, deep, t, r1, _, h => by simp [FRd.value] at h
  | k + 1, r, f, deep, t, r1, h0, h => by
    rw [FRd.value] at h
    rcases hx : FRd.props f 4 (r.skip 0) Pr.no with _ | ⟨p, rp⟩
    · rw [hx] at h; cases h
    rw [hx] at h
    have hs := (FRd.sub_skip r 0).trans (FRd.sub_props f 4 _ _ _ _ hx)
    have hs2 := hs.2
    have hs3 := (FRd.sub_skip r 0).2
    have hp := props_anchor f N 4 _ _ _ _ (by omega) (by simp) hx
    have list : ∀ (part : FRd → Option (List T × FRd)) (kind : Int) (e : UInt8), (∀ r ks r1, r.s.length ≤ N → part r = some (ks, r1) → FitB B ks ∧ ks.length ≤ 2 ∧ r.Sub r1) → FRd.list part kind e (k + 1) deep p rp = some (t, r1) → FitB B [t] := fun part kind e hv h => by
      unfold FRd.list at h
      split at h
      · simp only [Option.some.injEq, Prod.mk.injEq] at h; rw [← h.1]; exact .cons _ _ _ _ _ (by simp) (by simp) .nil .nil
      unfold FRd.parts at h
      rcases hy : FRd.partsL part e (k + 1) (rp.skip 1) [] with _ | ⟨l, r2⟩
      · rw [hy] at h; cases h
      rw [hy] at h
      simp only [Option.some.injEq, Prod.mk.injEq] at h
      rw [← h.1]
      have hl := (FRd.sub_skip rp 1).2
      obtain ⟨a1, a2⟩ := partsL_fitB part e N B hv (k + 1) _ _ _ _ (by omega) .nil hy
      exact .cons _ _ _ _ _ (by simp) (by omega) a1 .nil
    dsimp only at h
    split at h
    · simp only [Option.some.injEq, Prod.mk.injEq] at h
      rw [← h.1]
      have h3 := word_len (rp.starR p).s lettersBs
      have h4 : (rp.starR p).s.length ≤ rp.s.length := by
        unfold FRd.starR
        refine Nat.le_trans (FRd.sub_dropS _ 1).2 ?_
        split
        · exact Nat.le_refl _
        · exact (FRd.sub_stray _).2
      exact .cons _ _ _ _ _ (by simp) (by omega) .nil .nil
    split at h
    · refine list _ _ _ (fun r' ks r1' h0' h' => ?_) h
      unfold FRd.item at h'
      have hi := FRd.sub_itemR r'
      have hi2 := hi.2
      split at h'
      · cases h'
      · rename_i u ru hu
        simp only [Option.some.injEq, Prod.mk.injEq] at h'
        obtain ⟨rfl, rfl⟩ := h'
        exact ⟨value_fitB N B hN k _ _ _ _ _ (by omega) hu, by simp, hi.trans (FRd.sub_value _ _ _ _ _ _ hu)⟩
    split at h
    · refine list _ _ _ (fun r' ks r1' h0' h' => ?_) h
      have hsub := FRd.sub_entry (value := fun r => FRd.value k r true (deep + 1)) (fun r t r' h => FRd.sub_value k r true (deep + 1) t r' h) r' ks r1' h'
      unfold FRd.entry at h'
      have hk2 := (((FRd.sub_key r').trans (FRd.sub_skip _ 0)).trans (FRd.sub_skip _ 1)).2
      have hst := scalar_text r' true
      split at h'
      · split at h'
        · cases h'
        · rename_i u ru hu
          simp only [Option.some.injEq, Prod.mk.injEq] at h'
          obtain ⟨rfl, rfl⟩ := h'
          exact ⟨(fitB_scalar _ _ _ (by omega) (by simp)).append (value_fitB N B hN k _ _ _ _ _ (by omega) hu), by simp, hsub⟩
      · simp only [Option.some.injEq, Prod.mk.injEq] at h'
        obtain ⟨rfl, rfl⟩ := h'
        exact ⟨.nil, by simp, hsub⟩
    · simp only [Option.some.injEq, Prod.mk.injEq] at h
      rw [← h.1]
      have hst := scalar_text rp f
      exact fitB_scalar _ _ _ (by omega) (by omega)
theorem whole_fitB (n : Nat) (s : Bs) (t : T) (y a : Int) (hm : wholeM n s = some (t, y, a)) : FitB (4 * s.length) [t] := by
  have hz : FitB (4 * s.length) [zeroT] := .cons _ _ _ _ _ (by simp) (by simp) .nil .nil
  unfold wholeM at hm
  split at hm
  · simp only [Option.some.injEq, Prod.mk.injEq] at hm; rw [← hm.1]; exact hz
  rcases hr : readM n s false with _ | ⟨t', k, y', a'⟩
  · rw [hr] at hm; cases hm
  rw [hr] at hm
  have hf : FitB (4 * s.length) [t'] := by
    unfold readM at hr
    rcases hv : FRd.value n (FRd.start s) false 0 with _ | ⟨u, r⟩
    · rw [hv] at hr; cases hr
    rw [hv] at hr
    have hf := value_fitB s.length _ (Nat.le_refl _) n (FRd.start s) false 0 u r (Nat.le_refl _) hv
    dsimp only at hr
    split at hr
    · simp only [Option.some.injEq, Prod.mk.injEq] at hr; rw [← hr.1]; exact hf
    · simp only [Option.some.injEq, Prod.mk.injEq] at hr; rw [← hr.1]; exact hz
  dsimp only at hm
  split at hm
  · simp only [Option.some.injEq, Prod.mk.injEq] at hm; rw [← hm.1]; exact hz
  split at hm
  · simp only [Option.some.injEq, Prod.mk.injEq] at hm; rw [← hm.1]; exact hz
  · simp only [Option.some.injEq, Prod.mk.injEq] at hm; rw [← hm.1]; exact hf
theorem us_count (p : Int → Bool) (n : Nat) : ∀ l : Bs, l.length ≤ n → (us p l).length ≤ l.length ∧ ∀ r ∈ us p l, r ≤ 1114111 := by
  induction n with
  | zero => intro l h; rw [List.eq_nil_of_length_eq_zero (show l.length = 0 by omega), us_nil]; simp
  | succ n ih =>
    intro l h
    by_cases hl : l = []
    · subst hl; rw [us_nil]; simp
    have hp : 0 < l.length := List.length_pos_iff.2 hl
    have hb := utf1_bounds l
    have h1 := hb.2.2.2 hl
    rw [us_step p hl]
    obtain ⟨i1, i2⟩ := ih (l.drop (utf1 l).2) (by rw [List.length_drop]; omega)
    rw [List.length_drop] at i1
    split
    · refine ⟨by rw [List.length_cons]; omega, fun r hr => ?_⟩
      rcases List.mem_cons.1 hr with rfl | hr
      · exact hb.2.1
      · exact i2 r hr
    · exact ⟨by simp; omega, fun r hr => by rw [List.mem_singleton.1 hr]; exact hb.2.1⟩
theorem qdouble_len (l : Bs) : ((qdouble l).getD []).length ≤ 20 * l.length + 2 := by
  unfold qdouble
  split
  · simp
  · have key : ∀ (xs : List Int), (∀ r ∈ xs, r ≤ 1114111) → (qputs xs).length ≤ 20 * xs.length := by
      intro xs
      induction xs with
      | nil => intro _; simp [qputs]
      | cons x xs ih =>
        intro hx
        have hq : qputs (x :: xs) = qputBs x.toNat ++ qputs xs := rfl
        have h1 := ih fun r hr => hx r (List.mem_cons_of_mem _ hr)
        have h2 := qputBs_len x.toNat (by have := hx x (by simp); omega)
        rw [hq, List.length_append, List.length_cons]
        omega
    have h := us_count nonneg _ l (Nat.le_refl _)
    have := key _ h.2
    simp
    omega
theorem scalarS_le (k : Int) (t : Bs) (f : Bool) : (scalarS k t f).length ≤ 20 * t.length + 4 := by
  unfold scalarS
  split
  · simp
  split
  · omega
  split
  · split
    · omega
    · have := qdouble_len t; omega
  · simp
/-- How long a tree's text is. -/
theorem put_le {B : Nat} {ts : List T} (h : FitB B ts) : (∀ (m : Bool) (i : Nat), (putL m ts i).length ≤ tszL ts * (21 * B + 10)) ∧ (∀ t, ts.head? = some t → (putT t).length + 2 ≤ tsz t * (21 * B + 10)) := by
  induction h with
  | nil => exact ⟨fun m i => by rw [putL_nil]; simp, fun t h => by simp at h⟩
  | cons k t a kids ts h1 h2 h4 h5 ih1 ih2 =>
    have hT : (putT (.mk k t a kids)).length + 2 ≤ tsz (.mk k t a kids) * (21 * B + 10) := by
      have k1 := ih1.1 false 0
      have k2 := ih1.1 true 0
      have k3 := scalarS_le k t true
      have ka : (if a ≠ [] then 38 :: a ++ [32] else []).length ≤ B + 2 := by
        by_cases c : a ≠ []
        · rw [if_pos c]; simp; omega
        · rw [if_neg c]; simp
      have kb : (if k = 5 then [91] ++ putL false kids 0 ++ [93] else if k = 6 then [123] ++ putL true kids 0 ++ [125] else scalarS k t true).length ≤ tszL kids * (21 * B + 10) + 20 * B + 4 := by
        by_cases c5 : k = 5
        · rw [if_pos c5]; simp only [List.length_append, List.length_cons, List.length_nil]; omega
        rw [if_neg c5]
        by_cases c6 : k = 6
        · rw [if_pos c6]; simp only [List.length_append, List.length_cons, List.length_nil]; omega
        · rw [if_neg c6]; omega
      rw [putT_mk, tsz_mk, Nat.add_mul, Nat.one_mul]
      by_cases c7 : k = 7
      · rw [if_pos c7, List.length_cons]; omega
      · rw [if_neg c7, List.length_append]; omega
    refine ⟨fun m i => ?_, fun u hu => ?_⟩
    · rw [putL_cons, tszL_cons, Nat.add_mul, List.length_append, List.length_append]
      have k1 := ih2.1 m (i + 1)
      have k2 : (if m = true ∧ i % 2 = 1 then ([58, 32] : Bs) else if 0 < i then [44, 32] else []).length ≤ 2 := by
        split
        · simp
        split <;> simp
      omega
    · simp only [List.head?_cons, Option.some.injEq] at hu
      subst hu
      exact hT
theorem put_short {B : Nat} {t : T} (h : FitB B [t]) (hB : B ≤ 100000) (hR : (rightT t 4096 0).1 = true) : (putT t).length ≤ 140737488355328 := by
  have h1 := (put_le h).2 t rfl
  have h2 := rightT_count _ t 4096 0 (Nat.lt_succ_self _) hR
  have h3 : tsz t ≤ 4096 := by omega
  have h4 : tsz t * (21 * B + 10) ≤ 4096 * 2100010 := Nat.mul_le_mul h3 (by omega)
  omega
end Go.Proofs.YtbmonfcahhhdeaaGreatDoor
