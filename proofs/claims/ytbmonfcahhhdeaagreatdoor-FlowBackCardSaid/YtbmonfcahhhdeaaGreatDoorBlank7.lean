/- FlowBlanks' plain law: blanks behind a text: cuts and words. FlowBlanks' plain law: blanks behind a text: what quotes read. FlowBlanks' plain law: blanks behind a text that is well: the reader's small steps. -/
import Derived.Test.YtbmonfcahhhdeaaGreatDoorBlank4
set_option linter.unusedVariables false
set_option linter.unusedSimpArgs false
namespace Go.Proofs.YtbmonfcahhhdeaaGreatDoor
open Go.RowKit

theorem trimR_behind (l : Bs) (n : Nat) : trimR (l ++ sp n) [32] = trimR l [32] := by
  unfold trimR
  rw [List.reverse_append, List.reverse_replicate]
  have := trimL_ahead n l.reverse
  unfold trimL at this
  rw [this]
theorem endIs_behind (l : Bs) (f : Bool) (n i : Nat) (hi : i < l.length) : endIs (l ++ sp n) f i = endIs l f i := by
  have hg : ∀ j, j < l.length → (l ++ sp n).getD j 0 = l.getD j 0 := fun j hj => by
    rw [List.getD_eq_getElem?_getD, List.getD_eq_getElem?_getD, List.getElem?_append_left hj]
  have hd : ∀ j, j ≤ l.length → (l ++ sp n).drop j = l.drop j ++ sp n := fun j hj => by
    rw [List.drop_append]
    simp [Nat.sub_eq_zero_of_le hj]
  unfold endIs
  rw [hg i hi, hd (i + 1) (by omega), hd i (by omega)]
  split
  · unfold isGap
    cases hx : l.drop (i + 1) with
    | nil =>
      cases n with
      | zero => rfl
      | succ n => rfl
    | cons a b => rfl
  split
  · rw [hg (i - 1) (by omega)]
  · unfold isFlow
    cases hx : l.drop i with
    | nil =>
      have := congrArg List.length hx
      rw [List.length_drop] at this
      simp at this
      omega
    | cons a b => rfl
theorem endIs_blank (l : Bs) (f : Bool) (n i : Nat) (hi : l.length ≤ i) (hn : i < (l ++ sp n).length) : endIs (l ++ sp n) f i = false := by
  have hd : (l ++ sp n).drop i = sp (n - (i - l.length)) := by
    rw [List.drop_append, List.drop_of_length_le hi, List.nil_append, List.drop_replicate]
  have hp : 0 < n - (i - l.length) := by rw [List.length_append, List.length_replicate] at hn; omega
  obtain ⟨k, hk⟩ : ∃ k, n - (i - l.length) = k + 1 := ⟨n - (i - l.length) - 1, by omega⟩
  have hg : (l ++ sp n).getD i 0 = 32 := by
    rw [List.getD_eq_getElem?_getD, List.getElem?_append_right hi, List.getElem?_replicate, if_pos (by rw [List.length_append, List.length_replicate] at hn; omega)]
    rfl
  unfold endIs
  rw [hg, if_neg (by decide), if_neg (by decide), hd, hk]
  unfold isFlow
  cases f <;> rfl
theorem pend_cases (l : Bs) (f : Bool) : (∃ k, k < l.length ∧ (∀ j, j < k → endIs l f j = false) ∧ endIs l f k = true) ∨ (∀ j, j < l.length → endIs l f j = false) := by
  by_cases h : ∃ k, k < l.length ∧ endIs l f k = true
  · left
    obtain ⟨k0, hk0⟩ := h
    obtain ⟨k, hk, hmin⟩ := least_ex (fun k => k < l.length ∧ endIs l f k = true) k0 hk0
    refine ⟨k, hk.1, fun j hj => ?_, hk.2⟩
    cases hx : endIs l f j with
    | false => rfl
    | true => have := hmin j ⟨by omega, hx⟩; omega
  · right
    intro j hj
    cases hx : endIs l f j with
    | false => rfl
    | true => exact absurd ⟨j, hj, hx⟩ h
theorem pcut_behind (l : Bs) (f : Bool) (n : Nat) : pcut (l ++ sp n) f = pcut l f := by
  unfold pcut
  rcases pend_cases l f with ⟨k, hk, h0, h1⟩ | h0
  · have e1 := pend_at l f k hk h0 h1
    have e2 := pend_at (l ++ sp n) f k (by rw [List.length_append]; omega) (fun j hj => by rw [endIs_behind l f n j (by omega)]; exact h0 j hj) (by rw [endIs_behind l f n k hk]; exact h1)
    rw [e1, e2, List.take_append_of_le_length (by omega)]
  · have e1 := pend_end l f h0
    have e2 := pend_end (l ++ sp n) f (fun j hj => by
      by_cases hl : j < l.length
      · rw [endIs_behind l f n j hl]; exact h0 j hl
      · exact endIs_blank l f n j (by omega) hj)
    rw [e1, e2, List.take_length, List.take_length, trimR_behind]
theorem word_behind (l set : Bs) (n : Nat) (hs : set.contains 32 = false) : wordL (l ++ sp n) set = wordL l set := by
  unfold wordL
  induction l with
  | nil =>
    cases n with
    | zero => rfl
    | succ n => show List.takeWhile _ (32 :: sp n) = _; rw [List.takeWhile_cons_of_neg (by rw [hs]; decide)]; rfl
  | cons a b ih =>
    show List.takeWhile _ (a :: (b ++ sp n)) = _
    by_cases h : set.contains a = true
    · rw [List.takeWhile_cons_of_pos h, List.takeWhile_cons_of_pos h, ih]
    · rw [List.takeWhile_cons_of_neg h, List.takeWhile_cons_of_neg h]
theorem cut_behind (l set : Bs) (n : Nat) (hs : set.contains 32 = false) : cutL (l ++ sp n) set = cutL l set ++ sp n := by
  unfold cutL
  induction l with
  | nil =>
    cases n with
    | zero => rfl
    | succ n => show List.dropWhile _ (32 :: sp n) = _; rw [List.dropWhile_cons_of_neg (by rw [hs]; decide)]; rfl
  | cons a b ih =>
    show List.dropWhile _ (a :: (b ++ sp n)) = _
    by_cases h : set.contains a = true
    · rw [List.dropWhile_cons_of_pos h, List.dropWhile_cons_of_pos h, ih]
    · rw [List.dropWhile_cons_of_neg h, List.dropWhile_cons_of_neg h]; rfl
theorem trimL_behind (l : Bs) (n : Nat) : (trimL l [32] ≠ [] ∧ trimL (l ++ sp n) [32] = trimL l [32] ++ sp n) ∨ (trimL l [32] = [] ∧ trimL (l ++ sp n) [32] = []) := by
  unfold trimL
  induction l with
  | nil =>
    right
    refine ⟨rfl, ?_⟩
    have := trimL_ahead n []
    rw [List.append_nil] at this
    exact this
  | cons a b ih =>
    show (_ ∧ List.dropWhile _ (a :: (b ++ sp n)) = _) ∨ (_ ∧ List.dropWhile _ (a :: (b ++ sp n)) = _)
    by_cases h : ([32] : Bs).contains a = true
    · rw [List.dropWhile_cons_of_pos h, List.dropWhile_cons_of_pos h]; exact ih
    · rw [List.dropWhile_cons_of_neg h, List.dropWhile_cons_of_neg h]
      exact .inl ⟨by simp, rfl⟩
end Go.Proofs.YtbmonfcahhhdeaaGreatDoor

namespace Go.Proofs.YtbmonfcahhhdeaaGreatDoor
open Go.RowKit

theorem decodeN_more (n n' b0 b1 b2 b3 c1 c2 c3 : Nat) (h : n ≤ n') (e1 : 1 < n → c1 = b1) (e2 : 2 < n → c2 = b2) (e3 : 3 < n → c3 = b3) (f1 : ¬ 1 < n → c1 / 64 ≠ 2) (f2 : ¬ 2 < n → c2 / 64 ≠ 2) (f3 : ¬ 3 < n → c3 / 64 ≠ 2) :
    Lib.decodeN n' b0 c1 c2 c3 = Lib.decodeN n b0 b1 b2 b3 := by
  have k1 : (1 < n' ∧ c1 / 64 = 2) ↔ (1 < n ∧ b1 / 64 = 2) := by
    by_cases x : 1 < n
    · rw [e1 x]; exact ⟨fun y => ⟨x, y.2⟩, fun y => ⟨by omega, y.2⟩⟩
    · exact ⟨fun y => absurd y.2 (f1 x), fun y => absurd y.1 x⟩
  have k2 : (2 < n' ∧ c2 / 64 = 2) ↔ (2 < n ∧ b2 / 64 = 2) := by
    by_cases x : 2 < n
    · rw [e2 x]; exact ⟨fun y => ⟨x, y.2⟩, fun y => ⟨by omega, y.2⟩⟩
    · exact ⟨fun y => absurd y.2 (f2 x), fun y => absurd y.1 x⟩
  have k3 : (3 < n' ∧ c3 / 64 = 2) ↔ (3 < n ∧ b3 / 64 = 2) := by
    by_cases x : 3 < n
    · rw [e3 x]; exact ⟨fun y => ⟨x, y.2⟩, fun y => ⟨by omega, y.2⟩⟩
    · exact ⟨fun y => absurd y.2 (f3 x), fun y => absurd y.1 x⟩
  unfold Lib.decodeN
  simp only [k1, k2, k3]
  split
  · rfl
  split
  · rename_i c; rw [e1 c.2.1]
  split
  · rename_i c; rw [e1 c.2.1.1, e2 c.2.2.1]
  split
  · rename_i c; rw [e1 c.2.1.1, e2 c.2.2.1.1, e3 c.2.2.2.1]
  · rfl
theorem get_list (l : Bs) (i : Nat) : (⟨l.toArray⟩ : ByteArray).get! i = l.getD i 0 := by
  show l.toArray[i]! = _
  rw [List.getElem!_toArray, List.getElem!_eq_getElem?_getD, List.getD_eq_getElem?_getD]
  rfl
theorem blank_get (l : Bs) (n i : Nat) (h : ¬ i < l.length) : ((l ++ sp n).getD i 0).toNat / 64 ≠ 2 := by
  rw [List.getD_eq_getElem?_getD, List.getElem?_append_right (by omega), List.getElem?_replicate]
  split <;> decide
theorem old_get (l : Bs) (n i : Nat) (h : i < l.length) : (l ++ sp n).getD i 0 = l.getD i 0 := by
  rw [List.getD_eq_getElem?_getD, List.getD_eq_getElem?_getD, List.getElem?_append_left h]
theorem dec_behind (b : UInt8) (t : Bs) (n : Nat) : dec (b :: (t ++ sp n)) = dec (b :: t) := by
  rw [dec_cons, dec_cons, get_list, get_list, get_list, get_list, get_list, get_list]
  have e : b :: (t ++ sp n) = (b :: t) ++ sp n := rfl
  rw [e]
  have hl : (b :: t).length = t.length + 1 := rfl
  refine decodeN_more (t.length + 1) ((t ++ sp n).length + 1) b.toNat _ _ _ _ _ _ (by rw [List.length_append]; omega) (fun h => by rw [old_get _ _ _ (by omega)]) (fun h => by rw [old_get _ _ _ (by omega)]) (fun h => by rw [old_get _ _ _ (by omega)])
    (fun h => blank_get _ _ _ (by omega)) (fun h => blank_get _ _ _ (by omega)) (fun h => blank_get _ _ _ (by omega))
theorem utf1_behind (b : UInt8) (t : Bs) (n : Nat) : utf1 (b :: (t ++ sp n)) = utf1 (b :: t) := by
  unfold utf1
  rw [dec_behind]
theorem qescHex_behind (many : Nat) (t : Bs) (n : Nat) (h : (qescHex many t).2.2 = 0) : qescHex many (t ++ sp n) = qescHex many t := by
  unfold qescHex at h ⊢
  by_cases c1 : trim (t.take many) hexSet ≠ []
  · rw [if_pos c1] at h; simp at h
  rw [if_neg c1] at h
  by_cases c2 : t.length < many
  · rw [if_pos c2] at h; simp at h
  rw [List.take_append_of_le_length (by omega), if_neg c1, if_neg c1, if_neg c2, if_neg (by rw [List.length_append]; omega)]
theorem qescape_behind (b : UInt8) (t : Bs) (n : Nat) (h : (qescape (b :: t)).2.2 = 0) : qescape (b :: (t ++ sp n)) = qescape (b :: t) := by
  rcases t with _ | ⟨c, t⟩
  · simp [qescape] at h
  · simp only [qescape] at h ⊢
    show (if c = 34 ∨ c = 92 then _ else _) = _
    split
    · rfl
    rename_i c1
    rw [if_neg c1] at h
    split
    · rfl
    rename_i c2
    rw [if_neg c2] at h
    split
    · rfl
    rename_i c3
    rw [if_neg c3] at h
    split
    · rfl
    rename_i c4
    rw [if_neg c4] at h
    split
    · rfl
    rename_i c5
    rw [if_neg c5] at h
    split
    · rename_i c6; rw [if_pos c6] at h; exact qescHex_behind _ _ _ h
    rename_i c6
    rw [if_neg c6] at h
    split
    · rename_i c7; rw [if_pos c7] at h; exact qescHex_behind _ _ _ h
    rename_i c7
    rw [if_neg c7] at h
    split
    · rename_i c8; rw [if_pos c8] at h; exact qescHex_behind _ _ _ h
    · rfl
theorem qone_behind (q : UInt8) (rest : Bs) (n : Nat) (hr : rest ≠ []) (h : (qone q rest).2.2 = 0) : qone q (rest ++ sp n) = qone q rest := by
  rcases rest with _ | ⟨b, t⟩
  · exact absurd rfl hr
  · show qone q (b :: (t ++ sp n)) = _
    simp only [qone] at h ⊢
    split
    · have : (t ++ sp n).head? = some 39 ↔ t.head? = some 39 := by
        cases t with
        | nil => cases n <;> simp [List.replicate_succ]
        | cons x y => simp
      simp only [this]
    rename_i c1
    rw [if_neg c1] at h
    split
    · rename_i c2
      rw [if_pos c2] at h
      by_cases c3 : (qescape (b :: t)).2.2 = 0
      · rw [qescape_behind b t n c3]
      · rw [if_neg c3] at h; exact absurd h c3
    · rename_i c2
      rw [if_neg c2] at h
      rw [utf1_behind]
      split
      · have hb := (utf1_bounds (b :: t))
        have hle : (utf1 (b :: t)).2 ≤ (b :: t).length := by
          unfold utf1
          have := (dec_bounds (b :: t)).2.1
          split <;> exact this
        rw [show b :: (t ++ sp n) = (b :: t) ++ sp n from rfl, List.take_append_of_le_length hle]
      · rfl
end Go.Proofs.YtbmonfcahhhdeaaGreatDoor

namespace Go.Proofs.YtbmonfcahhhdeaaGreatDoor
open Go.RowKit

theorem drop_behind (l : Bs) (n k : Nat) (h : k ≤ l.length) : (l ++ sp n).drop k = l.drop k ++ sp n := by
  rw [List.drop_append]
  simp [Nat.sub_eq_zero_of_le h]
theorem qreadL_behind (q : UInt8) (n : Nat) : ∀ (f f' k tot tot' : Nat) (rest acc : Bs), f ≤ f' → (qreadL q tot f k rest acc).2.2.1 = 0 → qreadL q tot' f' k (rest ++ sp n) acc = qreadL q tot f k rest acc
  | 0, f', k, tot, tot', rest, acc, hf, h => by simp [qreadL] at h
  | f + 1, f', k, tot, tot', rest, acc, hf, h => by
    obtain ⟨g, rfl⟩ : ∃ g, f' = g + 1 := ⟨f' - 1, by omega⟩
    have e1 : qreadL q tot (f + 1) k rest acc = if rest = [] then ([], 0, 4, (tot : Int)) else if (qone q rest).2.2 = 4 then ([], 0, 4, (tot : Int)) else if (qone q rest).2.2 ≠ 0 then ([], 0, (qone q rest).2.2, (k : Int)) else if (qone q rest).2.1 = 0 then (acc, (k : Int) + 1, 0, 0) else qreadL q tot f (k + (qone q rest).2.1.toNat) (rest.drop (qone q rest).2.1.toNat) (acc ++ (qone q rest).1) := rfl
    rw [e1] at h ⊢
    by_cases h0 : rest = []
    · rw [if_pos h0] at h; simp at h
    rw [if_neg h0] at h ⊢
    by_cases h1 : (qone q rest).2.2 = 4
    · rw [if_pos h1] at h; simp at h
    rw [if_neg h1] at h ⊢
    by_cases h2 : (qone q rest).2.2 ≠ 0
    · rw [if_pos h2] at h; exact absurd h h2
    rw [if_neg h2] at h ⊢
    have h2' : (qone q rest).2.2 = 0 := by simpa using h2
    have hq := qone_behind q rest n h0 h2'
    have hb := qone_bounds q rest h2'
    rw [qreadL, if_neg (by simp [h0]), hq, if_neg h1, if_neg h2]
    by_cases h3 : (qone q rest).2.1 = 0
    · rw [if_pos h3, if_pos h3]
    rw [if_neg h3] at h ⊢
    rw [if_neg h3, drop_behind _ _ _ (by omega)]
    exact qreadL_behind q n f g _ tot tot' _ _ (by omega) h
theorem qread_behind (l : Bs) (n : Nat) (h : (qread l).2.2.1 = 0) : qread (l ++ sp n) = qread l := by
  rcases l with _ | ⟨q, t⟩
  · simp [qread] at h
  · show qread (q :: (t ++ sp n)) = _
    simp only [qread] at h ⊢
    split
    · rename_i c
      rw [if_pos c] at h
      exact qreadL_behind q n _ _ _ _ _ _ _ (by rw [List.length_append]; omega) h
    · rfl

/-- The same reader, well, with n blanks more behind. -/
def Bh (n : Nat) (r r' : FRd) : Prop :=
  r.why = 0 ∧ r.at_ = 0 ∧ r'.why = 0 ∧ r'.at_ = 0 ∧ r'.whole = r.whole + n ∧ (r'.s = r.s ++ sp n ∨ (r.s = [] ∧ r'.s = []))
theorem Bh.well {n : Nat} {r r' : FRd} (h : Bh n r r') : r.well = true ∧ r'.well = true := by
  unfold FRd.well
  rw [h.1, h.2.1, h.2.2.1, h.2.2.2.1]
  exact ⟨rfl, rfl⟩
theorem Bh.next {n : Nat} {r r' : FRd} (h : Bh n r r') (cs : Bs) (hc : cs.contains 32 = false) : r'.next cs = r.next cs := by
  unfold FRd.next
  rw [h.well.1, h.well.2]
  rcases h.2.2.2.2.2 with e | ⟨e1, e2⟩
  · rw [e]
    cases r.s with
    | nil =>
      cases n with
      | zero => rfl
      | succ n => show (true && cs.contains 32) = _; rw [hc]
    | cons a b => rfl
  · rw [e1, e2]
theorem Bh.dropS {n : Nat} {r r' : FRd} (h : Bh n r r') (k : Nat) (hk : k ≤ r.s.length) : Bh n (r.dropS k) (r'.dropS k) := by
  refine ⟨h.1, h.2.1, h.2.2.1, h.2.2.2.1, h.2.2.2.2.1, ?_⟩
  rcases h.2.2.2.2.2 with e | ⟨e1, e2⟩
  · exact .inl (by show r'.s.drop k = r.s.drop k ++ sp n; rw [e, drop_behind _ _ _ hk])
  · exact .inr ⟨by show r.s.drop k = []; rw [e1, List.drop_nil], by show r'.s.drop k = []; rw [e2, List.drop_nil]⟩
theorem Bh.skip {n : Nat} {r r' : FRd} (h : Bh n r r') (k : Nat) (hk : k ≤ r.s.length) : Bh n (r.skip k) (r'.skip k) := by
  refine ⟨h.1, h.2.1, h.2.2.1, h.2.2.2.1, h.2.2.2.2.1, ?_⟩
  show trimL (r'.s.drop k) [32] = trimL (r.s.drop k) [32] ++ sp n ∨ (trimL (r.s.drop k) [32] = [] ∧ trimL (r'.s.drop k) [32] = [])
  rcases h.2.2.2.2.2 with e | ⟨e1, e2⟩
  · rw [e, drop_behind _ _ _ hk]
    rcases trimL_behind (r.s.drop k) n with ⟨_, h2⟩ | ⟨h1, h2⟩
    · exact .inl h2
    · exact .inr ⟨h1, h2⟩
  · rw [e1, e2, List.drop_nil]
    exact .inr ⟨rfl, rfl⟩
theorem Bh.word {n : Nat} {r r' : FRd} (h : Bh n r r') (set : Bs) (hs : set.contains 32 = false) : wordL r'.s set = wordL r.s set ∧ Bh n (r.cut set) (r'.cut set) := by
  rcases h.2.2.2.2.2 with e | ⟨e1, e2⟩
  · exact ⟨by rw [e, word_behind _ _ _ hs], h.1, h.2.1, h.2.2.1, h.2.2.2.1, h.2.2.2.2.1, .inl (by show cutL r'.s set = cutL r.s set ++ sp n; rw [e, cut_behind _ _ _ hs])⟩
  · exact ⟨by rw [e1, e2], h.1, h.2.1, h.2.2.1, h.2.2.2.1, h.2.2.2.2.1, .inr ⟨by show cutL r.s set = []; rw [e1]; rfl, by show cutL r'.s set = []; rw [e2]; rfl⟩⟩
theorem letters_no : lettersBs.contains 32 = false := by kernel_rfl
theorem lowers_no : lowers.contains 32 = false := by kernel_rfl
theorem Bh.name {n : Nat} {r r' : FRd} (h : Bh n r r') (hw : r.name.well = true) : wordL r'.s lettersBs = wordL r.s lettersBs ∧ Bh n r.name r'.name := by
  obtain ⟨e, hc⟩ := h.word lettersBs letters_no
  refine ⟨e, ?_⟩
  unfold FRd.name at hw ⊢
  rw [e]
  split at hw
  · rw [stray_is_ill] at hw; cases hw
  rename_i c1
  rw [if_neg c1, if_neg c1]
  split at hw
  · rw [wrong_is_ill _ (by decide)] at hw; cases hw
  rename_i c2
  rw [if_neg c2, if_neg c2]
  exact hc
theorem Bh.scalar {n : Nat} {r r' : FRd} (h : Bh n r r') (f : Bool) (hw : (r.scalar f).2.2.well = true) : (r'.scalar f).1 = (r.scalar f).1 ∧ (r'.scalar f).2.1 = (r.scalar f).2.1 ∧ Bh n (r.scalar f).2.2 (r'.scalar f).2.2 := by
  unfold FRd.scalar at hw ⊢
  rw [h.well.1, h.well.2, if_pos rfl, if_pos rfl, h.next _ (by decide)]
  rw [h.well.1, if_pos rfl] at hw
  by_cases c : r.next [39, 34] = true
  · rw [if_pos c] at hw
    rw [if_pos c, if_pos c]
    have hne := next_ne c
    have e : r'.s = r.s ++ sp n := by
      rcases h.2.2.2.2.2 with e | ⟨e1, _⟩
      · exact e
      · exact absurd e1 hne
    have hq : (qread r.s).2.2.1 = 0 := by
      by_cases x : (qread r.s).2.2.1 = 0
      · exact x
      · unfold FRd.wrongAs at hw
        rw [if_neg (fun y => x y.1)] at hw
        have hi : ((r.wrong (qread r.s).2.2.1 (r.pos + (qread r.s).2.2.2)).dropS (qread r.s).2.1.toNat).well = false := wrong_is_ill r x _
        rw [hi] at hw
        cases hw
    have hq2 := qread_why _ hq
    have hb := qread_bounds r.s
    rw [e, qread_behind _ _ hq, hq, hq2]
    refine ⟨rfl, rfl, ?_⟩
    show Bh n ((r.wrongAs 0 0).dropS _) ((r'.wrongAs 0 0).dropS _)
    exact h.dropS _ (by omega)
  · rw [if_neg c] at hw
    rw [if_neg c, if_neg c]
    have e : pcut r'.s f = pcut r.s f := by
      rcases h.2.2.2.2.2 with e | ⟨e1, e2⟩
      · rw [e, pcut_behind]
      · rw [e1, e2]
    rw [e]
    dsimp only at hw ⊢
    by_cases c2 : pcut r.s f ≠ [] ∧ pis (pcut r.s f) f = false
    · rw [if_pos c2] at hw
      have hi : (r.stray.dropS (pcut r.s f).length).well = false := stray_is_ill r
      rw [hi] at hw
      cases hw
    · rw [if_neg c2, if_neg c2]
      exact ⟨rfl, rfl, h.dropS _ (pcut_le _ _)⟩
end Go.Proofs.YtbmonfcahhhdeaaGreatDoor
