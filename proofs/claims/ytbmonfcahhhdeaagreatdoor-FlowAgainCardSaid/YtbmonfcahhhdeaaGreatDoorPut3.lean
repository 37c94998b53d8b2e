/- Plain texts and names: what is put is cut. -/
import Derived.Test.YtbmonfcahhhdeaaGreatDoorPut2
import Derived.Test.YtbmonfcahhhdeaaGreatDoorFW3
set_option linter.unusedVariables false
set_option linter.unusedSimpArgs false
namespace Go.Proofs.YtbmonfcahhhdeaaGreatDoor
open Go.RowKit

/-- What ends a text. -/
def Stop (f : Bool) (y : Bs) : Prop := y = [] ∨ isFlow y f = true ∨ ∃ z, y = 58 :: 32 :: z
theorem get_old (t y : Bs) (i : Nat) (h : i < t.length) : (t ++ y).getD i 0 = t.getD i 0 := by
  rw [List.getD_eq_getElem?_getD, List.getD_eq_getElem?_getD, List.getElem?_append_left h]
theorem get_new (t y : Bs) (b : UInt8) : (t ++ b :: y).getD t.length 0 = b := by
  rw [List.getD_eq_getElem?_getD, List.getElem?_append_right (Nat.le_refl _), Nat.sub_self]; rfl
theorem isGap_more (l y : Bs) (f : Bool) (h : isGap l f = false) : isGap (l ++ y) f = false := by
  cases l with
  | nil => exact absurd h (by simp [isGap])
  | cons b l => exact h
theorem isFlow_more (l y : Bs) (f : Bool) (hl : l ≠ []) : isFlow (l ++ y) f = isFlow l f := by
  cases l with
  | nil => exact absurd rfl hl
  | cons b l => rfl
theorem endIs_more (t y : Bs) (f : Bool) (i : Nat) (hi : i < t.length) (h : endIs t f i = false) : endIs (t ++ y) f i = false := by
  unfold endIs at h ⊢
  rw [get_old _ _ _ hi]
  split
  · rename_i c
    rw [if_pos c] at h
    rw [List.drop_append_of_le_length (by omega)]
    exact isGap_more _ _ _ h
  · rename_i c
    rw [if_neg c] at h
    split
    · rename_i d
      rw [if_pos d] at h
      by_cases k : 0 < i
      · rw [get_old _ _ _ (by omega)]; exact h
      · simp [k]
    · rename_i d
      rw [if_neg d] at h
      rw [List.drop_append_of_le_length (by omega), isFlow_more _ _ _ (by intro e; have := congrArg List.length e; rw [List.length_drop] at this; simp at this; omega)]
      exact h
theorem pend_no {t : Bs} {f : Bool} (h : pend t f = t.length) (j : Nat) (hj : j < t.length) : endIs t f j = false := by
  rcases pend_cases t f with ⟨k, hk, h0, h1⟩ | h0
  · rw [pend_at t f k hk h0 h1] at h; omega
  · exact h0 j hj
set_option maxRecDepth 100000 in
theorem flows_not : ∀ b : UInt8, flows.contains b = true → b ≠ 58 ∧ b ≠ 35 ∧ b ≠ 32 ∧ lettersBs.contains b = false ∧ (32 :: flows).contains b = true := by
  intro b
  have : ∀ n, n < 256 → flows.contains (UInt8.ofNat n) = true → UInt8.ofNat n ≠ 58 ∧ UInt8.ofNat n ≠ 35 ∧ UInt8.ofNat n ≠ 32 ∧ lettersBs.contains (UInt8.ofNat n) = false ∧ (32 :: flows).contains (UInt8.ofNat n) = true := by decide
  have h := this b.toNat b.toNat_lt
  rwa [UInt8.ofNat_toNat] at h
theorem isFlow_head {y : Bs} {f : Bool} (h : isFlow y f = true) : f = true ∧ ∃ b z, y = b :: z ∧ flows.contains b = true := by
  unfold isFlow at h
  cases y with
  | nil => simp at h
  | cons b z => simp only [Bool.and_eq_true] at h; exact ⟨h.1, b, z, rfl, h.2⟩
theorem pend_stop (t y : Bs) (f : Bool) (h : ∀ i, i < t.length → endIs t f i = false) (hy : Stop f y) : pend (t ++ y) f = t.length := by
  rcases hy with rfl | hy | ⟨z, rfl⟩
  · rw [List.append_nil]; exact pend_end t f h
  · obtain ⟨hf, b, z, rfl, hb⟩ := isFlow_head hy
    refine pend_at _ f _ (by simp) (fun j hj => endIs_more t _ f j hj (h j hj)) ?_
    unfold endIs
    rw [get_new, if_neg (flows_not b hb).1, if_neg (flows_not b hb).2.1, List.drop_left]
    exact hy
  · refine pend_at _ f _ (by simp) (fun j hj => endIs_more t _ f j hj (h j hj)) ?_
    unfold endIs
    rw [get_new, if_pos rfl, ← List.drop_drop, List.drop_left]
    rfl
theorem trim_self {l cs : Bs} (h : trim l cs = l) : trimR l cs = l ∧ trimL l cs = l := by
  have h1 := trimR_le l cs
  have h2 := trimL_le (trimR l cs) cs
  have h3 : (trimL (trimR l cs) cs).length = l.length := congrArg List.length h
  have h4 : trimR l cs = l := by
    unfold trimR
    have hs := List.dropWhile_suffix (l := l.reverse) (cs.contains ·)
    have he := hs.eq_of_length (by have : (trimR l cs).length = (l.reverse.dropWhile (cs.contains ·)).length := by unfold trimR; simp
                                   rw [List.length_reverse]; omega)
    rw [he, List.reverse_reverse]
  exact ⟨h4, by unfold trim at h; rw [h4] at h; exact h⟩
theorem trimL_head {b : UInt8} {z : Bs} (h : b ≠ 32) : trimL (b :: z) [32] = b :: z := by
  unfold trimL
  rw [List.dropWhile_cons_of_neg (by simpa using h)]
structure Plain (x : Bs) (f : Bool) : Prop where
  ne : x ≠ []
  tr : trim x [32] = x
  no : ∀ i, i < x.length → endIs x f i = false
  mk0 : marks.contains (x.getD 0 0) = false
  is : pis x f = true
theorem pis_plain {x : Bs} {f : Bool} (h : pis x f = true) : Plain x f := by
  have h' := h
  unfold pis at h
  simp only [Bool.and_eq_true, Bool.not_eq_true', Bool.or_eq_false_iff, beq_iff_eq, Bool.not_eq_false'] at h
  refine ⟨?_, h.1.1.1.1.2, pend_no h.2, h.1.1.2.1, h'⟩
  intro e
  subst e
  simp at h
theorem pcut_stop {x : Bs} {f : Bool} (h : Plain x f) (y : Bs) (hy : Stop f y) : pcut (x ++ y) f = x := by
  unfold pcut
  rw [pend_stop x y f h.no hy, List.take_left]
  exact (trim_self h.tr).1
theorem marks_are : ∀ b : UInt8, marks.contains b = false → b ≠ 38 ∧ b ≠ 33 ∧ b ≠ 42 ∧ b ≠ 91 ∧ b ≠ 123 ∧ b ≠ 93 ∧ b ≠ 125 ∧ b ≠ 44 ∧ b ≠ 58 ∧ b ≠ 39 ∧ b ≠ 34 := by
  intro b h
  refine ⟨?_, ?_, ?_, ?_, ?_, ?_, ?_, ?_, ?_, ?_, ?_⟩ <;> (rintro rfl; exact absurd h (by decide))
theorem Plain.head {x : Bs} {f : Bool} (h : Plain x f) : ∃ b z, x = b :: z ∧ b ≠ 32 ∧ marks.contains b = false := by
  have hm := h.mk0
  have ht := (trim_self h.tr).2
  have hn := h.ne
  cases x with
  | nil => exact absurd rfl hn
  | cons b z =>
    refine ⟨b, z, rfl, ?_, hm⟩
    rintro rfl
    have := congrArg List.length ht
    have h2 : trimL (32 :: z) [32] = trimL z [32] := by unfold trimL; rw [List.dropWhile_cons_of_pos (by decide)]
    rw [h2] at this
    have := trimL_le z [32]
    simp at *
    omega
theorem isGap_mono (l : Bs) (h : isGap l false = true) : isGap l true = true := by
  cases l with
  | nil => rfl
  | cons b l => simp only [isGap, isFlow, Bool.false_and, Bool.or_false] at h ⊢; simp [h]
theorem endIs_mono (l : Bs) (i : Nat) (h : endIs l true i = false) : endIs l false i = false := by
  unfold endIs at h ⊢
  split
  · rename_i c
    rw [if_pos c] at h
    cases hx : isGap (l.drop (i + 1)) false with
    | false => rfl
    | true => rw [isGap_mono _ hx] at h; exact h
  · rename_i c
    rw [if_neg c] at h
    split
    · rename_i d; rw [if_pos d] at h; exact h
    · rfl
theorem pis_mono (x : Bs) (h : pis x true = true) : pis x false = true := by
  have hp := pis_plain h
  have he : pend x false = x.length := pend_end x false fun j hj => endIs_mono x j (hp.no j hj)
  unfold pis at h ⊢
  simp only [Bool.and_eq_true, Bool.not_eq_true', Bool.or_eq_false_iff, beq_iff_eq, Bool.not_eq_false'] at h ⊢
  refine ⟨⟨⟨h.1.1.1, h.1.1.2.1, ?_⟩, h.1.2⟩, he⟩
  have hg := h.1.1.2.2
  cases hx : isGap (x.drop 1) false with
  | false => simp
  | true => rw [isGap_mono _ hx] at hg; exact hg
/-! ### numbers -/
set_option maxRecDepth 100000 in
theorem digit_facts : ∀ b : UInt8, (b = 45 ∨ 48 ≤ b.toNat ∧ b.toNat ≤ 57) → marks.contains b = false ∧ flows.contains b = false ∧ b ≠ 58 ∧ b ≠ 35 ∧ b ≠ 32 ∧ b ≠ 9 ∧ b ≠ 10 ∧ b ≠ 13 ∧ b.toNat < 128 ∧ printable (b.toNat : Int) = true := by
  intro b
  have : ∀ n, n < 256 → (UInt8.ofNat n = 45 ∨ 48 ≤ (UInt8.ofNat n).toNat ∧ (UInt8.ofNat n).toNat ≤ 57) → marks.contains (UInt8.ofNat n) = false ∧ flows.contains (UInt8.ofNat n) = false ∧ UInt8.ofNat n ≠ 58 ∧ UInt8.ofNat n ≠ 35 ∧ UInt8.ofNat n ≠ 32 ∧ UInt8.ofNat n ≠ 9 ∧ UInt8.ofNat n ≠ 10 ∧ UInt8.ofNat n ≠ 13 ∧ (UInt8.ofNat n).toNat < 128 ∧ printable ((UInt8.ofNat n).toNat : Int) = true := by decide
  have h := this b.toNat b.toNat_lt
  rwa [UInt8.ofNat_toNat] at h
abbrev Dig (b : UInt8) : Prop := 48 ≤ b.toNat ∧ b.toNat ≤ 57
theorem decDigits_all : ∀ (n u : Nat), u ≤ n → Lib.decDigits u ≠ [] ∧ ∀ b ∈ Lib.decDigits u, Dig b := by
  intro n
  induction n with
  | zero =>
    intro u h
    obtain rfl : u = 0 := by omega
    rw [Lib.decDigits, dif_pos (by omega)]
    exact ⟨by simp, by decide⟩
  | succ n ih =>
    intro u h
    have one : ∀ d, d < 10 → Dig (UInt8.ofNat (48 + d)) := by decide
    by_cases c : u < 10
    · rw [Lib.decDigits, dif_pos c]
      exact ⟨by simp, fun b hb => by rw [List.mem_singleton.1 hb]; exact one u c⟩
    · rw [Lib.decDigits, dif_neg c]
      refine ⟨by simp, fun b hb => ?_⟩
      rcases List.mem_append.1 hb with hb | hb
      · exact (ih (u / 10) (by omega)).2 b hb
      · rw [List.mem_singleton.1 hb]; exact one _ (by omega)
theorem utf1_low (b : UInt8) (l : Bs) (h : b.toNat < 128) : utf1 (b :: l) = ((b.toNat : Int), 1) := by
  have : dec (b :: l) = (b.toNat, 1) := by
    rw [dec_cons]; unfold Lib.decodeN; rw [if_pos h]
  unfold utf1
  rw [this]
  simp only []
  rw [if_neg (by omega)]
theorem uw_low (l : Bs) (h : ∀ b ∈ l, b.toNat < 128 ∧ printable (b.toNat : Int) = true) : uw printable l = l.length := by
  induction l with
  | nil => exact uw_nil _
  | cons b l ih =>
    rw [uw_step printable (by simp), utf1_low b l (h b (by simp)).1]
    simp only []
    rw [if_pos (h b (by simp)).2]
    show 1 + uw printable l = _
    rw [ih fun c hc => h c (List.mem_cons_of_mem _ hc)]
    simp; omega
theorem trim_none (l cs : Bs) (h : ∀ b ∈ l, cs.contains b = false) : trim l cs = l := by
  have h1 : trimR l cs = l := by
    unfold trimR
    cases hr : l.reverse with
    | nil => rw [List.reverse_eq_nil_iff.1 hr]; rfl
    | cons b z =>
      rw [List.dropWhile_cons_of_neg (by have := h b (List.mem_reverse.1 (by rw [hr]; simp)); simp only [this]; simp), ← hr, List.reverse_reverse]
  unfold trim
  rw [h1]
  unfold trimL
  cases l with
  | nil => rfl
  | cons b z => rw [List.dropWhile_cons_of_neg (by have := h b (by simp); simp only [this]; simp)]
theorem getD_mem (l : Bs) (i : Nat) (h : i < l.length) : l.getD i 0 ∈ l := by
  rw [List.getD_eq_getElem?_getD, List.getElem?_eq_getElem h]; exact List.getElem_mem h
theorem pis_num (x ds : Bs) (hn : ds ≠ []) (hd : ∀ b ∈ ds, Dig b) (hx : x = ds ∨ x = 45 :: ds) (f : Bool) : pis x f = true := by
  have hm : ∀ b ∈ x, b = 45 ∨ Dig b := by
    intro b hb
    rcases hx with rfl | rfl
    · exact .inr (hd b hb)
    · rcases List.mem_cons.1 hb with rfl | hb
      · exact .inl rfl
      · exact .inr (hd b hb)
  have hne : x ≠ [] := by rcases hx with rfl | rfl <;> simp [hn]
  have hlen : 0 < x.length := List.length_pos_iff.2 hne
  have hno : ∀ c : UInt8, (∀ b : UInt8, (b = 45 ∨ Dig b) → b ≠ c) → x.contains c = false := by
    intro c hc
    rw [Bool.eq_false_iff]
    intro hh
    exact hc c (hm c (List.contains_iff_mem.1 hh)) rfl
  have hp : pend x f = x.length := pend_end x f fun i hi => by
    have hf := digit_facts _ (hm _ (getD_mem x i hi))
    unfold endIs
    rw [if_neg hf.2.2.1, if_neg hf.2.2.2.1]
    unfold isFlow
    rw [List.drop_eq_getElem_cons hi]
    have he : x.getD i 0 = x[i] := by rw [List.getD_eq_getElem?_getD, List.getElem?_eq_getElem hi]; rfl
    rw [he] at hf
    simp only [hf.2.1, Bool.and_false]
  have hu : ucheck x = (0, 0) := by
    rcases ucheck_cases x with h | ⟨k, _, h, h2⟩
    · exact h.1
    · rw [uw_low x fun b hb => ⟨(digit_facts b (hm b hb)).2.2.2.2.2.2.2.2.1, (digit_facts b (hm b hb)).2.2.2.2.2.2.2.2.2⟩] at h; omega
  have hdash : x ≠ dashes := by
    rintro rfl
    rcases hx with h | h
    · have := hd 45 (by rw [← h]; decide); exact absurd this (by decide)
    · have := hd 45 (by have : ds = [45, 45] := (List.cons.inj h).2.symm
                        rw [this]; decide)
      exact absurd this (by decide)
  have hgap : (x.getD 0 0 == 45 && isGap (x.drop 1) f) = false := by
    rcases hx with e | e <;> rw [e]
    · cases ds with
      | nil => exact absurd rfl hn
      | cons b z =>
        have := hd b (by simp)
        have : b ≠ 45 := by rintro rfl; exact absurd this (by decide)
        simp [this]
    · cases ds with
      | nil => exact absurd rfl hn
      | cons b z =>
        have hb := digit_facts b (.inr (hd b (by simp)))
        simp only [List.drop_succ_cons, List.drop_zero, isGap, isFlow, hb.2.1, Bool.and_false, Bool.or_false]
        simp [hb.2.2.2.2.1]
  have h32 : trim x [32] = x := trim_none x _ fun b hb => by have := (digit_facts b (hm b hb)).2.2.2.2.1; simpa using this
  have h9 : trim x [9, 10, 13] = x := trim_none x _ fun b hb => by have := (digit_facts b (hm b hb)).2.2.2.2.2; simpa using ⟨this.1, this.2.1, this.2.2.1⟩
  have c9 := hno 9 fun b hb => (digit_facts b hb).2.2.2.2.2.1
  have c10 := hno 10 fun b hb => (digit_facts b hb).2.2.2.2.2.2.1
  have c13 := hno 13 fun b hb => (digit_facts b hb).2.2.2.2.2.2.2.1
  have hmk := (digit_facts _ (hm _ (getD_mem x 0 hlen))).1
  unfold pis
  simp only [Bool.and_eq_true, Bool.not_eq_true', Bool.or_eq_false_iff, beq_iff_eq, Bool.not_eq_false']
  refine ⟨⟨⟨⟨⟨⟨by cases x with | nil => exact absurd rfl hne | cons _ _ => rfl, by simpa using hdash⟩, h32⟩, hu⟩, hmk, hgap⟩, ⟨⟨h9, c9⟩, c10⟩, c13⟩, hp⟩
theorem pis_number (x : Bs) (v : Int) (h : pnum x = some v) (f : Bool) : pis x f = true := by
  unfold pnum at h
  split at h
  · rename_i w _
    split at h
    · rename_i e
      by_cases c : w < 0
      · have hd := decDigits_all _ w.natAbs (Nat.le_refl _)
        refine pis_num x (Lib.decDigits w.natAbs) hd.1 hd.2 (.inr ?_) f
        rw [← e]; unfold Lib.itoa; rw [if_pos c]
      · have hd := decDigits_all _ w.toNat (Nat.le_refl _)
        refine pis_num x (Lib.decDigits w.toNat) hd.1 hd.2 (.inl ?_) f
        rw [← e]; unfold Lib.itoa; rw [if_neg c]
    · exact absurd h (by simp)
  · exact absurd h (by simp)
theorem presolve_cases (x : Bs) : (presolve x = 1 ∧ (x = [] ∨ x = [126] ∨ x = bNull)) ∨ (presolve x = 2 ∧ (x = bTrue ∨ x = bFalse)) ∨ (presolve x = 3 ∧ ∃ v, pnum x = some v) ∨ presolve x = 4 := by
  unfold presolve
  split
  · rename_i h
    simp only [Bool.or_eq_true, beq_iff_eq, List.isEmpty_iff] at h
    exact .inl ⟨rfl, by rcases h with (h | h) | h <;> simp [h]⟩
  split
  · rename_i h
    simp only [Bool.or_eq_true, beq_iff_eq] at h
    exact .inr (.inl ⟨rfl, h⟩)
  split
  · rename_i h
    exact .inr (.inr (.inl ⟨rfl, Option.isSome_iff_exists.1 h⟩))
  · exact .inr (.inr (.inr rfl))
theorem null_is : ∀ f, pis bNull f = true := by
  have h : (pis bNull true && pis bNull false) = true := by kernel_rfl
  rw [Bool.and_eq_true] at h
  intro f; cases f <;> simp [h]
theorem true_is : ∀ f, pis bTrue f = true := by
  have h : (pis bTrue true && pis bTrue false) = true := by kernel_rfl
  rw [Bool.and_eq_true] at h
  intro f; cases f <;> simp [h]
theorem false_is : ∀ f, pis bFalse f = true := by
  have h : (pis bFalse true && pis bFalse false) = true := by kernel_rfl
  rw [Bool.and_eq_true] at h
  intro f; cases f <;> simp [h]
/-- A scalar's text is plain, or in quotes. -/
theorem scalar_ways (k : Int) (t : Bs) (h1 : 1 ≤ k) (h4 : k ≤ 4) (ht : isTextB k t = true) :
    (presolve (scalarS k t true) = k ∧ (∀ f, pis (scalarS k t true) f = true) ∧ (if k = 1 then [] else scalarS k t true) = t) ∨ (k = 4 ∧ scalarS k t true = (qdouble t).getD [] ∧ uw nonneg t = t.length) := by
  unfold isTextB at ht
  have hc : k = 1 ∨ k = 2 ∨ k = 3 ∨ k = 4 := by omega
  rcases hc with rfl | rfl | rfl | rfl
  · left
    rw [if_neg (by decide), if_neg (by decide)] at ht
    have : t = [] := List.isEmpty_iff.1 ht
    subst this
    exact ⟨by kernel_rfl, fun f => null_is f, rfl⟩
  · left
    rw [if_pos (by decide)] at ht
    have hp : presolve t = 2 := of_decide_eq_true ht
    have e : scalarS 2 t true = t := by unfold scalarS; rw [if_neg (by decide), if_pos (by decide)]
    rw [e]
    refine ⟨hp, ?_, by rw [if_neg (by decide)]⟩
    rcases presolve_cases t with ⟨h, _⟩ | ⟨_, rfl | rfl⟩ | ⟨h, _⟩ | h
    · omega
    · exact true_is
    · exact false_is
    · omega
    · omega
  · left
    rw [if_pos (by decide)] at ht
    have hp : presolve t = 3 := of_decide_eq_true ht
    have e : scalarS 3 t true = t := by unfold scalarS; rw [if_neg (by decide), if_pos (by decide)]
    rw [e]
    refine ⟨hp, ?_, by rw [if_neg (by decide)]⟩
    rcases presolve_cases t with ⟨h, _⟩ | ⟨h, _⟩ | ⟨_, v, h⟩ | h
    · omega
    · omega
    · exact fun f => pis_number t v h f
    · omega
  · rw [if_neg (by decide), if_pos (by decide)] at ht
    have hu : uw nonneg t = t.length := of_decide_eq_true ht
    by_cases c : pis t true = true ∧ presolve t = 4
    · left
      have e : scalarS 4 t true = t := by unfold scalarS; rw [if_neg (by decide), if_neg (by decide), if_pos (by decide), if_pos c]
      rw [e]
      refine ⟨c.2, fun f => ?_, by rw [if_neg (by decide)]⟩
      cases f with
      | true => exact c.1
      | false => exact pis_mono t c.1
    · right
      exact ⟨rfl, by unfold scalarS; rw [if_neg (by decide), if_neg (by decide), if_pos (by decide), if_neg c], hu⟩
/-! ### names -/
theorem name_all {a : Bs} (h : isName a = true) : a ≠ [] ∧ a.length ≤ 32 ∧ ∀ b ∈ a, lettersBs.contains b = true := by
  unfold isName at h
  simp only [Bool.and_eq_true, Bool.not_eq_true', decide_eq_true_eq, List.isEmpty_iff] at h
  obtain ⟨⟨h1, h2⟩, h3⟩ := h
  refine ⟨by rintro rfl; simp at h1, h2, fun b hb => ?_⟩
  have hL : nameSet = lettersBs := by kernel_rfl
  rw [← hL]
  unfold trim trimL at h3
  have h4 := (dw_nil _ _).1 h3
  have h5 : a.reverse.dropWhile (nameSet.contains ·) = [] := by
    cases hc : a.reverse.dropWhile (nameSet.contains ·) with
    | nil => rfl
    | cons c z =>
      have k1 : nameSet.contains c = true := h4 c (by unfold trimR; rw [hc]; simp)
      have k2 := List.head_dropWhile_not (p := (nameSet.contains ·)) (l := a.reverse) (by rw [hc]; simp)
      simp only [hc, List.head_cons] at k2
      rw [k1] at k2
      exact absurd k2 (by simp)
  exact (dw_nil _ _).1 h5 b (List.mem_reverse.2 hb)
theorem word_stop (a y set : Bs) (ha : ∀ b ∈ a, set.contains b = true) (hy : y = [] ∨ ∃ b z, y = b :: z ∧ set.contains b = false) : wordL (a ++ y) set = a ∧ cutL (a ++ y) set = y := by
  induction a with
  | nil =>
    rcases hy with rfl | ⟨b, z, rfl, hb⟩
    · exact ⟨rfl, rfl⟩
    · simp only [List.nil_append, wordL, cutL]
      rw [List.takeWhile_cons_of_neg (by simpa using hb), List.dropWhile_cons_of_neg (by simpa using hb)]
      exact ⟨rfl, rfl⟩
  | cons c a ih =>
    obtain ⟨i1, i2⟩ := ih fun b hb => ha b (List.mem_cons_of_mem _ hb)
    simp only [wordL, cutL] at i1 i2 ⊢
    rw [List.cons_append, List.takeWhile_cons_of_pos (by simpa using ha c (by simp)), List.dropWhile_cons_of_pos (by simpa using ha c (by simp)), i1, i2]
    exact ⟨rfl, rfl⟩
theorem Stop.letter {f : Bool} {y : Bs} (h : Stop f y) : y = [] ∨ ∃ b z, y = b :: z ∧ lettersBs.contains b = false := by
  rcases h with rfl | h | ⟨z, rfl⟩
  · exact .inl rfl
  · obtain ⟨_, b, z, rfl, hb⟩ := isFlow_head h
    exact .inr ⟨b, z, rfl, (flows_not b hb).2.2.2.1⟩
  · exact .inr ⟨58, _, rfl, by decide⟩
end Go.Proofs.YtbmonfcahhhdeaaGreatDoor
