/- Signs: what is encoded is decoded, and what is decoded is encoded. Quotes: what is put is read. -/
import Derived.Test.YtbmonfcahhhdeaaGreatDoorBlank7
import Derived.Lib.MapLaws
import Derived.Test.YtbmonfcahhhdeaaGreatDoorQuote9
set_option linter.unusedVariables false
set_option linter.unusedSimpArgs false
namespace Go.Proofs.YtbmonfcahhhdeaaGreatDoor
open Go.RowKit

theorem dec_list (l : Bs) (hl : l ≠ []) : dec l = Lib.decodeN l.length (l.getD 0 0).toNat (l.getD 1 0).toNat (l.getD 2 0).toNat (l.getD 3 0).toNat := by
  rcases l with _ | ⟨b, t⟩
  · exact absurd rfl hl
  · rw [dec_cons, get_list, get_list, get_list]; rfl
theorem dn2 (n b0 b1 b2 b3 R : Nat) (hn : 1 < n) (h0 : b0 = 192 + R / 64) (h1 : b1 = 128 + R % 64) (l : 128 ≤ R) (h : R ≤ 2047) : Lib.decodeN n b0 b1 b2 b3 = (R, 2) := by
  subst h0 h1
  unfold Lib.decodeN
  rw [if_neg (by omega), if_pos (by omega), if_pos (by omega)]
  exact Prod.ext (by simp only; omega) rfl
theorem dn3 (n b0 b1 b2 b3 R : Nat) (hn : 2 < n) (h0 : b0 = 224 + R / 4096) (h1 : b1 = 128 + R / 64 % 64) (h2 : b2 = 128 + R % 64) (l : 2048 ≤ R) (h : R ≤ 65535) (hs : R < 55296 ∨ 57343 < R) : Lib.decodeN n b0 b1 b2 b3 = (R, 3) := by
  have e : b0 % 16 * 4096 + b1 % 64 * 64 + b2 % 64 = R := by subst h0 h1 h2; omega
  unfold Lib.decodeN
  rw [if_neg (by omega), if_neg (by omega), if_pos (by omega), e, if_pos (by omega)]
theorem dn4 (n b0 b1 b2 b3 R : Nat) (hn : 3 < n) (h0 : b0 = 240 + R / 262144) (h1 : b1 = 128 + R / 4096 % 64) (h2 : b2 = 128 + R / 64 % 64) (h3 : b3 = 128 + R % 64) (l : 65536 ≤ R) (h : R ≤ 1114111) : Lib.decodeN n b0 b1 b2 b3 = (R, 4) := by
  have e : b0 % 8 * 262144 + b1 % 64 * 4096 + b2 % 64 * 64 + b3 % 64 = R := by subst h0 h1 h2 h3; omega
  unfold Lib.decodeN
  rw [if_neg (by omega), if_neg (by omega), if_neg (by omega), if_pos (by omega), e, if_pos (by omega)]
theorem byte_int (x : Int) (h0 : 0 ≤ x) (h1 : x < 256) : (x.toNat.toUInt8).toNat = x.toNat := by
  rw [Nat.toUInt8_eq, UInt8.toNat_ofNat']; omega
theorem sign_iff {r : Int} (h : sign r = true) : 0 ≤ r ∧ r ≤ 1114111 ∧ (r < 55296 ∨ 57343 < r) := by
  simp only [sign, Lib.validRune, Bool.and_eq_true, decide_eq_true_eq] at h
  omega
/-- What is encoded is decoded. -/
theorem dec_enc (r : Int) (hs : sign r = true) (y : Bs) : dec (runeBs r ++ y) = (r.toNat, (runeBs r).length) ∧ ((runeBs r).length < 3 → r ≤ 2047) ∧ 1 ≤ (runeBs r).length := by
  obtain ⟨h0, h1, h2⟩ := sign_iff hs
  unfold runeBs Lib.encodeRune
  by_cases c1 : r ≤ 127
  · rw [Lib.encodeRuneZ_one h0 c1]
    refine ⟨?_, fun _ => by omega, by simp⟩
    rw [dec_list _ (by simp)]
    simp only [List.map_cons, List.map_nil, List.cons_append, List.nil_append, List.getD_cons_zero, List.length_cons, List.length_nil]
    rw [byte_int r h0 (by omega)]
    unfold Lib.decodeN
    rw [if_pos (by omega)]
  by_cases c2 : r ≤ 2047
  · rw [Lib.encodeRuneZ_two (by omega) c2]
    refine ⟨?_, fun _ => by omega, by simp⟩
    rw [dec_list _ (by simp)]
    simp only [List.map_cons, List.map_nil, List.cons_append, List.nil_append, List.getD_cons_zero, List.getD_cons_succ, List.length_cons, List.length_nil]
    exact dn2 _ _ _ _ _ r.toNat (by omega) (by rw [byte_int _ (by omega) (by omega)]; omega) (by rw [byte_int _ (by omega) (by omega)]; omega) (by omega) (by omega)
  by_cases c3 : r ≤ 65535
  · rw [Lib.encodeRuneZ_three (by omega)]
    refine ⟨?_, fun h => by simp at h, by simp⟩
    rw [dec_list _ (by simp)]
    simp only [List.map_cons, List.map_nil, List.cons_append, List.nil_append, List.getD_cons_zero, List.getD_cons_succ, List.length_cons, List.length_nil]
    exact dn3 _ _ _ _ _ r.toNat (by omega) (by rw [byte_int _ (by omega) (by omega)]; omega) (by rw [byte_int _ (by omega) (by omega)]; omega) (by rw [byte_int _ (by omega) (by omega)]; omega) (by omega) (by omega) (by omega)
  · rw [Lib.encodeRuneZ_four (by omega) (by omega)]
    refine ⟨?_, fun h => by simp at h, by simp⟩
    rw [dec_list _ (by simp)]
    simp only [List.map_cons, List.map_nil, List.cons_append, List.nil_append, List.getD_cons_zero, List.getD_cons_succ, List.length_cons, List.length_nil]
    exact dn4 _ _ _ _ _ r.toNat (by omega) (by rw [byte_int _ (by omega) (by omega)]; omega) (by rw [byte_int _ (by omega) (by omega)]; omega) (by rw [byte_int _ (by omega) (by omega)]; omega) (by rw [byte_int _ (by omega) (by omega)]; omega) (by omega) (by omega)
theorem utf1_enc (r : Int) (hs : sign r = true) (y : Bs) : utf1 (runeBs r ++ y) = (r, (runeBs r).length) := by
  obtain ⟨h, h2, h3⟩ := dec_enc r hs y
  have hr := sign_iff hs
  unfold utf1
  rw [h]
  simp only []
  rw [if_neg (by intro c; have := h2 c.2; omega)]
  exact Prod.ext (by simp only; omega) rfl
/-- What is decoded is encoded. -/
theorem enc_utf1 (l : Bs) (hl : l ≠ []) (h : 0 ≤ (utf1 l).1) : sign (utf1 l).1 = true ∧ runeBs (utf1 l).1 = l.take (utf1 l).2 := by
  have hd : dec l = Lib.decodeL l := by rw [dec_list l hl, Lib.decodeL_N]
  have hc : ¬ ((dec l).1 = 65533 ∧ (dec l).2 < 3) := by
    intro c
    unfold utf1 at h
    rw [if_pos c] at h
    simp at h
  have e1 : (utf1 l).1 = ((dec l).1 : Int) := by unfold utf1; rw [if_neg hc]
  have e2 : (utf1 l).2 = (dec l).2 := by unfold utf1; rw [if_neg hc]
  refine ⟨?_, ?_⟩
  · have hv := Lib.decodeN_shape l.length (l.getD 0 0).toNat (l.getD 1 0).toNat (l.getD 2 0).toNat (l.getD 3 0).toNat
    rw [← dec_list l hl] at hv
    rw [e1]
    simp only [sign, Lib.validRune, Bool.and_eq_true, decide_eq_true_eq]
    have k0 := (l.getD 0 0).toNat_lt
    rcases hv with ⟨c, e⟩ | ⟨_, _, _, c, e⟩ | ⟨_, _, _, _, c, d, e⟩ | ⟨_, _, _, _, _, c, d, e⟩ | e
    · rw [e]; simp only []; omega
    · rw [e]; simp only []; omega
    · rw [e]; simp only []; omega
    · rw [e]; simp only []; omega
    · rw [e]; simp only []; omega
  · rw [e1, e2, hd]
    refine Lib.encode_decode l hl ?_
    rw [← hd]
    intro c
    exact hc ⟨c.1, by omega⟩
/-- A text whose signs are all well is its signs' bytes. -/
theorem us_all : ∀ (n : Nat) (l : Bs), l.length ≤ n → uw nonneg l = l.length → (∀ x ∈ us nonneg l, sign x = true) ∧ (us nonneg l).flatMap runeBs = l := by
  intro n
  induction n with
  | zero =>
    intro l h _
    obtain rfl : l = [] := List.eq_nil_of_length_eq_zero (by omega)
    rw [us_nil]
    simp
  | succ n ih =>
    intro l h hw
    by_cases hl : l = []
    · subst hl; rw [us_nil]; simp
    rw [uw_step nonneg hl] at hw
    rw [us_step nonneg hl]
    have hp : 0 < l.length := List.length_pos_iff.2 hl
    by_cases c : nonneg (utf1 l).1 = true
    · rw [if_pos c] at hw ⊢
      have hb := utf1_bounds l
      have h1 := hb.2.2.2 hl
      have hle := uw_le nonneg (l.drop (utf1 l).2)
      rw [List.length_drop] at hle
      obtain ⟨i1, i2⟩ := ih (l.drop (utf1 l).2) (by rw [List.length_drop]; omega) (by rw [List.length_drop]; omega)
      obtain ⟨e1, e2⟩ := enc_utf1 l hl (by simpa [nonneg] using c)
      refine ⟨?_, ?_⟩
      · intro x hx
        rcases List.mem_cons.1 hx with rfl | hx
        · exact e1
        · exact i1 x hx
      · rw [List.flatMap_cons, i2, e2, List.take_append_drop]
    · rw [if_neg c] at hw
      omega
end Go.Proofs.YtbmonfcahhhdeaaGreatDoor

namespace Go.Proofs.YtbmonfcahhhdeaaGreatDoor
open Go.RowKit

theorem dw_nil {α : Type} (p : α → Bool) (l : List α) : l.dropWhile p = [] ↔ ∀ b ∈ l, p b = true := by
  induction l with
  | nil => simp
  | cons a l ih =>
    rw [List.dropWhile_cons]
    split
    · rename_i h; rw [ih]; simp [h]
    · rename_i h; simp [h]
theorem hexDig_is : ∀ d : Nat, d < 16 → isHex (hexDig d) = true ∧ hexV (hexDig d) = d := by decide
theorem hexL_is : ∀ (n u : Nat), u ≤ n → (hexL u).all isHex = true ∧ hexN (hexL u) = u := by
  intro n
  induction n with
  | zero =>
    intro u h
    obtain rfl : u = 0 := by omega
    rw [hexL_small (by omega)]
    exact ⟨rfl, rfl⟩
  | succ n ih =>
    intro u h
    by_cases c : u < 16
    · rw [hexL_small c]
      have := hexDig_is u c
      refine ⟨by simp [this.1], ?_⟩
      simp [hexN, hexFrom, this.2]
    · rw [hexL_big (by omega)]
      have hd := hexDig_is (u % 16) (by omega)
      obtain ⟨i1, i2⟩ := ih (u / 16) (by omega)
      refine ⟨by rw [List.all_append, i1]; simp [hd.1], ?_⟩
      unfold hexN hexFrom at i2 ⊢
      rw [List.foldl_append, i2]
      simp only [List.foldl_cons, List.foldl_nil, hd.2]
      omega
theorem zeros_all (k : Nat) (l : Bs) (h : l.all isHex = true) : (Lib.repeatL [48] k ++ l).all isHex = true := by
  induction k with
  | zero => simpa [Lib.repeatL] using h
  | succ k ih =>
    have : Lib.repeatL [48] (k + 1) ++ l = 48 :: (Lib.repeatL [48] k ++ l) := by simp [Lib.repeatL]
    rw [this, List.all_cons, ih]; rfl
theorem zeros_hex (k : Nat) (l : Bs) : hexN (Lib.repeatL [48] k ++ l) = hexN l := by
  induction k with
  | zero => simp [Lib.repeatL]
  | succ k ih =>
    have : Lib.repeatL [48] (k + 1) ++ l = 48 :: (Lib.repeatL [48] k ++ l) := by simp [Lib.repeatL]
    rw [this]
    unfold hexN hexFrom at ih ⊢
    rw [List.foldl_cons]
    exact ih
theorem trim_all (l cs : Bs) (h : ∀ b ∈ l, cs.contains b = true) : trim l cs = [] := by
  have h1 : trimR l cs = [] := by
    unfold trimR
    rw [(dw_nil _ _).2 (fun b hb => h b (List.mem_reverse.1 hb))]
    rfl
  unfold trim
  rw [h1]
  rfl
theorem qescHex_put (n many : Nat) (hs : sign n = true) (hl : (hexL n).length ≤ many) (y : Bs) : qescHex many (Lib.repeatL [48] (many - (hexL n).length) ++ hexL n ++ y) = ((n : Int), 2 + (many : Int), 0) := by
  obtain ⟨i1, i2⟩ := hexL_is n n (Nat.le_refl _)
  have hlen : (Lib.repeatL [48] (many - (hexL n).length) ++ hexL n).length = many := by
    rw [List.length_append, Lib.repeatL_length]; simp; omega
  have ht : (Lib.repeatL [48] (many - (hexL n).length) ++ hexL n ++ y).take many = Lib.repeatL [48] (many - (hexL n).length) ++ hexL n := by
    rw [List.take_append_of_le_length (by omega), List.take_of_length_le (by omega)]
  unfold qescHex
  rw [ht, trim_all _ _ (fun b hb => by rw [hexSet_contains]; exact List.all_eq_true.1 (zeros_all _ _ i1) b hb), zeros_hex, i2, if_neg (by simp), if_neg (by rw [List.length_append]; omega), if_pos hs]
theorem qescape_hex (letter : UInt8) (n many : Nat) (hm : letter = 120 ∧ many = 2 ∨ letter = 117 ∧ many = 4 ∨ letter = 85 ∧ many = 8) (hs : sign n = true) (hl : (hexL n).length ≤ many) (y : Bs) :
    qescape (qhexBs letter n many ++ y) = ((n : Int), 2 + (many : Int), 0) := by
  have h := qescHex_put n many hs hl y
  rcases hm with ⟨rfl, rfl⟩ | ⟨rfl, rfl⟩ | ⟨rfl, rfl⟩
  all_goals
    simp only [qhexBs, List.cons_append, qescape]
    exact h
theorem qhexBs_length (c : UInt8) (n many : Nat) (hl : (hexL n).length ≤ many) : (qhexBs c n many).length = 2 + many := by
  simp [qhexBs, Lib.repeatL_length]; omega
theorem rune_head (r : Int) (hs : sign r = true) : ∃ b t, runeBs r = b :: t ∧ (b.toNat < 128 → (b.toNat : Int) = r) := by
  obtain ⟨h0, h1, h2⟩ := sign_iff hs
  unfold runeBs Lib.encodeRune
  by_cases c1 : r ≤ 127
  · rw [Lib.encodeRuneZ_one h0 c1]
    exact ⟨_, _, rfl, fun _ => by rw [byte_int r h0 (by omega)]; omega⟩
  by_cases c2 : r ≤ 2047
  · rw [Lib.encodeRuneZ_two (by omega) c2]
    exact ⟨_, _, rfl, fun h => by rw [byte_int _ (by omega) (by omega)] at h; omega⟩
  by_cases c3 : r ≤ 65535
  · rw [Lib.encodeRuneZ_three (by omega)]
    exact ⟨_, _, rfl, fun h => by rw [byte_int _ (by omega) (by omega)] at h; omega⟩
  · rw [Lib.encodeRuneZ_four (by omega) (by omega)]
    exact ⟨_, _, rfl, fun h => by rw [byte_int _ (by omega) (by omega)] at h; omega⟩
theorem qone_back (x : Bs) (r k : Int) (y : Bs) (c : UInt8) (hx : x = 92 :: c :: y) (h : qescape x = (r, k, 0)) : qone 34 x = (runeBs r, k, 0) := by
  subst hx
  simp only [qone]
  rw [if_neg (by decide), if_pos (by decide), h]
  rfl
/-- One sign that was put is read. -/
theorem qone_put (r : Int) (hs : sign r = true) (y : Bs) : qone 34 (qputBs r.toNat ++ y) = (runeBs r, ((qputBs r.toNat).length : Int), 0) ∧ 1 ≤ (qputBs r.toNat).length := by
  obtain ⟨h0, h1, h2⟩ := sign_iff hs
  obtain ⟨n, rfl⟩ : ∃ n : Nat, r = n := ⟨r.toNat, by omega⟩
  rw [Int.toNat_natCast]
  unfold qputBs
  by_cases c1 : qshort n ≠ 0
  · rw [if_pos c1]
    refine ⟨?_, by simp⟩
    have key : ∀ (m : Nat) (c : UInt8), qshort (m : Int) = c → qescape (92 :: c :: y) = ((m : Int), 2, 0) → qone 34 ([92, qshort (m : Int)] ++ y) = (runeBs (m : Int), (([92, qshort (m : Int)] : Bs).length : Int), 0) := by
      intro m c hc he
      rw [hc]
      exact qone_back _ _ _ y c rfl he
    have hn : n = 34 ∨ n = 92 ∨ n = 10 ∨ n = 9 ∨ n = 13 ∨ n = 0 := by
      unfold qshort at c1
      by_cases d1 : n = 34
      · exact .inl d1
      by_cases d2 : n = 92
      · exact .inr (.inl d2)
      by_cases d3 : n = 10
      · exact .inr (.inr (.inl d3))
      by_cases d4 : n = 9
      · exact .inr (.inr (.inr (.inl d4)))
      by_cases d5 : n = 13
      · exact .inr (.inr (.inr (.inr (.inl d5))))
      by_cases d6 : n = 0
      · exact .inr (.inr (.inr (.inr (.inr d6))))
      rw [if_neg (by omega), if_neg (by omega), if_neg (by omega), if_neg (by omega), if_neg (by omega), if_neg (by omega)] at c1
      exact absurd rfl c1
    rcases hn with rfl | rfl | rfl | rfl | rfl | rfl
    · exact key 34 34 rfl rfl
    · exact key 92 92 rfl rfl
    · exact key 10 110 rfl rfl
    · exact key 9 116 rfl rfl
    · exact key 13 114 rfl rfl
    · exact key 0 48 rfl rfl
  rw [if_neg c1]
  by_cases c2 : qmay n = true
  · rw [if_pos c2]
    have hu := utf1_enc n hs y
    refine ⟨?_, (dec_enc n hs y).2.2⟩
    obtain ⟨b, t, hb, hb2⟩ := rune_head n hs
    rw [hb] at hu ⊢
    have d1 : b ≠ 34 := by
      rintro rfl
      have h0 := hb2 (by decide)
      have hc : (((34 : UInt8).toNat : Nat) : Int) = 34 := rfl
      have : n = 34 := by omega
      subst this
      exact c1 (by decide)
    have d2 : b ≠ 92 := by
      rintro rfl
      have h0 := hb2 (by decide)
      have hc : (((92 : UInt8).toNat : Nat) : Int) = 92 := rfl
      have : n = 92 := by omega
      subst this
      exact c1 (by decide)
    rw [List.cons_append] at hu ⊢
    simp only [qone]
    rw [if_neg d1, if_neg (by rintro ⟨_, h⟩; exact d2 h), hu]
    simp only []
    rw [if_pos c2, ← List.cons_append, List.take_left]
  rw [if_neg c2]
  have fin : ∀ (letter : UInt8) (many : Nat), (letter = 120 ∧ many = 2 ∨ letter = 117 ∧ many = 4 ∨ letter = 85 ∧ many = 8) → (hexL n).length ≤ many → qone 34 (qhexBs letter n many ++ y) = (runeBs n, ((qhexBs letter n many).length : Int), 0) ∧ 1 ≤ (qhexBs letter n many).length := by
    intro letter many hm hl
    have he := qescape_hex letter n many hm hs hl y
    rw [qhexBs_length _ _ _ hl]
    refine ⟨?_, by omega⟩
    exact qone_back _ _ _ _ letter rfl (by rw [he]; simp)
  by_cases c3 : n < 256
  · rw [if_pos c3]; exact fin 120 2 (by simp) (hexL_len 1 n (by omega))
  rw [if_neg c3]
  by_cases c4 : n < 65536
  · rw [if_pos c4]; exact fin 117 4 (by simp) (hexL_len 3 n (by omega))
  rw [if_neg c4]
  exact fin 85 8 (by simp) (hexL_len 7 n (by omega))
theorem qreadL_put (tot : Nat) : ∀ (xs : List Int) (f k : Nat) (y acc : Bs), (∀ x ∈ xs, sign x = true) → xs.length < f → qreadL 34 tot f k (qputs xs ++ 34 :: y) acc = (acc ++ xs.flatMap runeBs, ((k + (qputs xs).length + 1 : Nat) : Int), 0, 0) := by
  intro xs
  induction xs with
  | nil =>
    intro f k y acc _ hf
    obtain ⟨f, rfl⟩ : ∃ g, f = g + 1 := ⟨f - 1, by simp at hf; omega⟩
    simp only [qputs, List.flatMap_nil, List.nil_append, List.append_nil, List.length_nil, Nat.add_zero]
    simp [qreadL, qone]
  | cons x xs ih =>
    intro f k y acc hx hf
    obtain ⟨f, rfl⟩ : ∃ g, f = g + 1 := ⟨f - 1, by simp at hf; omega⟩
    have hq : qputs (x :: xs) = qputBs x.toNat ++ qputs xs := rfl
    obtain ⟨h1, h2⟩ := qone_put x (hx x (by simp)) (qputs xs ++ 34 :: y)
    rw [hq, List.append_assoc, qreadL, h1]
    have hne : qputBs x.toNat ++ (qputs xs ++ 34 :: y) ≠ [] := by simp
    rw [if_neg hne, if_neg (by simp), if_neg (by simp), if_neg (by simp only; omega)]
    simp only [Int.toNat_natCast]
    rw [List.drop_left, ih f _ y _ (fun z hz => hx z (List.mem_cons_of_mem _ hz)) (by simp at hf; omega)]
    rw [List.flatMap_cons, List.append_assoc, List.length_append]
    refine Prod.ext rfl (Prod.ext ?_ rfl)
    simp only []
    omega
/-- What Double puts is read. -/
theorem qread_double (l y : Bs) (h : uw nonneg l = l.length) : qread ((qdouble l).getD [] ++ y) = (l, (((qdouble l).getD []).length : Int), 0, 0) ∧ ∃ t, (qdouble l).getD [] = 34 :: t := by
  obtain ⟨h1, h2⟩ := us_all _ l (Nat.le_refl _) h
  have e : (qdouble l).getD [] = 34 :: (qputs (us nonneg l) ++ [34]) := by
    unfold qdouble
    rw [if_neg (by omega)]
    simp
  refine ⟨?_, _, e⟩
  rw [e]
  have e2 : ∀ Z : Bs, qread (34 :: Z) = qreadL 34 (Z.length + 1) Z.length 1 Z [] := fun Z => by simp [qread]
  show qread (34 :: (qputs (us nonneg l) ++ [34] ++ y)) = _
  rw [e2, List.append_assoc]
  have hk := qreadL_put ((qputs (us nonneg l) ++ ([34] ++ y)).length + 1) (us nonneg l) (qputs (us nonneg l) ++ ([34] ++ y)).length 1 y [] h1 ?_
  · rw [show ([34] ++ y : Bs) = 34 :: y from rfl] at hk ⊢
    rw [hk, List.nil_append, h2]
    refine Prod.ext rfl (Prod.ext ?_ rfl)
    simp
    omega
  · have : ∀ xs : List Int, (∀ x ∈ xs, sign x = true) → xs.length ≤ (qputs xs).length := by
      intro xs
      induction xs with
      | nil => intro _; simp
      | cons x xs ih =>
        intro hx
        have hq : qputs (x :: xs) = qputBs x.toNat ++ qputs xs := rfl
        have := (qone_put x (hx x (by simp)) []).2
        have := ih fun z hz => hx z (List.mem_cons_of_mem _ hz)
        rw [hq, List.length_append, List.length_cons]
        omega
    have := this _ h1
    rw [List.length_append]
    simp
    omega
end Go.Proofs.YtbmonfcahhhdeaaGreatDoor
