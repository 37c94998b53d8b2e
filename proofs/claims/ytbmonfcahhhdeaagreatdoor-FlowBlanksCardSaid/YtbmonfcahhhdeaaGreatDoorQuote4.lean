/- The walk of quote.Double. -/
import Derived.Test.YtbmonfcahhhdeaaGreatDoorQuote3
import Derived.Test.YtbmonfcahhhdeaaGreatDoorUtf3
set_option linter.unusedVariables false
set_option linter.unusedSimpArgs false
namespace Go.Proofs.YtbmonfcahhhdeaaGreatDoor
open Go.RowKit

theorem usigns_ok : ∀ (n : Nat) (l : Bs), uwalk nonneg n l = l.length → ∀ r ∈ usigns nonneg n l, 0 ≤ r ∧ r ≤ 1114111
  | 0, l, h, r, hr => by simp [usigns] at hr
  | n + 1, l, h, r, hr => by
    unfold usigns at hr
    unfold uwalk at h
    by_cases hl : l = []
    · simp [hl] at hr
    rw [if_neg hl] at hr h
    have hb := utf1_bounds l
    by_cases hp : nonneg (utf1 l).1 = true
    · rw [if_pos hp] at hr h
      have h1 : uwalk nonneg n (l.drop (utf1 l).2) = (l.drop (utf1 l).2).length := by rw [List.length_drop]; omega
      rcases List.mem_cons.1 hr with rfl | hr
      · exact ⟨by simpa [nonneg] using hp, hb.2.1⟩
      · exact usigns_ok n _ h1 r hr
    · rw [if_neg hp] at h
      exact absurd (List.eq_nil_of_length_eq_zero h.symm) hl
theorem us_ok {l : Bs} (h : uw nonneg l = l.length) : ∀ r ∈ us nonneg l, 0 ≤ r ∧ r ≤ 1114111 := usigns_ok _ _ h

theorem usigns_len (p : Int → Bool) : ∀ (n : Nat) (l : Bs), (usigns p n l).length ≤ l.length := fun n l => by
  induction n generalizing l with
  | zero => simp [usigns]
  | succ n ih =>
    unfold usigns
    by_cases hl : l = []
    · simp [hl]
    rw [if_neg hl]
    have hb := (utf1_bounds l).2.2.2 hl
    have := ih (l.drop (utf1 l).2)
    rw [List.length_drop] at this
    have := List.length_pos_iff.2 hl
    split
    · rw [List.length_cons]; omega
    · simp; omega

theorem bs_append (a b : Bs) : (⟨a.toArray⟩ : ByteArray) ++ ⟨b.toArray⟩ = ⟨(a ++ b).toArray⟩ := by
  apply ByteArray.ext
  simp
/-- The text of signs in double quotes. -/
def qputs (xs : List Int) : Bs := xs.flatMap fun r => qputBs r.toNat
theorem qputs_len : ∀ (xs : List Int), (∀ r ∈ xs, 0 ≤ r ∧ r ≤ 1114111) → (qputs xs).length ≤ 20 * xs.length
  | [], _ => by simp [qputs]
  | x :: xs, h => by
    have h1 := qputs_len xs fun r hr => h r (List.mem_cons_of_mem _ hr)
    have h2 := qputBs_len x.toNat (by have := h x (by simp); omega)
    unfold qputs at h1 ⊢
    rw [List.flatMap_cons, List.length_append, List.length_cons]
    omega
/-- quote.Double. -/
def qdouble (l : Bs) : Option Bs := if uw nonneg l < l.length then none else some ([34] ++ qputs (us nonneg l) ++ [34])

set_option maxHeartbeats 4000000 in
theorem quote_Double_bad (l : Bs) (G : Nat) (w : World) (hl : l.length ≤ 4294967296) (he : Env G w) (h : qdouble l = none) :
    Calls Tryz.prog 41 #[St l] w fun e w' => e = .returned (.tuple #[St [], .int .i64 8]) ∧ Below w.heap.size w w' := by
  have hlt : uw nonneg l < l.length := by unfold qdouble at h; split at h <;> simp_all
  have hD := utf_Decode_bad l G w hl he hlt
  have hne : ((8 : Int) != 0) = true := rfl
  go_enter Tryz.func41, Tryz.ntmps41
  go_wp2_with fail
  refine hD.mono ?_
  rintro e w1 ⟨rfl, hb1⟩
  go_wp2_with fail
  go_ret2
  exact ⟨rfl, hb1.trans ((Below.refl _ _).alloc hb1.size _)⟩

set_option maxHeartbeats 4000000 in
theorem quote_Double_ok (l X : Bs) (G : Nat) (w : World) (hl : l.length ≤ 4294967296) (he : Env G w) (h : qdouble l = some X) :
    Calls Tryz.prog 41 #[St l] w fun e w' => e = .returned (.tuple #[St X, .int .i64 0]) ∧ Below w.heap.size w w' := by
  have hlt : uw nonneg l = l.length := by
    unfold qdouble at h
    split at h
    · simp at h
    · have := uwalk_le nonneg l.length l; unfold uw at *; omega
  have hX : [34] ++ qputs (us nonneg l) ++ [34] = X := by unfold qdouble at h; rw [if_neg (by omega)] at h; simpa using h
  have hD := utf_Decode_ok l G w hl he hlt
  have hok := us_ok hlt
  have hn : (us nonneg l).length ≤ 4294967296 := Nat.le_trans (usigns_len nonneg _ _) hl
  generalize us nonneg l = xs at hX hD hok hn
  subst hX
  clear h hlt
  have HE := Lib.hid he
  clear he
  go_enter Tryz.func41, Tryz.ntmps41
  go_wp2_with fail
  refine hD.mono ?_
  rintro e w1 ⟨⟨A, c, rfl, hown⟩, hb1⟩
  go_wp2_with fail
  have HN := Lib.hid (And.intro hn hok)
  clear hn hok
  obtain ⟨b, hb⟩ : ∃ b, w1.heap.size + 1 = b := ⟨_, rfl⟩
  go_loopw [21] (fun v wr => ∃ i : Nat, v = .int .i64 i ∧ i ≤ xs.length ∧ Hid (Bld 115 b b (qputs (xs.take i)) wr ∧ Below w1.heap.size w1 wr ∧ b < wr.heap.size)) (fun v _ => xs.length - (intOf v).toNat)
  case atStart => exact ⟨0, rfl, by omega, Bld.fresh (Nat.le_refl _) (by rw [← hb]; exact blk_new1 _ _ _), ((Below.refl _ _).alloc (Nat.le_refl _) _).alloc (by simp) _, by rw [← hb]; simp⟩
  case round =>
    obtain ⟨i, rfl, hi, HX⟩ := hrel
    by_cases hlt : i < xs.length
    · have hx : xs[i]? = some xs[i] := List.getElem?_eq_getElem hlt
      obtain ⟨g, hA⟩ : ∃ g, A = some ⟨g, 0, none⟩ := by
        rcases hown.2 with ⟨h1, h2⟩ | ⟨g, cap, cur, h1, _⟩
        · simp only [Value.slice.injEq] at h1; omega
        · simp only [Value.slice.injEq] at h1; exact ⟨g, h1.1⟩
      subst hA
      have hci : wr.cell? ⟨g, i, none⟩ = some (.int .i64 xs[i]) := by
        have := (own_below hown HX.out.2.1).cells (g := g) rfl i (.int .i64 xs[i]) (by simp [ints, hlt])
        rwa [add_plain, Nat.zero_add] at this
      have HXB := Lib.hid (HN.out.2 xs[i] (List.getElem_mem hlt))
      generalize xs[i] = x at hx HXB hci
      go_wp2_with fail
      have hp := fun w' he h hw => quote_put x.toNat (by have := HXB.out; omega) G b b (qputs (xs.take i)) w' he h (by rw [← hb]; have := HE.out.le; have := hb1.size; omega) (by
        have h1 := qputs_len (xs.take i) fun r hr => HN.out.2 r (List.mem_of_mem_take hr)
        have h2 := HN.out.1
        rw [List.length_take] at h1
        omega) hw
      rw [Int.toNat_of_nonneg HXB.out.1] at hp
      subst hb
      refine (hp _ (((HE.out.own hb1)).own HX.out.2.1) HX.out.1 (by have := HX.out.2.2; omega)).mono ?_
      rintro e w2 ⟨rfl, hd2, hf2⟩
      have HY : Hid (Bld 115 (w1.heap.size + 1) (w1.heap.size + 1) (qputs (xs.take (i + 1))) w2 ∧ Below w1.heap.size w1 w2 ∧ w1.heap.size + 1 < w2.heap.size) := by
        refine ⟨?_, HX.out.2.1.trans (hf2.below.mono (by omega)), by have := HX.out.2.2; have := hf2.below.size; omega⟩
        have : qputs (xs.take (i + 1)) = qputs (xs.take i) ++ qputBs x.toNat := by
          rw [List.take_add_one, hx]; simp [qputs]
        rw [this]; exact hd2
      have hw : wrap64 ((i : Int) + 1) = (i : Int) + 1 := by have := HN.out.1; unfold wrap64; omega
      clear hd2 hf2 hp HX hci hx
      go_wp2_with fail
      rw [hw]
      exact ⟨⟨i + 1, int_of (by omega), by omega, HY⟩, by show xs.length - ((i : Int) + 1).toNat < xs.length - ((i : Int)).toNat; omega⟩
    · have hii : i = xs.length := by omega
      subst hii
      rw [List.take_length] at HX
      have hS := fun w' h hw => bld_String bt_quote b b (qputs xs) w' h hw
      have hQl := qputs_len xs HN.out.2
      have hQn := HN.out.1
      have hq1 : ¬ 9223372036854775807 < 1 + (qputs xs).length := by omega
      have hq2 : ¬ 9223372036854775807 < 1 + (qputs xs).length + 1 := by omega
      clear hQl hQn
      generalize hQ : qputs xs = Q at HX hS hq1 hq2 ⊢
      have HQ := Lib.hid hQ
      clear hQ
      subst hb
      go_wp2_with fail
      refine (hS _ HX.out.1 (by have := HX.out.2.2; omega)).mono ?_
      rintro e w2 ⟨rfl, hd2, hf2⟩
      go_wp2_with fail
      go_ret2
      have hcat : (⟨#[34]⟩ : ByteArray) ++ ⟨Q.toArray⟩ ++ ⟨#[34]⟩ = ⟨([34] ++ Q ++ [34] : Bs).toArray⟩ := by
        rw [show (⟨#[34]⟩ : ByteArray) = ⟨([34] : Bs).toArray⟩ from rfl, bs_append, bs_append]
      exact ⟨by rw [hcat, HQ.out]; simp, hb1.trans ((HX.out.2.1.mono (Nat.le_refl _) |>.trans (hf2.below.mono (by omega))).mono hb1.size)⟩
end Go.Proofs.YtbmonfcahhhdeaaGreatDoor
