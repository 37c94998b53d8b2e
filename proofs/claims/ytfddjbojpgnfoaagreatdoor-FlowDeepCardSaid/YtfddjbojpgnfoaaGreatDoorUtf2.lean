/- The walks of package utf: walk over Printable, fault, Check; walk over Decode's closure, Decode. -/
import Derived.Test.YtfddjbojpgnfoaaGreatDoorUtf1
set_option linter.unusedVariables false
set_option linter.unusedSimpArgs false
namespace Go.Proofs.YtfddjbojpgnfoaaGreatDoor
open Go.RowKit

/-- Where utf.walk ends that goes on as long as p holds: n bounds the rounds. -/
def uwalk (p : Int → Bool) : Nat → Bs → Nat
  | 0, _ => 0
  | n + 1, l => if l = [] then 0 else if p (utf1 l).1 then (utf1 l).2 + uwalk p n (l.drop (utf1 l).2) else 0
/-- The signs that it meets. -/
def usigns (p : Int → Bool) : Nat → Bs → List Int
  | 0, _ => []
  | n + 1, l => if l = [] then [] else if p (utf1 l).1 then (utf1 l).1 :: usigns p n (l.drop (utf1 l).2) else [(utf1 l).1]
theorem uwalk_fuel (p : Int → Bool) : ∀ (n m : Nat) (l : Bs), l.length ≤ n → n ≤ m → uwalk p m l = uwalk p n l
  | 0, 0, _, _, _ => rfl
  | 0, m + 1, l, h, _ => by have : l = [] := List.eq_nil_of_length_eq_zero (by omega); subst this; simp [uwalk]
  | n + 1, 0, _, _, h => by omega
  | n + 1, m + 1, l, h, hm => by
    unfold uwalk
    by_cases hl : l = []
    · simp [hl]
    · have := utf1_bounds l
      rw [uwalk_fuel p n m (l.drop (utf1 l).2) (by have := this.2.2.2 hl; rw [List.length_drop]; omega) (by omega)]
theorem usigns_fuel (p : Int → Bool) : ∀ (n m : Nat) (l : Bs), l.length ≤ n → n ≤ m → usigns p m l = usigns p n l
  | 0, 0, _, _, _ => rfl
  | 0, m + 1, l, h, _ => by have : l = [] := List.eq_nil_of_length_eq_zero (by omega); subst this; simp [usigns]
  | n + 1, 0, _, _, h => by omega
  | n + 1, m + 1, l, h, hm => by
    unfold usigns
    by_cases hl : l = []
    · simp [hl]
    · have := utf1_bounds l
      rw [usigns_fuel p n m (l.drop (utf1 l).2) (by have := this.2.2.2 hl; rw [List.length_drop]; omega) (by omega)]
def uw (p : Int → Bool) (l : Bs) : Nat := uwalk p l.length l
def us (p : Int → Bool) (l : Bs) : List Int := usigns p l.length l
theorem uw_nil (p : Int → Bool) : uw p [] = 0 := rfl
theorem us_nil (p : Int → Bool) : us p [] = [] := rfl
theorem uw_step (p : Int → Bool) {l : Bs} (hl : l ≠ []) : uw p l = if p (utf1 l).1 then (utf1 l).2 + uw p (l.drop (utf1 l).2) else 0 := by
  unfold uw
  obtain ⟨n, hn⟩ : ∃ n, l.length = n + 1 := ⟨l.length - 1, by have := List.length_pos_iff.2 hl; omega⟩
  have hb := (utf1_bounds l).2.2.2 hl
  rw [hn]
  conv => lhs; unfold uwalk
  rw [if_neg hl, uwalk_fuel p (l.drop (utf1 l).2).length n _ (Nat.le_refl _) (by rw [List.length_drop]; omega)]
theorem us_step (p : Int → Bool) {l : Bs} (hl : l ≠ []) : us p l = if p (utf1 l).1 then (utf1 l).1 :: us p (l.drop (utf1 l).2) else [(utf1 l).1] := by
  unfold us
  obtain ⟨n, hn⟩ : ∃ n, l.length = n + 1 := ⟨l.length - 1, by have := List.length_pos_iff.2 hl; omega⟩
  have hb := (utf1_bounds l).2.2.2 hl
  rw [hn]
  conv => lhs; unfold usigns
  rw [if_neg hl, usigns_fuel p (l.drop (utf1 l).2).length n _ (Nat.le_refl _) (by rw [List.length_drop]; omega)]
theorem uwalk_le (p : Int → Bool) : ∀ (n : Nat) (l : Bs), uwalk p n l ≤ l.length
  | 0, _ => by simp [uwalk]
  | n + 1, l => by
    unfold uwalk
    have := utf1_bounds l
    have h2 := uwalk_le p n (l.drop (utf1 l).2)
    rw [List.length_drop] at h2
    split
    · omega
    · split <;> omega
theorem uw_le (p : Int → Bool) (l : Bs) : uw p l ≤ l.length := uwalk_le p _ l

set_option maxHeartbeats 1000000 in
theorem utf_walk_print (l : Bs) (hl : l.length ≤ 140737488355328) (G : Nat) (w : World) (he : Env G w) :
    Calls Tryz.prog 76 #[St l, .func (.func 79) #[] #[]] w fun e w' => e = .returned (.int .i64 (uw printable l : Nat)) ∧ Below w.heap.size w w' := by
  go_enter Tryz.func76, Tryz.ntmps76
  go_wp2_with fail
  go_loopw [5] (fun v wr => ∃ k : Nat, v = .int .i64 k ∧ k ≤ l.length ∧ Hid (uw printable l = k + uw printable (l.drop k)) ∧ Below w.heap.size w wr ∧ Env G wr) (fun v _ => l.length - (intOf v).toNat)
  case atStart => exact ⟨0, rfl, Nat.zero_le _, by simp [Hid], Below.refl _ _, he⟩
  case round =>
    obtain ⟨k, rfl, hk, HU, hb, he1⟩ := hrel
    by_cases hlt : k < l.length
    · have hne : l.drop k ≠ [] := by intro h; have := congrArg List.length h; simp at this; omega
      have hst := uw_step printable hne
      have hbd := utf1_bounds (l.drop k)
      have hF := utf_First (l.drop k) G wr he1
      obtain ⟨R, hR⟩ : ∃ R, (utf1 (l.drop k)).1 = R := ⟨_, rfl⟩
      obtain ⟨N, hN⟩ : ∃ N, (utf1 (l.drop k)).2 = N := ⟨_, rfl⟩
      rw [hR, hN] at hst hbd hF
      have hN1 := hbd.2.2.2 hne
      have hN2 := hbd.2.2.1
      rw [List.length_drop] at hN2
      have HE : Hid (Env G wr) := he1
      clear hbd hR hN hne
      cases hp : printable R with
      | true =>
        have HU2 : Hid (uw printable l = (k + N) + uw printable (l.drop (k + N))) := by
          have := HU.out
          rw [hst, if_pos hp, List.drop_drop] at this
          show _ = _
          omega
        have hP := utf_Printable R
        rw [hp] at hP
        clear hst HU hp he he1
        go_wp2_with fail
        refine hF.mono ?_
        rintro e w1 ⟨rfl, hb1⟩
        go_wp2_with fail
        refine (hP _).mono ?_
        rintro e w2 ⟨rfl, rfl⟩
        go_wp2_with fail
        go_roundw
        case rel => exact ⟨k + N, by go_num, by omega, HU2, below_call hb hb1 hb.size, HE.out.own hb1⟩
        case measure => simp [intOf]; omega
      | false =>
        have HU2 : Hid (uw printable l = k) := by
          have := HU.out
          rw [hst, if_neg (by rw [hp]; decide)] at this
          exact this
        have hP := utf_Printable R
        rw [hp] at hP
        clear hst HU hp he he1
        go_wp2_with fail
        refine hF.mono ?_
        rintro e w1 ⟨rfl, hb1⟩
        go_wp2_with fail
        refine (hP _).mono ?_
        rintro e w2 ⟨rfl, rfl⟩
        go_wp2_with fail
        go_ret
        exact ⟨by rw [HU2.out]; rfl, below_call hb hb1 hb.size⟩
    · obtain rfl : k = l.length := by omega
      have HU2 : Hid (uw printable l = l.length) := by
        have := HU.out
        rw [List.drop_length, uw_nil] at this
        exact this
      clear HU he he1
      go_wp2_with fail
      go_ret
      exact ⟨by rw [HU2.out]; rfl, hb⟩

def ints (l : List Int) : List Value := l.map (Value.int .i64)
theorem ints_append (l m : List Int) : ints (l ++ m) = ints l ++ ints m := by simp [ints]
theorem ints_length (l : List Int) : (ints l).length = l.length := by simp [ints]
theorem ints_one (l : List Int) : ∀ u ∈ ints l, u.oneCell' = true := by
  intro u hu
  obtain ⟨x, _, rfl⟩ := List.mem_map.1 hu
  rfl
theorem info_int : (Tryz.prog.info? 3).map (fun i => (i.zero, i.size, i.bytes)) = some (some (.int .i64 0), 1, 8) := by kernel_rfl

set_option maxHeartbeats 1000000 in
theorem utf_Decode1 (b : Nat) (r : Int) (v : Value) (xs : List Int) (w : World) (hb : w.heap[b]? = some (.cells #[v] 97)) (ho : w.ownsRow (b + 1) 3 1 v xs.length (ints xs)) (hn : xs.length < 17592186044416) :
    Calls Tryz.prog 77 #[.int .i64 r, .pointer (some ⟨b, 0, none⟩)] w fun e w' => e = .returned (.bool (decide (0 ≤ r))) ∧
      (∃ v', w'.heap[b]? = some (.cells #[v'] 97) ∧ w'.ownsRow (b + 1) 3 1 v' (xs ++ [r]).length (ints (xs ++ [r]))) ∧ Below b w w' := by
  have c0 : w.cell? ⟨b, 0, none⟩ = some v := blk_cell hb 0
  have f0 := blk_free hb 0
  have hlt := blk_lt hb
  have Ho := Lib.hid ho
  have Hb := Lib.hid hb
  clear ho hb
  go_enter Tryz.func77, Tryz.ntmps77
  go_wp2_with (at_builtin; refine wp_app1 (b + 1) 97 3 (.int .i64 0) 1 8 rfl _ _ rfl Tryz.underlying97 info_int rfl (by decide) (by decide) v xs.length (ints xs) (ints [r]) rfl rfl rfl (ints_one _) Ho.out (by omega) (by omega) ?_)
  intro A c w1 hown hg
  have hb1 : w1.heap[b]? = some (.cells #[v] 97) := blk_grown Hb.out hg (own_ne Ho.out (by omega))
  have c1 : w1.cell? ⟨b, 0, none⟩ = some v := blk_cell hb1 0
  have f1 := blk_free hb1 0
  have bel : Below b w w1 := (Below.refl b w).grown hg (by omega) (fun k hk => by have := own_base Ho.out k hk; omega)
  have HH := Lib.hid (And.intro hb1 (And.intro hown bel))
  clear hb1 hown bel Ho Hb hg c0 f0
  go_wp2_with fail
  go_ret
  obtain ⟨hb1, hown, bel⟩ := HH.out
  refine ⟨rfl, ⟨_, blk_set hb1, ?_⟩, bel.setCell (Nat.le_refl _) _⟩
  rw [List.length_append, ints_append]
  exact ownsRow_setCell_below hown (by simp) _

/-- The list of the signs, as Decode's closure keeps it: its variable in block b. -/
def Keeps (b : Nat) (xs : List Int) (w : World) : Prop := ∃ v, w.heap[b]? = some (.cells #[v] 97) ∧ w.ownsRow (b + 1) 3 1 v xs.length (ints xs)
def nonneg (r : Int) : Bool := decide (0 ≤ r)
theorem utf_Decode1' (b : Nat) (r : Int) (xs : List Int) (w : World) (h : Keeps b xs w) (hn : xs.length < 17592186044416) :
    Calls Tryz.prog 77 #[.int .i64 r, .pointer (some ⟨b, 0, none⟩)] w fun e w' => e = .returned (.bool (nonneg r)) ∧ Keeps b (xs ++ [r]) w' ∧ Below b w w' ∧ w.heap.size ≤ w'.heap.size := by
  obtain ⟨v, h1, h2⟩ := h
  refine (utf_Decode1 b r v xs w h1 h2 hn).mono ?_
  rintro e w' ⟨rfl, h3, h4⟩
  exact ⟨rfl, h3, h4, h4.size⟩
theorem Keeps.below {b : Nat} {xs : List Int} {w w' : World} (h : Keeps b xs w) (hb : Below w.heap.size w w') : Keeps b xs w' := by
  obtain ⟨v, h1, h2⟩ := h
  exact ⟨v, blk_below h1 hb (blk_lt h1), own_below h2 hb⟩

set_option maxHeartbeats 1000000 in
theorem utf_walk_dec (l : Bs) (hl : l.length ≤ 4294967296) (b G : Nat) (w : World) (he : Env G w) (hG : G ≤ b) (hk : Keeps b [] w) :
    Calls Tryz.prog 76 #[St l, .func (.func 77) #[] #[.pointer (some ⟨b, 0, none⟩)]] w fun e w' => e = .returned (.int .i64 (uw nonneg l : Nat)) ∧ Keeps b (us nonneg l) w' ∧ Below b w w' := by
  have hbs : b < w.heap.size := by obtain ⟨v, h1, _⟩ := hk; exact blk_lt h1
  have HK := Lib.hid hk
  clear hk
  go_enter Tryz.func76, Tryz.ntmps76
  go_wp2_with fail
  go_loopw [5] (fun v wr => ∃ (k : Nat) (xs : List Int), v = .int .i64 k ∧ k ≤ l.length ∧ xs.length ≤ k ∧ Hid (uw nonneg l = k + uw nonneg (l.drop k)) ∧ Hid (us nonneg l = xs ++ us nonneg (l.drop k)) ∧ Hid (Keeps b xs wr) ∧ Below b w wr ∧ Env G wr) (fun v _ => l.length - (intOf v).toNat)
  case atStart => exact ⟨0, [], rfl, Nat.zero_le _, Nat.le_refl _, by simp [Hid], by simp [Hid], HK, Below.refl _ _, he⟩
  case round =>
    obtain ⟨k, xs, rfl, hk, hx, HU, HV, HK1, hb, he1⟩ := hrel
    have HE : Hid (Env G wr) := he1
    clear HK he
    by_cases hlt : k < l.length
    · have hne : l.drop k ≠ [] := by intro h; have := congrArg List.length h; simp at this; omega
      have hst := uw_step nonneg hne
      have hst2 := us_step nonneg hne
      have hbd := utf1_bounds (l.drop k)
      have hF := utf_First (l.drop k) G wr he1
      obtain ⟨R, hR⟩ : ∃ R, (utf1 (l.drop k)).1 = R := ⟨_, rfl⟩
      obtain ⟨N, hN⟩ : ∃ N, (utf1 (l.drop k)).2 = N := ⟨_, rfl⟩
      rw [hR, hN] at hst hst2 hbd hF
      have hN1 := hbd.2.2.2 hne
      have hN2 := hbd.2.2.1
      rw [List.length_drop] at hN2
      clear hbd hR hN hne he1
      cases hp : nonneg R with
      | true =>
        have HU2 : Hid (uw nonneg l = (k + N) + uw nonneg (l.drop (k + N)) ∧ us nonneg l = (xs ++ [R]) ++ us nonneg (l.drop (k + N))) := by
          have h1 := HU.out
          have h2 := HV.out
          rw [hst, if_pos hp, List.drop_drop] at h1
          rw [hst2, if_pos hp, List.drop_drop] at h2
          exact ⟨by omega, by rw [h2]; simp⟩
        have hP := utf_Decode1' b R xs
        rw [hp] at hP
        clear hst hst2 HU HV hp
        go_wp2_with fail
        refine hF.mono ?_
        rintro e w1 ⟨rfl, hb1⟩
        go_wp2_with fail
        refine (hP _ (HK1.out.below hb1) (by omega)).mono ?_
        rintro e w2 ⟨rfl, hk2, hb2, hs2⟩
        have HK2 := Lib.hid hk2
        clear hk2 hP HK1
        go_wp2_with fail
        go_roundw
        case rel => exact ⟨k + N, xs ++ [R], by go_num, by omega, by simp; omega, HU2.out.1, HU2.out.2, HK2, (hb.trans (hb1.mono (by have := hb.size; omega))).trans hb2, (HE.out.own hb1).below hb2 hG⟩
        case measure => simp [intOf]; omega
      | false =>
        have HU2 : Hid (uw nonneg l = k ∧ us nonneg l = xs ++ [R]) := by
          have h1 := HU.out
          have h2 := HV.out
          rw [hst, if_neg (by rw [hp]; decide)] at h1
          rw [hst2, if_neg (by rw [hp]; decide)] at h2
          exact ⟨h1, h2⟩
        have hP := utf_Decode1' b R xs
        rw [hp] at hP
        clear hst hst2 HU HV hp
        go_wp2_with fail
        refine hF.mono ?_
        rintro e w1 ⟨rfl, hb1⟩
        go_wp2_with fail
        refine (hP _ (HK1.out.below hb1) (by omega)).mono ?_
        rintro e w2 ⟨rfl, hk2, hb2, hs2⟩
        have HK2 := Lib.hid hk2
        clear hk2 hP HK1
        go_wp2_with fail
        go_ret
        exact ⟨by rw [HU2.out.1]; rfl, by rw [HU2.out.2]; exact HK2.out, (hb.trans (hb1.mono (by have := hb.size; omega))).trans hb2⟩
    · obtain rfl : k = l.length := by omega
      have HU2 : Hid (uw nonneg l = l.length ∧ us nonneg l = xs) := by
        have h1 := HU.out
        have h2 := HV.out
        rw [List.drop_length, uw_nil] at h1
        rw [List.drop_length, us_nil, List.append_nil] at h2
        exact ⟨h1, h2⟩
      clear HU HV he1
      go_wp2_with fail
      go_ret
      exact ⟨by rw [HU2.out.1]; rfl, by rw [HU2.out.2]; exact HK1.out, hb⟩
end Go.Proofs.YtfddjbojpgnfoaaGreatDoor
