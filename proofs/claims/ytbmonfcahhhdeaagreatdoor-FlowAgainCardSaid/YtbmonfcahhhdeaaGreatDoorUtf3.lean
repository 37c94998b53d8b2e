/- The walks of package utf: First, Printable, walk (over Printable and over Decode's closure), Decode, Check, fault. The walks of package utf: walk over Printable, fault, Check; walk over Decode's closure, Decode. The walks of package utf: fault, Check, Decode. -/
import Derived.Test.YtbmonfcahhhdeaaGreatDoorLib
import Derived.Test.YtbmonfcahhhdeaaGreatDoorProg
import Derived.LoopTactic
import Derived.RegionTactic
import Derived.BigRegion
set_option linter.unusedVariables false
set_option linter.unusedSimpArgs false
namespace Go.Proofs.YtbmonfcahhhdeaaGreatDoor
open Go.RowKit

/-- The decoder of Go's library at the begin of a text. -/
def dec (l : Bs) : Nat × Nat := Lib.decodeGo ⟨l.toArray⟩
/-- utf.First. -/
def utf1 (l : Bs) : Int × Nat := if (dec l).1 = 65533 ∧ (dec l).2 < 3 then (-1, (dec l).2) else (((dec l).1 : Int), (dec l).2)

theorem decodeN_bounds (n b0 b1 b2 b3 : Nat) (hn : 1 ≤ n) (h0 : b0 < 256) (h1 : b1 < 256) (h2 : b2 < 256) (h3 : b3 < 256) :
    1 ≤ (Lib.decodeN n b0 b1 b2 b3).2 ∧ (Lib.decodeN n b0 b1 b2 b3).2 ≤ n ∧ (Lib.decodeN n b0 b1 b2 b3).1 ≤ 1114111 := by
  unfold Lib.decodeN
  repeat' split
  all_goals (refine ⟨?_, ?_, ?_⟩ <;> simp only [] <;> omega)
theorem dec_cons (b : UInt8) (l : Bs) : dec (b :: l) = Lib.decodeN (l.length + 1) b.toNat ((⟨(b :: l).toArray⟩ : ByteArray).get! 1).toNat ((⟨(b :: l).toArray⟩ : ByteArray).get! 2).toNat ((⟨(b :: l).toArray⟩ : ByteArray).get! 3).toNat := by
  unfold dec Lib.decodeGo
  rw [if_neg (by simp [ByteArray.size]), Lib.decode_at]
  rfl
theorem dec_bounds (l : Bs) : (dec l).1 ≤ 1114111 ∧ (dec l).2 ≤ l.length ∧ (l ≠ [] → 1 ≤ (dec l).2) := by
  cases l with
  | nil => exact ⟨by decide, by decide, fun h => absurd rfl h⟩
  | cons b l =>
    rw [dec_cons]
    generalize (ByteArray.get! _ 1) = x1
    generalize (ByteArray.get! _ 2) = x2
    generalize (ByteArray.get! _ 3) = x3
    have := decodeN_bounds (l.length + 1) b.toNat x1.toNat x2.toNat x3.toNat (by omega) b.toNat_lt (UInt8.toNat_lt _) (UInt8.toNat_lt _) (UInt8.toNat_lt _)
    exact ⟨this.2.2, by simpa using this.2.1, fun _ => this.1⟩
theorem utf1_bounds (l : Bs) : -1 ≤ (utf1 l).1 ∧ (utf1 l).1 ≤ 1114111 ∧ (utf1 l).2 ≤ l.length ∧ (l ≠ [] → 1 ≤ (utf1 l).2) := by
  have h := dec_bounds l
  unfold utf1
  split
  · exact ⟨by simp, by simp, h.2.1, h.2.2⟩
  · exact ⟨by simp only []; omega, by simp only []; omega, h.2.1, h.2.2⟩

set_option maxHeartbeats 1000000 in
theorem utf_First' (l : Bs) (w : World) (R K X : Int) (h1 : 0 ≤ R) (h2 : R ≤ 1114111) (hX : X = if R = 65533 ∧ K < 3 then -1 else R)
    (hc : Calls Tryz.prog 96 #[St l] w fun e w' => e = .returned (.tuple #[.int .i32 R, .int .i64 K]) ∧ Below w.heap.size w w') :
    Calls Tryz.prog 139 #[St l] w fun e w' => e = .returned (.tuple #[.int .i64 X, .int .i64 K]) ∧ Below w.heap.size w w' := by
  by_cases a1 : R = 65533
  · subst a1
    by_cases a2 : K < 3
    · have HX : Hid (X = -1) := by rw [hX]; simp [a2, Hid]
      clear hX
      go_enter Tryz.func139, Tryz.ntmps139
      go_wp2_with fail
      refine hc.mono ?_
      rintro e w' ⟨rfl, hbl⟩
      go_wp2_with fail
      go_ret2
      exact ⟨by rw [HX.out]; rfl, hbl⟩
    · have HX : Hid (X = 65533) := by rw [hX]; simp [a2, Hid]
      clear hX
      go_enter Tryz.func139, Tryz.ntmps139
      go_wp2_with fail
      refine hc.mono ?_
      rintro e w' ⟨rfl, hbl⟩
      go_wp2_with fail
      go_ret2
      exact ⟨by rw [HX.out]; rfl, hbl⟩
  · have h1' : (R == 65533) = false := by simpa using a1
    have HX : Hid (X = R) := by rw [hX]; simp [a1, Hid]
    clear hX
    go_enter Tryz.func139, Tryz.ntmps139
    go_wp2_with fail
    refine hc.mono ?_
    rintro e w' ⟨rfl, hbl⟩
    go_wp2_with fail
    go_ret2
    exact ⟨by rw [HX.out]; rfl, hbl⟩
theorem utf_First (l : Bs) (G : Nat) (w : World) (he : Env G w) :
    Calls Tryz.prog 139 #[St l] w fun e w' => e = .returned (.tuple #[.int .i64 (utf1 l).1, .int .i64 ((utf1 l).2 : Int)]) ∧ Below w.heap.size w w' := by
  have hb := dec_bounds l
  have e2 : (utf1 l).2 = (dec l).2 := by unfold utf1; split <;> rfl
  rw [e2]
  refine utf_First' l w (dec l).1 (dec l).2 _ (by omega) (by omega) ?_ (Tryz.utf8_DecodeRuneInString ⟨l.toArray⟩ w he.facts.u8)
  unfold utf1
  by_cases h : (dec l).1 = 65533 ∧ (dec l).2 < 3
  · rw [if_pos h, if_pos (by omega)]
  · rw [if_neg h, if_neg (by omega)]

/-- utf.Printable. -/
def printable (r : Int) : Bool :=
  if r < 32 then decide (r = 9) || decide (r = 10) || decide (r = 13) else if r < 127 then true else if r < 160 then decide (r = 133) else if r < 55296 then true
  else if r < 65536 then decide (57344 ≤ r) && decide (r ≤ 65533) && !decide (r = 65279) else decide (r ≤ 1114111)

set_option maxHeartbeats 1000000 in
theorem utf_Printable (r : Int) (w : World) :
    Calls Tryz.prog 111 #[.int .i64 r] w fun e w' => e = .returned (.bool (printable r)) ∧ w' = w := by
  go_enter Tryz.func111, Tryz.ntmps111
  go_wp2_with fail
  all_goals go_ret
  all_goals refine ⟨?_, rfl⟩
  all_goals unfold printable
  all_goals (refine ret_of (bool_of ?_); rw [Bool.eq_iff_iff]; (repeat' split) <;> simp_all <;> omega)
end Go.Proofs.YtbmonfcahhhdeaaGreatDoor

namespace Go.Proofs.YtbmonfcahhhdeaaGreatDoor
open Go.RowKit

/-- Where utf.walk ends that goes on as long as p holds: n bounds the rounds. -/
def uwalk (p : Int → Bool) : Nat → Bs → Nat
  | 0, _ => 0
  | n + 1, l => if l = [] then 0 else if p (utf1 l).1 then (utf1 l).2 + uwalk p n (l.drop (utf1 l).2) else 0
/-- The signs that it meets. -/
def usigns (p : Int → Bool) : Nat → Bs → List Int
  | 0, _ => []
  | n + 1, l => if l = [] then [] else if p (utf1 l).1 then (utf1 l).1 :: usigns p n (l.drop (utf1 l).2) else [(utf1 l).1]
theorem uwalk_fuel (p : Int → Bool) : ∀ (n m : Nat) (l : Bs), l.length ≤ n → n ≤ m → uwalk p m l = uwalk p n l
  | 0, 0, _, _, _ => rfl
  | 0, m + 1, l, h, _ => by have : l = [] := List.eq_nil_of_length_eq_zero (by omega); subst this; simp [uwalk]
  | n + 1, 0, _, _, h => by omega
  | n + 1, m + 1, l, h, hm => by
    unfold uwalk
    by_cases hl : l = []
    · simp [hl]
    · have := utf1_bounds l
      rw [uwalk_fuel p n m (l.drop (utf1 l).2) (by have := this.2.2.2 hl; rw [List.length_drop]; omega) (by omega)]
theorem usigns_fuel (p : Int → Bool) : ∀ (n m : Nat) (l : Bs), l.length ≤ n → n ≤ m → usigns p m l = usigns p n l
  | 0, 0, _, _, _ => rfl
  | 0, m + 1, l, h, _ => by have : l = [] := List.eq_nil_of_length_eq_zero (by omega); subst this; simp [usigns]
  | n + 1, 0, _, _, h => by omega
  | n + 1, m + 1, l, h, hm => by
    unfold usigns
    by_cases hl : l = []
    · simp [hl]
    · have := utf1_bounds l
      rw [usigns_fuel p n m (l.drop (utf1 l).2) (by have := this.2.2.2 hl; rw [List.length_drop]; omega) (by omega)]
def uw (p : Int → Bool) (l : Bs) : Nat := uwalk p l.length l
def us (p : Int → Bool) (l : Bs) : List Int := usigns p l.length l
theorem uw_nil (p : Int → Bool) : uw p [] = 0 := rfl
theorem us_nil (p : Int → Bool) : us p [] = [] := rfl
theorem uw_step (p : Int → Bool) {l : Bs} (hl : l ≠ []) : uw p l = if p (utf1 l).1 then (utf1 l).2 + uw p (l.drop (utf1 l).2) else 0 := by
  unfold uw
  obtain ⟨n, hn⟩ : ∃ n, l.length = n + 1 := ⟨l.length - 1, by have := List.length_pos_iff.2 hl; omega⟩
  have hb := (utf1_bounds l).2.2.2 hl
  rw [hn]
  conv => lhs; unfold uwalk
  rw [if_neg hl, uwalk_fuel p (l.drop (utf1 l).2).length n _ (Nat.le_refl _) (by rw [List.length_drop]; omega)]
theorem us_step (p : Int → Bool) {l : Bs} (hl : l ≠ []) : us p l = if p (utf1 l).1 then (utf1 l).1 :: us p (l.drop (utf1 l).2) else [(utf1 l).1] := by
  unfold us
  obtain ⟨n, hn⟩ : ∃ n, l.length = n + 1 := ⟨l.length - 1, by have := List.length_pos_iff.2 hl; omega⟩
  have hb := (utf1_bounds l).2.2.2 hl
  rw [hn]
  conv => lhs; unfold usigns
  rw [if_neg hl, usigns_fuel p (l.drop (utf1 l).2).length n _ (Nat.le_refl _) (by rw [List.length_drop]; omega)]
theorem uwalk_le (p : Int → Bool) : ∀ (n : Nat) (l : Bs), uwalk p n l ≤ l.length
  | 0, _ => by simp [uwalk]
  | n + 1, l => by
    unfold uwalk
    have := utf1_bounds l
    have h2 := uwalk_le p n (l.drop (utf1 l).2)
    rw [List.length_drop] at h2
    split
    · omega
    · split <;> omega
theorem uw_le (p : Int → Bool) (l : Bs) : uw p l ≤ l.length := uwalk_le p _ l

set_option maxHeartbeats 1000000 in
theorem utf_walk_print (l : Bs) (hl : l.length ≤ 140737488355328) (G : Nat) (w : World) (he : Env G w) :
    Calls Tryz.prog 110 #[St l, .func (.func 111) #[] #[]] w fun e w' => e = .returned (.int .i64 (uw printable l : Nat)) ∧ Below w.heap.size w w' := by
  go_enter Tryz.func110, Tryz.ntmps110
  go_wp2_with fail
  go_loopw [5] (fun v wr => ∃ k : Nat, v = .int .i64 k ∧ k ≤ l.length ∧ Hid (uw printable l = k + uw printable (l.drop k)) ∧ Below w.heap.size w wr ∧ Env G wr) (fun v _ => l.length - (intOf v).toNat)
  case atStart => exact ⟨0, rfl, Nat.zero_le _, by simp [Hid], Below.refl _ _, he⟩
  case round =>
    obtain ⟨k, rfl, hk, HU, hb, he1⟩ := hrel
    by_cases hlt : k < l.length
    · have hne : l.drop k ≠ [] := by intro h; have := congrArg List.length h; simp at this; omega
      have hst := uw_step printable hne
      have hbd := utf1_bounds (l.drop k)
      have hF := utf_First (l.drop k) G wr he1
      obtain ⟨R, hR⟩ : ∃ R, (utf1 (l.drop k)).1 = R := ⟨_, rfl⟩
      obtain ⟨N, hN⟩ : ∃ N, (utf1 (l.drop k)).2 = N := ⟨_, rfl⟩
      rw [hR, hN] at hst hbd hF
      have hN1 := hbd.2.2.2 hne
      have hN2 := hbd.2.2.1
      rw [List.length_drop] at hN2
      have HE : Hid (Env G wr) := he1
      clear hbd hR hN hne
      cases hp : printable R with
      | true =>
        have HU2 : Hid (uw printable l = (k + N) + uw printable (l.drop (k + N))) := by
          have := HU.out
          rw [hst, if_pos hp, List.drop_drop] at this
          show _ = _
          omega
        have hP := utf_Printable R
        rw [hp] at hP
        clear hst HU hp he he1
        go_wp2_with fail
        refine hF.mono ?_
        rintro e w1 ⟨rfl, hb1⟩
        go_wp2_with fail
        refine (hP _).mono ?_
        rintro e w2 ⟨rfl, rfl⟩
        go_wp2_with fail
        go_roundw
        case rel => exact ⟨k + N, by go_num, by omega, HU2, below_call hb hb1 hb.size, HE.out.own hb1⟩
        case measure => simp [intOf]; omega
      | false =>
        have HU2 : Hid (uw printable l = k) := by
          have := HU.out
          rw [hst, if_neg (by rw [hp]; decide)] at this
          exact this
        have hP := utf_Printable R
        rw [hp] at hP
        clear hst HU hp he he1
        go_wp2_with fail
        refine hF.mono ?_
        rintro e w1 ⟨rfl, hb1⟩
        go_wp2_with fail
        refine (hP _).mono ?_
        rintro e w2 ⟨rfl, rfl⟩
        go_wp2_with fail
        go_ret
        exact ⟨by rw [HU2.out]; rfl, below_call hb hb1 hb.size⟩
    · obtain rfl : k = l.length := by omega
      have HU2 : Hid (uw printable l = l.length) := by
        have := HU.out
        rw [List.drop_length, uw_nil] at this
        exact this
      clear HU he he1
      go_wp2_with fail
      go_ret
      exact ⟨by rw [HU2.out]; rfl, hb⟩

def ints (l : List Int) : List Value := l.map (Value.int .i64)
theorem ints_append (l m : List Int) : ints (l ++ m) = ints l ++ ints m := by simp [ints]
theorem ints_length (l : List Int) : (ints l).length = l.length := by simp [ints]
theorem ints_one (l : List Int) : ∀ u ∈ ints l, u.oneCell' = true := by
  intro u hu
  obtain ⟨x, _, rfl⟩ := List.mem_map.1 hu
  rfl
theorem info_int : (Tryz.prog.info? 3).map (fun i => (i.zero, i.size, i.bytes)) = some (some (.int .i64 0), 1, 8) := by kernel_rfl

set_option maxHeartbeats 1000000 in
theorem utf_Decode1 (b : Nat) (r : Int) (v : Value) (xs : List Int) (w : World) (hb : w.heap[b]? = some (.cells #[v] 111)) (ho : w.ownsRow (b + 1) 3 1 v xs.length (ints xs)) (hn : xs.length < 17592186044416) :
    Calls Tryz.prog 117 #[.int .i64 r, .pointer (some ⟨b, 0, none⟩)] w fun e w' => e = .returned (.bool (decide (0 ≤ r))) ∧
      (∃ v', w'.heap[b]? = some (.cells #[v'] 111) ∧ w'.ownsRow (b + 1) 3 1 v' (xs ++ [r]).length (ints (xs ++ [r]))) ∧ Below b w w' := by
  have c0 : w.cell? ⟨b, 0, none⟩ = some v := blk_cell hb 0
  have f0 := blk_free hb 0
  have hlt := blk_lt hb
  have Ho := Lib.hid ho
  have Hb := Lib.hid hb
  clear ho hb
  go_enter Tryz.func117, Tryz.ntmps117
  go_wp2_with (at_builtin; refine wp_app1 (b + 1) 111 3 (.int .i64 0) 1 8 rfl _ _ rfl Tryz.underlying111 info_int rfl (by decide) (by decide) v xs.length (ints xs) (ints [r]) rfl rfl rfl (ints_one _) Ho.out (by omega) (by omega) ?_)
  intro A c w1 hown hg
  have hb1 : w1.heap[b]? = some (.cells #[v] 111) := blk_grown Hb.out hg (own_ne Ho.out (by omega))
  have c1 : w1.cell? ⟨b, 0, none⟩ = some v := blk_cell hb1 0
  have f1 := blk_free hb1 0
  have bel : Below b w w1 := (Below.refl b w).grown hg (by omega) (fun k hk => by have := own_base Ho.out k hk; omega)
  have HH := Lib.hid (And.intro hb1 (And.intro hown bel))
  clear hb1 hown bel Ho Hb hg c0 f0
  go_wp2_with fail
  go_ret
  obtain ⟨hb1, hown, bel⟩ := HH.out
  refine ⟨rfl, ⟨_, blk_set hb1, ?_⟩, bel.setCell (Nat.le_refl _) _⟩
  rw [List.length_append, ints_append]
  exact ownsRow_setCell_below hown (by simp) _

/-- The list of the signs, as Decode's closure keeps it: its variable in block b. -/
def Keeps (b : Nat) (xs : List Int) (w : World) : Prop := ∃ v, w.heap[b]? = some (.cells #[v] 111) ∧ w.ownsRow (b + 1) 3 1 v xs.length (ints xs)
def nonneg (r : Int) : Bool := decide (0 ≤ r)
theorem utf_Decode1' (b : Nat) (r : Int) (xs : List Int) (w : World) (h : Keeps b xs w) (hn : xs.length < 17592186044416) :
    Calls Tryz.prog 117 #[.int .i64 r, .pointer (some ⟨b, 0, none⟩)] w fun e w' => e = .returned (.bool (nonneg r)) ∧ Keeps b (xs ++ [r]) w' ∧ Below b w w' ∧ w.heap.size ≤ w'.heap.size := by
  obtain ⟨v, h1, h2⟩ := h
  refine (utf_Decode1 b r v xs w h1 h2 hn).mono ?_
  rintro e w' ⟨rfl, h3, h4⟩
  exact ⟨rfl, h3, h4, h4.size⟩
theorem Keeps.below {b : Nat} {xs : List Int} {w w' : World} (h : Keeps b xs w) (hb : Below w.heap.size w w') : Keeps b xs w' := by
  obtain ⟨v, h1, h2⟩ := h
  exact ⟨v, blk_below h1 hb (blk_lt h1), own_below h2 hb⟩

set_option maxHeartbeats 1000000 in
theorem utf_walk_dec (l : Bs) (hl : l.length ≤ 4294967296) (b G : Nat) (w : World) (he : Env G w) (hG : G ≤ b) (hk : Keeps b [] w) :
    Calls Tryz.prog 110 #[St l, .func (.func 117) #[] #[.pointer (some ⟨b, 0, none⟩)]] w fun e w' => e = .returned (.int .i64 (uw nonneg l : Nat)) ∧ Keeps b (us nonneg l) w' ∧ Below b w w' := by
  have hbs : b < w.heap.size := by obtain ⟨v, h1, _⟩ := hk; exact blk_lt h1
  have HK := Lib.hid hk
  clear hk
  go_enter Tryz.func110, Tryz.ntmps110
  go_wp2_with fail
  go_loopw [5] (fun v wr => ∃ (k : Nat) (xs : List Int), v = .int .i64 k ∧ k ≤ l.length ∧ xs.length ≤ k ∧ Hid (uw nonneg l = k + uw nonneg (l.drop k)) ∧ Hid (us nonneg l = xs ++ us nonneg (l.drop k)) ∧ Hid (Keeps b xs wr) ∧ Below b w wr ∧ Env G wr) (fun v _ => l.length - (intOf v).toNat)
  case atStart => exact ⟨0, [], rfl, Nat.zero_le _, Nat.le_refl _, by simp [Hid], by simp [Hid], HK, Below.refl _ _, he⟩
  case round =>
    obtain ⟨k, xs, rfl, hk, hx, HU, HV, HK1, hb, he1⟩ := hrel
    have HE : Hid (Env G wr) := he1
    clear HK he
    by_cases hlt : k < l.length
    · have hne : l.drop k ≠ [] := by intro h; have := congrArg List.length h; simp at this; omega
      have hst := uw_step nonneg hne
      have hst2 := us_step nonneg hne
      have hbd := utf1_bounds (l.drop k)
      have hF := utf_First (l.drop k) G wr he1
      obtain ⟨R, hR⟩ : ∃ R, (utf1 (l.drop k)).1 = R := ⟨_, rfl⟩
      obtain ⟨N, hN⟩ : ∃ N, (utf1 (l.drop k)).2 = N := ⟨_, rfl⟩
      rw [hR, hN] at hst hst2 hbd hF
      have hN1 := hbd.2.2.2 hne
      have hN2 := hbd.2.2.1
      rw [List.length_drop] at hN2
      clear hbd hR hN hne he1
      cases hp : nonneg R with
      | true =>
        have HU2 : Hid (uw nonneg l = (k + N) + uw nonneg (l.drop (k + N)) ∧ us nonneg l = (xs ++ [R]) ++ us nonneg (l.drop (k + N))) := by
          have h1 := HU.out
          have h2 := HV.out
          rw [hst, if_pos hp, List.drop_drop] at h1
          rw [hst2, if_pos hp, List.drop_drop] at h2
          exact ⟨by omega, by rw [h2]; simp⟩
        have hP := utf_Decode1' b R xs
        rw [hp] at hP
        clear hst hst2 HU HV hp
        go_wp2_with fail
        refine hF.mono ?_
        rintro e w1 ⟨rfl, hb1⟩
        go_wp2_with fail
        refine (hP _ (HK1.out.below hb1) (by omega)).mono ?_
        rintro e w2 ⟨rfl, hk2, hb2, hs2⟩
        have HK2 := Lib.hid hk2
        clear hk2 hP HK1
        go_wp2_with fail
        go_roundw
        case rel => exact ⟨k + N, xs ++ [R], by go_num, by omega, by simp; omega, HU2.out.1, HU2.out.2, HK2, (hb.trans (hb1.mono (by have := hb.size; omega))).trans hb2, (HE.out.own hb1).below hb2 hG⟩
        case measure => simp [intOf]; omega
      | false =>
        have HU2 : Hid (uw nonneg l = k ∧ us nonneg l = xs ++ [R]) := by
          have h1 := HU.out
          have h2 := HV.out
          rw [hst, if_neg (by rw [hp]; decide)] at h1
          rw [hst2, if_neg (by rw [hp]; decide)] at h2
          exact ⟨h1, h2⟩
        have hP := utf_Decode1' b R xs
        rw [hp] at hP
        clear hst hst2 HU HV hp
        go_wp2_with fail
        refine hF.mono ?_
        rintro e w1 ⟨rfl, hb1⟩
        go_wp2_with fail
        refine (hP _ (HK1.out.below hb1) (by omega)).mono ?_
        rintro e w2 ⟨rfl, hk2, hb2, hs2⟩
        have HK2 := Lib.hid hk2
        clear hk2 hP HK1
        go_wp2_with fail
        go_ret
        exact ⟨by rw [HU2.out.1]; rfl, by rw [HU2.out.2]; exact HK2.out, (hb.trans (hb1.mono (by have := hb.size; omega))).trans hb2⟩
    · obtain rfl : k = l.length := by omega
      have HU2 : Hid (uw nonneg l = l.length ∧ us nonneg l = xs) := by
        have h1 := HU.out
        have h2 := HV.out
        rw [List.drop_length, uw_nil] at h1
        rw [List.drop_length, us_nil, List.append_nil] at h2
        exact ⟨h1, h2⟩
      clear HU HV he1
      go_wp2_with fail
      go_ret
      exact ⟨by rw [HU2.out.1]; rfl, by rw [HU2.out.2]; exact HK1.out, hb⟩
end Go.Proofs.YtbmonfcahhhdeaaGreatDoor

namespace Go.Proofs.YtbmonfcahhhdeaaGreatDoor
open Go.RowKit

abbrev Ft (why at_ : Int) : Value := .agg #[.int .i64 why, .int .i64 at_]
set_option maxHeartbeats 1000000 in
theorem utf_fault (l : Bs) (k : Nat) (w : World) (hl : l.length ≤ 140737488355328) (hk : k ≤ l.length) :
    Calls Tryz.prog 109 #[St l, .int .i64 k] w fun e w' => e = .returned (if k < l.length then Ft 8 k else Ft 0 0) ∧ Below w.heap.size w w' := by
  by_cases h : k < l.length
  · rw [if_pos h]
    go_enter Tryz.func109, Tryz.ntmps109
    go_wp2_with fail
    exact bodyPost_ret (v := Ft 8 k) (by simp [results, Tryz.results109, go_sem]) rfl ⟨rfl, (Below.refl _ _).alloc (Nat.le_refl _) _⟩
  · rw [if_neg h]
    go_enter Tryz.func109, Tryz.ntmps109
    go_wp2_with fail
    exact bodyPost_ret (v := Ft 0 0) (by simp [results, Tryz.results109, go_sem]) rfl ⟨rfl, (Below.refl _ _).alloc (Nat.le_refl _) _⟩

/-- The fault of a text that ends at place k. -/
def uflt (k n : Nat) : Int × Int := if k < n then (8, k) else (0, 0)
theorem utf_fault' (l : Bs) (k : Nat) (w : World) (hl : l.length ≤ 140737488355328) (hk : k ≤ l.length) :
    Calls Tryz.prog 109 #[St l, .int .i64 k] w fun e w' => e = .returned (Ft (uflt k l.length).1 (uflt k l.length).2) ∧ Below w.heap.size w w' := by
  refine (utf_fault l k w hl hk).mono ?_
  rintro e w' ⟨rfl, hb⟩
  refine ⟨?_, hb⟩
  unfold uflt
  split <;> rfl

/-- utf.Check. -/
def ucheck (l : Bs) : Int × Int := uflt (uw printable l) l.length
set_option maxHeartbeats 1000000 in
theorem utf_Check (l : Bs) (G : Nat) (w : World) (hl : l.length ≤ 140737488355328) (he : Env G w) :
    Calls Tryz.prog 81 #[St l] w fun e w' => e = .returned (Ft (ucheck l).1 (ucheck l).2) ∧ Below w.heap.size w w' := by
  unfold ucheck
  have hle := uw_le printable l
  have hW := fun w' (h : Env G w') => utf_walk_print l hl G w' h
  have hF := fun w' => utf_fault' l (uw printable l) w' hl hle
  obtain ⟨K, hK⟩ : ∃ K, uw printable l = K := ⟨_, rfl⟩
  rw [hK] at hW hF hle ⊢
  obtain ⟨X, hX⟩ : ∃ X, uflt K l.length = X := ⟨_, rfl⟩
  rw [hX] at hF ⊢
  obtain ⟨X1, X2⟩ := X
  simp only [] at hF ⊢
  clear hK hX
  have HE := Lib.hid he
  clear he
  go_enter Tryz.func81, Tryz.ntmps81
  go_wp2_with fail
  refine (hW _ (HE.out.alloc _)).mono ?_
  rintro e w1 ⟨rfl, hb1⟩
  go_wp2_with fail
  refine (hF _).mono ?_
  rintro e w2 ⟨rfl, hb2⟩
  have hb3 := below_call hb1 hb2 hb1.size
  have hc := blk_below (blk_new w (.cells #[.int .i64 0, .int .i64 0] 31)) hb3 (by simp)
  obtain ⟨c0, c1, f0, f1⟩ := cells2 hc
  have HC := Lib.hid (And.intro hb3 hc)
  clear hb1 hb2 hb3 hc hW hF
  go_wp2_with fail
  obtain ⟨hb3, hc⟩ := HC.out
  have hd := blk_set (i := 1) (v := .int .i64 X2) (blk_set (i := 0) (v := .int .i64 X1) hc)
  have d0 := blk_cell hd 0
  have d1 := blk_cell hd 1
  exact bodyPost_ret (v := Ft X1 X2) (by simp [results, Tryz.results81, go_sem, d0, d1]) rfl ⟨rfl, (((Below.refl _ _).alloc (Nat.le_refl _) _).trans (hb3.mono (by simp))).setCell (by simp) _ |>.setCell (by simp) _⟩

set_option maxHeartbeats 1000000 in
theorem utf_Decode_bad (l : Bs) (G : Nat) (w : World) (hl : l.length ≤ 4294967296) (he : Env G w) (hlt : uw nonneg l < l.length) :
    Calls Tryz.prog 86 #[St l] w fun e w' => e = .returned (.tuple #[.slice none 0 0, Ft 8 (uw nonneg l : Nat)]) ∧ Below w.heap.size w w' := by
  have hW := fun b w' (h : Env G w') (hG : G ≤ b) (hk : Keeps b [] w') => utf_walk_dec l hl b G w' h hG hk
  have hF := fun w' => utf_fault' l (uw nonneg l) w' (by omega) (by omega)
  simp only [uflt, if_pos hlt] at hF
  obtain ⟨K, hK⟩ : ∃ K, uw nonneg l = K := ⟨_, rfl⟩
  rw [hK] at hW hF hlt ⊢
  obtain ⟨X, hX⟩ : ∃ X, us nonneg l = X := ⟨_, rfl⟩
  rw [hX] at hW
  clear hK hX
  have HE := Lib.hid he
  clear he
  go_enter Tryz.func86, Tryz.ntmps86
  go_wp2_with fail
  refine (hW (w.heap.size + 1) _ (by exact (HE.out.alloc _).alloc _) (by have := HE.out.le; omega) ⟨.slice none 0 0, by simpa using blk_new (w.alloc _) _, ⟨rfl, .inl ⟨rfl, rfl⟩⟩⟩).mono ?_
  rintro e w1 ⟨rfl, hk1, hb1⟩
  go_wp2_with fail
  refine (hF _).mono ?_
  rintro e w2 ⟨rfl, hb2⟩
  have hz : w.heap.size + 2 ≤ w2.heap.size := by
    have a1 := hb1.size
    have a2 := hb2.size
    simp at a1
    omega
  have hb3 := hb1.trans (hb2.mono (by have := hb1.size; simp at this; omega))
  have hc := blk_below (blk_alloc (x := .cells #[.slice none 0 0] 111) (blk_new w (.cells #[.int .i64 0, .int .i64 0] 31))) hb3 (by omega)
  obtain ⟨c0, c1, f0, f1⟩ := cells2 hc
  have HC := Lib.hid (And.intro hb3 hc)
  have hz0 : w.heap.size < w2.heap.size := by omega
  have hz1 : w.heap.size + 1 < w2.heap.size := by omega
  clear hb1 hb2 hb3 hc hW hF hk1
  go_wp2_with fail
  go_region
  go_wp2_with fail
  obtain ⟨hb3, hc⟩ := HC.out
  have hd := blk_alloc (x := .cells #[.int .i64 8, .int .i64 K] 31) (blk_set (i := 1) (v := .int .i64 K) (blk_set (i := 0) (v := .int .i64 8) hc))
  have d0 := blk_cell hd 0
  have d1 := blk_cell hd 1
  exact bodyPost_ret (v := .tuple #[.slice none 0 0, Ft 8 K]) (by simp [results, Tryz.results86, go_sem, d0, d1]) rfl
    ⟨rfl, ((((((((Below.refl _ _).alloc (Nat.le_refl _) _).alloc (by simp) _).trans (hb3.mono (by simp))).setCell (by simp) _).setCell (by simp) _).alloc (by simp; omega) _)).drew⟩

set_option maxHeartbeats 1000000 in
theorem utf_Decode_ok (l : Bs) (G : Nat) (w : World) (hl : l.length ≤ 4294967296) (he : Env G w) (hlt : uw nonneg l = l.length) :
    Calls Tryz.prog 86 #[St l] w fun e w' => (∃ A c, e = .returned (.tuple #[.slice A (us nonneg l).length c, Ft 0 0]) ∧ w'.ownsRow w.heap.size 3 1 (.slice A (us nonneg l).length c) (us nonneg l).length (ints (us nonneg l))) ∧ Below w.heap.size w w' := by
  have hW := fun b w' (h : Env G w') (hG : G ≤ b) (hk : Keeps b [] w') => utf_walk_dec l hl b G w' h hG hk
  have hF := fun w' => utf_fault' l (uw nonneg l) w' (by omega) (by omega)
  have hno : ¬ (l.length < l.length) := by omega
  rw [hlt] at hW
  simp only [uflt, hlt, if_neg hno] at hF
  obtain ⟨X, hX⟩ : ∃ X, us nonneg l = X := ⟨_, rfl⟩
  rw [hX] at hW ⊢
  clear hX hlt hno
  have HE := Lib.hid he
  clear he
  go_enter Tryz.func86, Tryz.ntmps86
  go_wp2_with fail
  refine (hW (w.heap.size + 1) _ (by exact (HE.out.alloc _).alloc _) (by have := HE.out.le; omega) ⟨.slice none 0 0, by simpa using blk_new (w.alloc _) _, ⟨rfl, .inl ⟨rfl, rfl⟩⟩⟩).mono ?_
  rintro e w1 ⟨rfl, hk1, hb1⟩
  go_wp2_with fail
  refine (hF _).mono ?_
  rintro e w2 ⟨rfl, hb2⟩
  have hz : w.heap.size + 2 ≤ w2.heap.size := by
    have a1 := hb1.size
    have a2 := hb2.size
    simp at a1
    omega
  have hb3 := hb1.trans (hb2.mono (by have := hb1.size; simp at this; omega))
  have hc := blk_below (blk_alloc (x := .cells #[.slice none 0 0] 111) (blk_new w (.cells #[.int .i64 0, .int .i64 0] 31))) hb3 (by omega)
  obtain ⟨c0, c1, f0, f1⟩ := cells2 hc
  obtain ⟨v, hv1, hv2⟩ := hk1.below hb2
  obtain ⟨A, c, rfl⟩ := own_slice hv2
  have e0 : w2.cell? ⟨w.heap.size + 1, 0, none⟩ = some (.slice A X.length c) := blk_cell hv1 0
  have HC := Lib.hid (And.intro hb3 (And.intro hc hv2))
  have hz0 : w.heap.size < w2.heap.size := by omega
  have hz1 : w.heap.size + 1 < w2.heap.size := by omega
  clear hb1 hb2 hb3 hc hW hF hk1 hv1 hv2
  go_wp2_with fail
  obtain ⟨hb3, hc, hv2⟩ := HC.out
  have hd := blk_alloc (x := .cells #[.int .i64 0, .int .i64 0] 31) (blk_set (i := 1) (v := .int .i64 0) (blk_set (i := 0) (v := .int .i64 0) hc))
  have d0 := blk_cell hd 0
  have d1 := blk_cell hd 1
  exact bodyPost_ret (v := .tuple #[.slice A X.length c, Ft 0 0]) (by simp [results, Tryz.results86, go_sem, d0, d1]) rfl
    ⟨⟨A, c, rfl, own_weaken ((ownsRow_setCell_below (ownsRow_setCell_below hv2 (by simp; omega) _) (by simp; omega) _).alloc _) (by omega)⟩,
      ((((((Below.refl _ _).alloc (Nat.le_refl _) _).alloc (by simp) _).trans (hb3.mono (by simp))).setCell (by simp) _).setCell (by simp) _).alloc (by simp; omega) _⟩
end Go.Proofs.YtbmonfcahhhdeaaGreatDoor
