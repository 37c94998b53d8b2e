/- The walk of counter.right: its loop. -/
import Derived.Test.YtbmonfcahhhdeaaGreatDoorFW4
set_option linter.unusedVariables false
set_option linter.unusedSimpArgs false
namespace Go.Proofs.YtbmonfcahhhdeaaGreatDoor
open Go.RowKit

theorem round_less {i n : Nat} (h : i < n) : n - (intOf (Value.int .i64 ((i : Int) + 1))).toNat < n - (intOf (Value.int .i64 (i : Int))).toNat := by
  show n - ((i : Int) + 1).toNat < n - (i : Int).toNat
  omega
theorem even_B {i : Nat} (h : i % 2 = 0) : ((i : Int) % 2 == 0) = true := by simp; omega
theorem odd_B {i : Nat} (h : ¬ i % 2 = 0) : ((i : Int) % 2 == 0) = false := by simp; omega
theorem wrapK_le {x : Int} (h0 : 0 ≤ x) (h1 : x ≤ 4294967296) : IntKind.i64.wrap x = x := by rw [IntKind.wrap_i64]; omega
theorem wrap6_le {x : Int} (h0 : 0 ≤ x) (h1 : x ≤ 4294967296) : wrap64 x = x := by unfold wrap64; omega
theorem Rep.elem {w : World} {K : Nat → Prop} {k : Int} {t a : Bs} {kids : List T} {A : Option Addr} {n cp : Nat} (h : Rep w K [.mk k t a kids] [.int .i64 k, St t, St a, .slice A n cp]) (i : Nat) {k' : Int} {t' a' : Bs} {kids' rest : List T} (hdr : kids.drop i = .mk k' t' a' kids' :: rest) :
    ∃ b A' n' cp', A = some ⟨b, 0, none⟩ ∧ (∀ j, j < 4 → w.cell? ⟨b, i * 4 + j, none⟩ = [Value.int .i64 k', St t', St a', .slice A' n' cp'][j]?) ∧ Rep w K [.mk k' t' a' kids'] [.int .i64 k', St t', St a', .slice A' n' cp'] := by
  cases h with
  | cons _ _ _ _ v xs ts ys base ho hv hk hr =>
    have hd := hk.drop i
    rw [hdr] at hd
    generalize hxd : xs.drop (i * 4) = xd at hd
    cases hd with
    | cons _ _ _ _ v' xs' ts' ys' base' ho' hv' hk' hr' =>
      obtain ⟨A', c', rfl⟩ := own_slice ho'
      have hn : n = kids.length := by
        rcases ho.2 with ⟨h, h'⟩ | ⟨gg, cap, cur, h, _⟩
        · simp only [Value.slice.injEq] at h; omega
        · simp only [Value.slice.injEq] at h; exact h.2.1
      subst hn
      have hlen := congrArg List.length hxd
      rw [List.length_drop] at hlen
      simp only [List.length_cons] at hlen
      obtain ⟨b, hb, hc⟩ := own_cell ho (by omega)
      refine ⟨b, A', _, c', hb, fun j hj => ?_, .cons _ _ _ _ _ xs' [] [] base' ho' hv' hk' .nil⟩
      rw [hc _ (by omega), ← List.getElem?_drop, hxd]
      match j, hj with
      | 0, _ => rfl
      | 1, _ => rfl
      | 2, _ => rfl
      | 3, _ => rfl
theorem Fit.elem {kids : List T} (h : Fit kids) (i : Nat) {k' : Int} {t' a' : Bs} {kids' rest : List T} (hdr : kids.drop i = .mk k' t' a' kids' :: rest) : Fit [.mk k' t' a' kids'] := by
  have hd := h.drop i
  rw [hdr] at hd
  cases hd with
  | cons _ _ _ _ _ h1 h2 h3 h4 h5 => exact .cons _ _ _ _ _ h1 h2 h3 h4 .nil

/-- What stands when the loop comes to kid i. -/
def RightR (c : Nat) (kids : List T) (K : Nat → Prop) (k : Int) (t a : Bs) (A : Option Addr) (n cp : Nat) (deep : Int) (R : Bool × Int) (G F : Nat) (w : World) (i : Nat) (wr : World) : Prop :=
  ∃ left, rightL (decide (k = 6)) (kids.drop i) i left (deep + 1) = R ∧ 0 ≤ left ∧ left ≤ 4096 ∧ wr.heap[c]? = some (.cells #[.int .i64 left] 55) ∧ wr.heap[F]? = some (.cells #[.int .i64 k, St t, St a, .slice A n cp] 24) ∧
    See wr K [.mk k t a kids] [.int .i64 k, St t, St a, .slice A n cp] ∧ Env G wr ∧ Fr (· = c) F w wr

set_option maxHeartbeats 8000000 in
set_option maxRecDepth 100000 in
theorem right_loop (m : Nat) (ih : RightSpec m) : RightLoop m := by
  intro k t a kids A n cp hm hfit c left deep G K w hl0 hl1 hd0 hd1 he hGc hKc hc hrep hk56 htx hl2 hd hodd hnm
  obtain ⟨F, hF⟩ : ∃ F, w.heap.size = F := ⟨_, rfl⟩
  have hlt := blk_lt hc
  rw [hF] at hlt
  have hc0 : (w.alloc (.cells #[.int .i64 k, St t, St a, .slice A n cp] 24)).heap[c]? = some (.cells #[.int .i64 left] 55) := blk_alloc hc
  have c0 : (w.alloc (.cells #[.int .i64 k, St t, St a, .slice A n cp] 24)).cell? ⟨c, 0, none⟩ = some (.int .i64 left) := blk_cell hc0 0
  have f0 := blk_free hc0 0
  have hc1 : ((w.setCell ⟨c, 0, none⟩ (.int .i64 (left - 1))).alloc (.cells #[.int .i64 k, St t, St a, .slice A n cp] 24)).heap[c]? = some (.cells #[.int .i64 (left - 1)] 55) := blk_alloc (blk_set hc)
  have hz : (w.setCell ⟨c, 0, none⟩ (.int .i64 (left - 1))).heap.size = F := by rw [← hF]; simp [World.setCell]
  have hk1 : ((w.setCell ⟨c, 0, none⟩ (.int .i64 (left - 1))).alloc (.cells #[.int .i64 k, St t, St a, .slice A n cp] 24)).heap[F]? = some (.cells #[.int .i64 k, St t, St a, .slice A n cp] 24) := by
    have := blk_new (w.setCell ⟨c, 0, none⟩ (.int .i64 (left - 1))) (.cells #[.int .i64 k, St t, St a, .slice A n cp] 24)
    rwa [hz] at this
  have hfr1 : Fr (· = c) F w ((w.setCell ⟨c, 0, none⟩ (.int .i64 (left - 1))).alloc (.cells #[.int .i64 k, St t, St a, .slice A n cp] 24)) := by rw [← hF]; exact ((Fr.refl _ _ _).own _ _).alloc (by rw [hz, hF]; exact Nat.le_refl _) _
  have d0 : ((w.setCell ⟨c, 0, none⟩ (.int .i64 (left - 1))).alloc (.cells #[.int .i64 k, St t, St a, .slice A n cp] 24)).cell? ⟨c, 0, none⟩ = some (.int .i64 (left - 1)) := blk_cell hc1 0
  obtain ⟨p0, p1, p2, p3, q0, q1, q2, q3⟩ := cells4 hk1
  have hwl : wrap64 (left - 1) = left - 1 := by unfold wrap64; omega
  have h4096 : left - 1 ≤ 4096 := by omega
  have hrep1 : See ((w.setCell ⟨c, 0, none⟩ (.int .i64 (left - 1))).alloc (.cells #[.int .i64 k, St t, St a, .slice A n cp] 24)) K [.mk k t a kids] [.int .i64 k, St t, St a, .slice A n cp] := by
    refine hrep.keep (fun b hb hK => ?_) fun _ _ h => h
    have hbc : b ≠ c := fun e => hKc (e ▸ hK)
    rw [Below.heap_alloc _ _ _ (by rw [hz]; omega), Below.heap_setCell _ _ _ _ (by simpa using hbc)]
  have he1 : Env G ((w.setCell ⟨c, 0, none⟩ (.int .i64 (left - 1))).alloc (.cells #[.int .i64 k, St t, St a, .slice A n cp] 24)) := (he.setCell (by simpa using hGc) _).alloc _
  have hlens : t.length ≤ 4294967296 ∧ a.length ≤ 4294967296 ∧ kids.length ≤ 4294967296 ∧ Fit kids := by
    cases hfit with | cons _ _ _ _ _ h1 h2 h3 h4 h5 => exact ⟨h1, h2, h3, h4⟩
  have HC := Lib.hid (And.intro hc1 (And.intro hk1 (And.intro hfr1 (And.intro hrep1 (And.intro he1 hlens)))))
  have hTx := flow_isText k t hlens.1 G _ he1
  have hnk : n = kids.length := hrep.count
  have hcF : c ≠ F := by omega
  have HNK := Lib.hid hnk
  clear hrep he hc1 hk1 hfr1 hrep1 he1 hlens hfit hnk
  have hNm := fun w' => flow_Name a (by have := HC.out.2.2.2.2.2.2.1; omega) w'
  have hdB : (deep == 64) = false := by simpa using hd
  have hm2 : kids.length % 2 = 1 → k = 5 := fun h => by rcases hk56 with rfl | rfl; rfl; have := hodd rfl; omega
  rw [htx] at hTx
  obtain ⟨R, hRR⟩ : ∃ R, R = rightL (decide (k = 6)) kids 0 (left - 1) (deep + 1) := ⟨_, rfl⟩
  rw [← hRR]
  have HRR := Lib.hid hRR.symm
  have hd64 : deep + 1 ≤ 64 := by omega
  clear hRR htx hd
  have hacase : ((∃ x y, a = x :: y) ∧ isName a = true) ∨ a = [] := by
    rcases a with _ | ⟨x, y⟩
    · exact .inr rfl
    · exact .inl ⟨⟨x, y, rfl⟩, hnm (by simp)⟩
  clear hnm
  have HM := Lib.hid hm
  clear hm
  have hE : k = 6 → ((n : Int) % 2 != 0) = false := fun h => by have := hodd h; have := HNK.out; simp; omega
  clear hodd
  rcases hk56 with rfl | rfl
  · rcases hacase with ⟨⟨x, y, rfl⟩, hn⟩ | rfl
    · clear hE hm2
      rw [hn] at hNm
      go_enter Tryz.func28, Tryz.ntmps28
      go_wp2_with fail
      refine hTx.mono ?_
      rintro e w2 ⟨rfl, hb2⟩
      have hc2 := blk_below HC.out.1 hb2 (blk_lt HC.out.1)
      have hk2 := blk_below HC.out.2.1 hb2 (blk_lt HC.out.2.1)
      have f2 : Fr (· = c) F w w2 := HC.out.2.2.1.below hb2 (by have := blk_lt HC.out.2.1; omega)
      have hr2 := HC.out.2.2.2.1.under hb2
      have he2 := HC.out.2.2.2.2.1.own hb2
      clear d0 p0 p1 p2 p3 q0 q1 q2 q3 c0 f0
      obtain ⟨p0, p1, p2, p3, q0, q1, q2, q3⟩ := cells4 hk2
      have H2 := Lib.hid (And.intro hc2 (And.intro hk2 (And.intro f2 (And.intro hr2 he2))))
      clear hc2 hk2 f2 hr2 he2 hb2
      go_wp2_with fail
      refine (hNm _).mono ?_
      rintro e w3 ⟨rfl, hb3⟩
      have hc3 := blk_below H2.out.1 hb3 (blk_lt H2.out.1)
      have hk3 := blk_below H2.out.2.1 hb3 (blk_lt H2.out.2.1)
      have f3 : Fr (· = c) F w w3 := H2.out.2.2.1.below hb3 (by have := blk_lt H2.out.2.1; omega)
      have hr3 := H2.out.2.2.2.1.under hb3
      have he3 := H2.out.2.2.2.2.own hb3
      clear H2 p0 p1 p2 p3 q0 q1 q2 q3
      obtain ⟨p0, p1, p2, p3, q0, q1, q2, q3⟩ := cells4 hk3
      have H2 := Lib.hid (And.intro hc3 (And.intro hk3 (And.intro f3 (And.intro hr3 he3))))
      clear hc3 hk3 f3 hr3 he3 hb3
      go_wp2_with fail
      go_loopw [83] (fun v wr => ∃ i : Nat, v = .int .i64 i ∧ i ≤ n ∧ RightR c kids K 5 t (x :: y) A n cp deep R G F w i wr) (fun v _ => n - (intOf v).toNat)
      case atStart => exact ⟨0, rfl, by omega, left - 1, HRR.out, hl2, h4096, H2.out.1, H2.out.2.1, H2.out.2.2.2.1, H2.out.2.2.2.2, H2.out.2.2.1⟩
      case round =>
        obtain ⟨i, rfl, hin, lf, hRl, hlf0, hlf1, hcR, hkR, hrR, heR, hfR⟩ := hrel
        by_cases hi : i < n
        · have hi' : (i : Int) < (n : Int) := by omega
          have hnk := HNK.out
          rcases hdr : kids.drop i with _ | ⟨⟨k', t', a', kids'⟩, rest⟩
          · have := congrArg List.length hdr
            rw [List.length_drop] at this
            simp at this
            omega
          have hmem : T.mk k' t' a' kids' ∈ kids := List.mem_of_mem_drop (by rw [hdr]; exact List.mem_cons_self)
          have hsz := List.sizeOf_lt_of_mem hmem
          have hsz2 : SizeOf.sizeOf kids' < SizeOf.sizeOf (T.mk k' t' a' kids') := by simp; omega
          obtain ⟨b, o, A', n', cp', rfl, hcells, hrE⟩ := hrR.elem i hdr
          have q0' : wr.cell? ⟨b, o + i * 4, none⟩ = some (.int .i64 k') := hcells 0 (by decide)
          have q1' : wr.cell? ⟨b, o + i * 4 + 1, none⟩ = some (St t') := hcells 1 (by decide)
          have q2' : wr.cell? ⟨b, o + i * 4 + 2, none⟩ = some (St a') := hcells 2 (by decide)
          have q3' : wr.cell? ⟨b, o + i * 4 + 3, none⟩ = some (.slice A' n' cp') := hcells 3 (by decide)
          have hfitE := HC.out.2.2.2.2.2.2.2.2.elem i hdr
          obtain ⟨J, hJ⟩ : ∃ J, wr.heap.size = J := ⟨_, rfl⟩
          have hkA : (wr.alloc (.cells #[.int .i64 k', St t', St a', .slice A' n' cp'] 24)).heap[F]? = some (.cells #[.int .i64 5, St t, St (x :: y), .slice (some ⟨b, o, none⟩) n cp] 24) := blk_alloc hkR
          have hjA : (wr.alloc (.cells #[.int .i64 k', St t', St a', .slice A' n' cp'] 24)).heap[J]? = some (.cells #[.int .i64 k', St t', St a', .slice A' n' cp'] 24) := by rw [← hJ]; exact blk_new _ _
          have hcA : (wr.alloc (.cells #[.int .i64 k', St t', St a', .slice A' n' cp'] 24)).heap[c]? = some (.cells #[.int .i64 lf] 55) := blk_alloc hcR
          have hbA : Below wr.heap.size wr (wr.alloc (.cells #[.int .i64 k', St t', St a', .slice A' n' cp'] 24)) := (Below.refl _ _).alloc (Nat.le_refl _) _
          have hrA := hrR.under hbA
          have hrEA := hrE.under hbA
          have heA := heR.own hbA
          have hfA : Fr (· = c) F w (wr.alloc (.cells #[.int .i64 k', St t', St a', .slice A' n' cp'] 24)) := hfR.below hbA (by have := blk_lt hkR; omega)
          clear p0 p1 p2 p3 q0 q1 q2 q3
          obtain ⟨p0, p1, p2, p3, q0, q1, q2, q3⟩ := cells4 hkA
          obtain ⟨r0, r1, r2, r3, s0, s1, s2, s3⟩ := cells4 hjA
          have hwi : IntKind.i64.wrap ((i : Int) + 1) = (i : Int) + 1 := wrapK_le (by omega) (Int.le_trans (Int.ofNat_le.2 hi) (Int.ofNat_le.2 (HNK.out ▸ HC.out.2.2.2.2.2.2.2.1)))
          have hwi2 : wrap64 ((i : Int) + 1) = (i : Int) + 1 := wrap6_le (by omega) (Int.le_trans (Int.ofNat_le.2 hi) (Int.ofNat_le.2 (HNK.out ▸ HC.out.2.2.2.2.2.2.2.1)))
          have HWI := Lib.hid (And.intro hwi hwi2)
          clear hwi hwi2
          have hdw : IntKind.i64.wrap (deep + 1) = deep + 1 := wrapK_le (by omega) (Int.le_trans hd64 (by decide))
          have hdw2 : wrap64 (deep + 1) = deep + 1 := wrap6_le (by omega) (Int.le_trans hd64 (by decide))
          have hIh := ih k' t' a' kids' A' n' cp' (by have := HM.out; omega) hfitE c lf (deep + 1) G K _ hlf0 hlf1 (by omega) hd64 heA hGc hKc hcA hrEA
          have hT1 := rightL_cons (decide ((5 : Int) = 6)) (.mk k' t' a' kids') rest i lf (deep + 1)
          rw [← hdr, hRl] at hT1
          simp only [T.kind, T.anchor] at hT1
          have hcF' : F ≠ c := by omega
          have hrest : kids.drop (i + 1) = rest := by rw [← List.drop_drop, hdr]; rfl
          generalize rightT (.mk k' t' a' kids') lf (deep + 1) = R1 at hIh hT1
          obtain ⟨R1b, R1l⟩ := R1
          have HA := Lib.hid (And.intro hcA (And.intro hkA (And.intro hrA (And.intro heA hfA))))
          have HT1 := Lib.hid hT1
          have HRE := Lib.hid hrest
          clear hcells hrE hrR heR hfR hcR hkR hjA hcA hbA hrA hrEA heA hfA hkA hT1 hRl hmem hsz hsz2 hdr hrest hfitE hnk
          go_wp2_with fail
          refine hIh.mono ?_
          rintro e w5 ⟨rfl, hc5, hp5, hl5, f5⟩
          have hk5 := blk_fr HA.out.2.1 f5 (blk_lt HA.out.2.1) hcF'
          have hr5 := HA.out.2.2.1.keep (fun b hb hK => f5.block b hb (fun e => hKc (e ▸ hK))) (fun _ _ h => h)
          have he5 := HA.out.2.2.2.1.fr f5 HA.out.2.2.2.1.le (fun k hk => by subst hk; exact hGc)
          have f5' := HA.out.2.2.2.2.call f5 (by have := blk_lt HA.out.2.1; omega) (fun _ _ h => h)
          have hT1 := HT1.out
          rw [if_neg (fun h => absurd h.1 (by decide))] at hT1
          simp only [] at hc5 hp5 hl5
          have H5 := Lib.hid (And.intro hc5 (And.intro hp5 (And.intro hl5 (And.intro hk5 (And.intro hr5 (And.intro he5 f5'))))))
          clear hc5 hp5 hl5 hk5 hr5 he5 f5' f5
          cases R1b with
          | true =>
            rw [if_pos rfl] at hT1
            have HT2 := Lib.hid hT1
            have HL5 := Lib.hid (H5.out.2.1 rfl)
            have hwi := HWI.out.1
            have hwi2 := HWI.out.2
            clear hT1
            go_wp2_with fail
            exact ⟨⟨i + 1, rfl, hi, R1l, by rw [HRE.out]; exact HT2.out.symm, HL5.out, H5.out.2.2.1, H5.out.1, H5.out.2.2.2.1, H5.out.2.2.2.2.1, H5.out.2.2.2.2.2.1, H5.out.2.2.2.2.2.2⟩, round_less hi⟩
          | false =>
            rw [if_neg (by decide)] at hT1
            subst hT1
            go_wp2_with fail
            go_ret
            exact ⟨rfl, H5.out.1, fun h => (by cases h), H5.out.2.2.1, by rw [hF]; exact H5.out.2.2.2.2.2.2⟩

        · have hi' : ¬ ((i : Int) < (n : Int)) := by omega
          obtain rfl : i = n := by omega
          have hdn : kids.drop i = [] := List.drop_of_length_le (by have := HNK.out; omega)
          rw [hdn] at hRl
          have hRl' : (true, lf) = R := hRl
          clear hRl
          subst hRl'
          have HX := Lib.hid (And.intro hcR hfR)
          clear hrR heR hfR hcR hkR
          go_wp2_with fail
          go_ret
          exact ⟨rfl, HX.out.1, fun _ => hlf0, hlf1, by rw [hF]; exact HX.out.2⟩
    · clear hE hm2
      go_enter Tryz.func28, Tryz.ntmps28
      go_wp2_with fail
      refine hTx.mono ?_
      rintro e w2 ⟨rfl, hb2⟩
      have hc2 := blk_below HC.out.1 hb2 (blk_lt HC.out.1)
      have hk2 := blk_below HC.out.2.1 hb2 (blk_lt HC.out.2.1)
      have f2 : Fr (· = c) F w w2 := HC.out.2.2.1.below hb2 (by have := blk_lt HC.out.2.1; omega)
      have hr2 := HC.out.2.2.2.1.under hb2
      have he2 := HC.out.2.2.2.2.1.own hb2
      clear d0 p0 p1 p2 p3 q0 q1 q2 q3 c0 f0
      obtain ⟨p0, p1, p2, p3, q0, q1, q2, q3⟩ := cells4 hk2
      have H2 := Lib.hid (And.intro hc2 (And.intro hk2 (And.intro f2 (And.intro hr2 he2))))
      clear hc2 hk2 f2 hr2 he2 hb2
      go_wp2_with fail
      go_loopw [83] (fun v wr => ∃ i : Nat, v = .int .i64 i ∧ i ≤ n ∧ RightR c kids K 5 t [] A n cp deep R G F w i wr) (fun v _ => n - (intOf v).toNat)
      case atStart => exact ⟨0, rfl, by omega, left - 1, HRR.out, hl2, h4096, H2.out.1, H2.out.2.1, H2.out.2.2.2.1, H2.out.2.2.2.2, H2.out.2.2.1⟩
      case round =>
        obtain ⟨i, rfl, hin, lf, hRl, hlf0, hlf1, hcR, hkR, hrR, heR, hfR⟩ := hrel
        by_cases hi : i < n
        · have hi' : (i : Int) < (n : Int) := by omega
          have hnk := HNK.out
          rcases hdr : kids.drop i with _ | ⟨⟨k', t', a', kids'⟩, rest⟩
          · have := congrArg List.length hdr
            rw [List.length_drop] at this
            simp at this
            omega
          have hmem : T.mk k' t' a' kids' ∈ kids := List.mem_of_mem_drop (by rw [hdr]; exact List.mem_cons_self)
          have hsz := List.sizeOf_lt_of_mem hmem
          have hsz2 : SizeOf.sizeOf kids' < SizeOf.sizeOf (T.mk k' t' a' kids') := by simp; omega
          obtain ⟨b, o, A', n', cp', rfl, hcells, hrE⟩ := hrR.elem i hdr
          have q0' : wr.cell? ⟨b, o + i * 4, none⟩ = some (.int .i64 k') := hcells 0 (by decide)
          have q1' : wr.cell? ⟨b, o + i * 4 + 1, none⟩ = some (St t') := hcells 1 (by decide)
          have q2' : wr.cell? ⟨b, o + i * 4 + 2, none⟩ = some (St a') := hcells 2 (by decide)
          have q3' : wr.cell? ⟨b, o + i * 4 + 3, none⟩ = some (.slice A' n' cp') := hcells 3 (by decide)
          have hfitE := HC.out.2.2.2.2.2.2.2.2.elem i hdr
          obtain ⟨J, hJ⟩ : ∃ J, wr.heap.size = J := ⟨_, rfl⟩
          have hkA : (wr.alloc (.cells #[.int .i64 k', St t', St a', .slice A' n' cp'] 24)).heap[F]? = some (.cells #[.int .i64 5, St t, St [], .slice (some ⟨b, o, none⟩) n cp] 24) := blk_alloc hkR
          have hjA : (wr.alloc (.cells #[.int .i64 k', St t', St a', .slice A' n' cp'] 24)).heap[J]? = some (.cells #[.int .i64 k', St t', St a', .slice A' n' cp'] 24) := by rw [← hJ]; exact blk_new _ _
          have hcA : (wr.alloc (.cells #[.int .i64 k', St t', St a', .slice A' n' cp'] 24)).heap[c]? = some (.cells #[.int .i64 lf] 55) := blk_alloc hcR
          have hbA : Below wr.heap.size wr (wr.alloc (.cells #[.int .i64 k', St t', St a', .slice A' n' cp'] 24)) := (Below.refl _ _).alloc (Nat.le_refl _) _
          have hrA := hrR.under hbA
          have hrEA := hrE.under hbA
          have heA := heR.own hbA
          have hfA : Fr (· = c) F w (wr.alloc (.cells #[.int .i64 k', St t', St a', .slice A' n' cp'] 24)) := hfR.below hbA (by have := blk_lt hkR; omega)
          clear p0 p1 p2 p3 q0 q1 q2 q3
          obtain ⟨p0, p1, p2, p3, q0, q1, q2, q3⟩ := cells4 hkA
          obtain ⟨r0, r1, r2, r3, s0, s1, s2, s3⟩ := cells4 hjA
          have hwi : IntKind.i64.wrap ((i : Int) + 1) = (i : Int) + 1 := wrapK_le (by omega) (Int.le_trans (Int.ofNat_le.2 hi) (Int.ofNat_le.2 (HNK.out ▸ HC.out.2.2.2.2.2.2.2.1)))
          have hwi2 : wrap64 ((i : Int) + 1) = (i : Int) + 1 := wrap6_le (by omega) (Int.le_trans (Int.ofNat_le.2 hi) (Int.ofNat_le.2 (HNK.out ▸ HC.out.2.2.2.2.2.2.2.1)))
          have HWI := Lib.hid (And.intro hwi hwi2)
          clear hwi hwi2
          have hdw : IntKind.i64.wrap (deep + 1) = deep + 1 := wrapK_le (by omega) (Int.le_trans hd64 (by decide))
          have hdw2 : wrap64 (deep + 1) = deep + 1 := wrap6_le (by omega) (Int.le_trans hd64 (by decide))
          have hIh := ih k' t' a' kids' A' n' cp' (by have := HM.out; omega) hfitE c lf (deep + 1) G K _ hlf0 hlf1 (by omega) hd64 heA hGc hKc hcA hrEA
          have hT1 := rightL_cons (decide ((5 : Int) = 6)) (.mk k' t' a' kids') rest i lf (deep + 1)
          rw [← hdr, hRl] at hT1
          simp only [T.kind, T.anchor] at hT1
          have hcF' : F ≠ c := by omega
          have hrest : kids.drop (i + 1) = rest := by rw [← List.drop_drop, hdr]; rfl
          generalize rightT (.mk k' t' a' kids') lf (deep + 1) = R1 at hIh hT1
          obtain ⟨R1b, R1l⟩ := R1
          have HA := Lib.hid (And.intro hcA (And.intro hkA (And.intro hrA (And.intro heA hfA))))
          have HT1 := Lib.hid hT1
          have HRE := Lib.hid hrest
          clear hcells hrE hrR heR hfR hcR hkR hjA hcA hbA hrA hrEA heA hfA hkA hT1 hRl hmem hsz hsz2 hdr hrest hfitE hnk
          go_wp2_with fail
          refine hIh.mono ?_
          rintro e w5 ⟨rfl, hc5, hp5, hl5, f5⟩
          have hk5 := blk_fr HA.out.2.1 f5 (blk_lt HA.out.2.1) hcF'
          have hr5 := HA.out.2.2.1.keep (fun b hb hK => f5.block b hb (fun e => hKc (e ▸ hK))) (fun _ _ h => h)
          have he5 := HA.out.2.2.2.1.fr f5 HA.out.2.2.2.1.le (fun k hk => by subst hk; exact hGc)
          have f5' := HA.out.2.2.2.2.call f5 (by have := blk_lt HA.out.2.1; omega) (fun _ _ h => h)
          have hT1 := HT1.out
          rw [if_neg (fun h => absurd h.1 (by decide))] at hT1
          simp only [] at hc5 hp5 hl5
          have H5 := Lib.hid (And.intro hc5 (And.intro hp5 (And.intro hl5 (And.intro hk5 (And.intro hr5 (And.intro he5 f5'))))))
          clear hc5 hp5 hl5 hk5 hr5 he5 f5' f5
          cases R1b with
          | true =>
            rw [if_pos rfl] at hT1
            have HT2 := Lib.hid hT1
            have HL5 := Lib.hid (H5.out.2.1 rfl)
            have hwi := HWI.out.1
            have hwi2 := HWI.out.2
            clear hT1
            go_wp2_with fail
            exact ⟨⟨i + 1, rfl, hi, R1l, by rw [HRE.out]; exact HT2.out.symm, HL5.out, H5.out.2.2.1, H5.out.1, H5.out.2.2.2.1, H5.out.2.2.2.2.1, H5.out.2.2.2.2.2.1, H5.out.2.2.2.2.2.2⟩, round_less hi⟩
          | false =>
            rw [if_neg (by decide)] at hT1
            subst hT1
            go_wp2_with fail
            go_ret
            exact ⟨rfl, H5.out.1, fun h => (by cases h), H5.out.2.2.1, by rw [hF]; exact H5.out.2.2.2.2.2.2⟩

        · have hi' : ¬ ((i : Int) < (n : Int)) := by omega
          obtain rfl : i = n := by omega
          have hdn : kids.drop i = [] := List.drop_of_length_le (by have := HNK.out; omega)
          rw [hdn] at hRl
          have hRl' : (true, lf) = R := hRl
          clear hRl
          subst hRl'
          have HX := Lib.hid (And.intro hcR hfR)
          clear hrR heR hfR hcR hkR
          go_wp2_with fail
          go_ret
          exact ⟨rfl, HX.out.1, fun _ => hlf0, hlf1, by rw [hF]; exact HX.out.2⟩
  · rcases hacase with ⟨⟨x, y, rfl⟩, hn⟩ | rfl
    · rw [hn] at hNm
      have hE6 := hE rfl
      clear hE hm2
      go_enter Tryz.func28, Tryz.ntmps28
      go_wp2_with fail
      refine hTx.mono ?_
      rintro e w2 ⟨rfl, hb2⟩
      have hc2 := blk_below HC.out.1 hb2 (blk_lt HC.out.1)
      have hk2 := blk_below HC.out.2.1 hb2 (blk_lt HC.out.2.1)
      have f2 : Fr (· = c) F w w2 := HC.out.2.2.1.below hb2 (by have := blk_lt HC.out.2.1; omega)
      have hr2 := HC.out.2.2.2.1.under hb2
      have he2 := HC.out.2.2.2.2.1.own hb2
      clear d0 p0 p1 p2 p3 q0 q1 q2 q3 c0 f0
      obtain ⟨p0, p1, p2, p3, q0, q1, q2, q3⟩ := cells4 hk2
      have H2 := Lib.hid (And.intro hc2 (And.intro hk2 (And.intro f2 (And.intro hr2 he2))))
      clear hc2 hk2 f2 hr2 he2 hb2
      go_wp2_with fail
      refine (hNm _).mono ?_
      rintro e w3 ⟨rfl, hb3⟩
      have hc3 := blk_below H2.out.1 hb3 (blk_lt H2.out.1)
      have hk3 := blk_below H2.out.2.1 hb3 (blk_lt H2.out.2.1)
      have f3 : Fr (· = c) F w w3 := H2.out.2.2.1.below hb3 (by have := blk_lt H2.out.2.1; omega)
      have hr3 := H2.out.2.2.2.1.under hb3
      have he3 := H2.out.2.2.2.2.own hb3
      clear H2 p0 p1 p2 p3 q0 q1 q2 q3
      obtain ⟨p0, p1, p2, p3, q0, q1, q2, q3⟩ := cells4 hk3
      have H2 := Lib.hid (And.intro hc3 (And.intro hk3 (And.intro f3 (And.intro hr3 he3))))
      clear hc3 hk3 f3 hr3 he3 hb3
      go_wp2_with fail
      go_loopw [83] (fun v wr => ∃ i : Nat, v = .int .i64 i ∧ i ≤ n ∧ RightR c kids K 6 t (x :: y) A n cp deep R G F w i wr) (fun v _ => n - (intOf v).toNat)
      case atStart => exact ⟨0, rfl, by omega, left - 1, HRR.out, hl2, h4096, H2.out.1, H2.out.2.1, H2.out.2.2.2.1, H2.out.2.2.2.2, H2.out.2.2.1⟩
      case round =>
        obtain ⟨i, rfl, hin, lf, hRl, hlf0, hlf1, hcR, hkR, hrR, heR, hfR⟩ := hrel
        by_cases hi : i < n
        · have hi' : (i : Int) < (n : Int) := by omega
          have hnk := HNK.out
          rcases hdr : kids.drop i with _ | ⟨⟨k', t', a', kids'⟩, rest⟩
          · have := congrArg List.length hdr
            rw [List.length_drop] at this
            simp at this
            omega
          have hmem : T.mk k' t' a' kids' ∈ kids := List.mem_of_mem_drop (by rw [hdr]; exact List.mem_cons_self)
          have hsz := List.sizeOf_lt_of_mem hmem
          have hsz2 : SizeOf.sizeOf kids' < SizeOf.sizeOf (T.mk k' t' a' kids') := by simp; omega
          obtain ⟨b, o, A', n', cp', rfl, hcells, hrE⟩ := hrR.elem i hdr
          have q0' : wr.cell? ⟨b, o + i * 4, none⟩ = some (.int .i64 k') := hcells 0 (by decide)
          have q1' : wr.cell? ⟨b, o + i * 4 + 1, none⟩ = some (St t') := hcells 1 (by decide)
          have q2' : wr.cell? ⟨b, o + i * 4 + 2, none⟩ = some (St a') := hcells 2 (by decide)
          have q3' : wr.cell? ⟨b, o + i * 4 + 3, none⟩ = some (.slice A' n' cp') := hcells 3 (by decide)
          have hfitE := HC.out.2.2.2.2.2.2.2.2.elem i hdr
          obtain ⟨J, hJ⟩ : ∃ J, wr.heap.size = J := ⟨_, rfl⟩
          have hkA : (wr.alloc (.cells #[.int .i64 k', St t', St a', .slice A' n' cp'] 24)).heap[F]? = some (.cells #[.int .i64 6, St t, St (x :: y), .slice (some ⟨b, o, none⟩) n cp] 24) := blk_alloc hkR
          have hjA : (wr.alloc (.cells #[.int .i64 k', St t', St a', .slice A' n' cp'] 24)).heap[J]? = some (.cells #[.int .i64 k', St t', St a', .slice A' n' cp'] 24) := by rw [← hJ]; exact blk_new _ _
          have hcA : (wr.alloc (.cells #[.int .i64 k', St t', St a', .slice A' n' cp'] 24)).heap[c]? = some (.cells #[.int .i64 lf] 55) := blk_alloc hcR
          have hbA : Below wr.heap.size wr (wr.alloc (.cells #[.int .i64 k', St t', St a', .slice A' n' cp'] 24)) := (Below.refl _ _).alloc (Nat.le_refl _) _
          have hrA := hrR.under hbA
          have hrEA := hrE.under hbA
          have heA := heR.own hbA
          have hfA : Fr (· = c) F w (wr.alloc (.cells #[.int .i64 k', St t', St a', .slice A' n' cp'] 24)) := hfR.below hbA (by have := blk_lt hkR; omega)
          clear p0 p1 p2 p3 q0 q1 q2 q3
          obtain ⟨p0, p1, p2, p3, q0, q1, q2, q3⟩ := cells4 hkA
          obtain ⟨r0, r1, r2, r3, s0, s1, s2, s3⟩ := cells4 hjA
          have hwi : IntKind.i64.wrap ((i : Int) + 1) = (i : Int) + 1 := wrapK_le (by omega) (Int.le_trans (Int.ofNat_le.2 hi) (Int.ofNat_le.2 (HNK.out ▸ HC.out.2.2.2.2.2.2.2.1)))
          have hwi2 : wrap64 ((i : Int) + 1) = (i : Int) + 1 := wrap6_le (by omega) (Int.le_trans (Int.ofNat_le.2 hi) (Int.ofNat_le.2 (HNK.out ▸ HC.out.2.2.2.2.2.2.2.1)))
          have HWI := Lib.hid (And.intro hwi hwi2)
          clear hwi hwi2
          have hdw : IntKind.i64.wrap (deep + 1) = deep + 1 := wrapK_le (by omega) (Int.le_trans hd64 (by decide))
          have hdw2 : wrap64 (deep + 1) = deep + 1 := wrap6_le (by omega) (Int.le_trans hd64 (by decide))
          have hIh := ih k' t' a' kids' A' n' cp' (by have := HM.out; omega) hfitE c lf (deep + 1) G K _ hlf0 hlf1 (by omega) hd64 heA hGc hKc hcA hrEA
          have hT1 := rightL_cons (decide ((6 : Int) = 6)) (.mk k' t' a' kids') rest i lf (deep + 1)
          rw [← hdr, hRl] at hT1
          simp only [T.kind, T.anchor] at hT1
          have hcF' : F ≠ c := by omega
          have hrest : kids.drop (i + 1) = rest := by rw [← List.drop_drop, hdr]; rfl
          generalize rightT (.mk k' t' a' kids') lf (deep + 1) = R1 at hIh hT1
          obtain ⟨R1b, R1l⟩ := R1
          have HA := Lib.hid (And.intro hcA (And.intro hkA (And.intro hrA (And.intro heA hfA))))
          have HT1 := Lib.hid hT1
          have HRE := Lib.hid hrest
          clear hcells hrE hrR heR hfR hcR hkR hjA hcA hbA hrA hrEA heA hfA hkA hT1 hRl hmem hsz hsz2 hdr hrest hfitE hnk
          by_cases hpar : i % 2 = 0
          · have hpB : ((i : Int) % 2 == 0) = true := even_B hpar
            have hSc := fun w' => flow_isScalar k' w'
            by_cases hbad : isSc k' = false ∨ a' ≠ []
            · have hT1 := HT1.out
              rw [if_pos ⟨rfl, hpar, hbad⟩] at hT1
              subst hT1
              cases hsc : isSc k' with
              | false =>
                rw [hsc] at hSc
                clear hsc hbad
                go_wp2_with fail
                refine (hSc _).mono ?_
                rintro e w4 ⟨rfl, rfl⟩
                go_wp2_with fail
                go_ret
                exact ⟨rfl, HA.out.1, fun h => (by cases h), hlf1, by rw [hF]; exact HA.out.2.2.2.2⟩
              | true =>
                have hane : a' ≠ [] := by rcases hbad with h | h; rw [hsc] at h; cases h; exact h
                obtain ⟨ax, ay, rfl⟩ := List.exists_cons_of_ne_nil hane
                rw [hsc] at hSc
                clear hsc hbad hane
                go_wp2_with fail
                refine (hSc _).mono ?_
                rintro e w4 ⟨rfl, rfl⟩
                go_wp2_with fail
                go_ret
                exact ⟨rfl, HA.out.1, fun h => (by cases h), hlf1, by rw [hF]; exact HA.out.2.2.2.2⟩
            · have hsc : isSc k' = true := by cases h : isSc k' with | true => rfl | false => exact absurd (.inl h) hbad
              obtain rfl : a' = [] := by cases a' with | nil => rfl | cons ax ay => exact absurd (.inr (by simp)) hbad
              rw [hsc] at hSc
              go_wp2_with fail
              refine (hSc _).mono ?_
              rintro e w4 ⟨rfl, rfl⟩
              go_wp2_with fail
              refine hIh.mono ?_
              rintro e w5 ⟨rfl, hc5, hp5, hl5, f5⟩
              have hk5 := blk_fr HA.out.2.1 f5 (blk_lt HA.out.2.1) hcF'
              have hr5 := HA.out.2.2.1.keep (fun b hb hK => f5.block b hb (fun e => hKc (e ▸ hK))) (fun _ _ h => h)
              have he5 := HA.out.2.2.2.1.fr f5 HA.out.2.2.2.1.le (fun k hk => by subst hk; exact hGc)
              have f5' := HA.out.2.2.2.2.call f5 (by have := blk_lt HA.out.2.1; omega) (fun _ _ h => h)
              have hT1 := HT1.out
              rw [if_neg (fun h => hbad h.2.2)] at hT1
              clear hbad
              simp only [] at hc5 hp5 hl5
              have H5 := Lib.hid (And.intro hc5 (And.intro hp5 (And.intro hl5 (And.intro hk5 (And.intro hr5 (And.intro he5 f5'))))))
              clear hc5 hp5 hl5 hk5 hr5 he5 f5' f5
              cases R1b with
              | true =>
                rw [if_pos rfl] at hT1
                have HT2 := Lib.hid hT1
                have HL5 := Lib.hid (H5.out.2.1 rfl)
                have hwi := HWI.out.1
                have hwi2 := HWI.out.2
                clear hT1
                go_wp2_with fail
                exact ⟨⟨i + 1, rfl, hi, R1l, by rw [HRE.out]; exact HT2.out.symm, HL5.out, H5.out.2.2.1, H5.out.1, H5.out.2.2.2.1, H5.out.2.2.2.2.1, H5.out.2.2.2.2.2.1, H5.out.2.2.2.2.2.2⟩, round_less hi⟩
              | false =>
                rw [if_neg (by decide)] at hT1
                subst hT1
                go_wp2_with fail
                go_ret
                exact ⟨rfl, H5.out.1, fun h => (by cases h), H5.out.2.2.1, by rw [hF]; exact H5.out.2.2.2.2.2.2⟩
          · have hpB : ((i : Int) % 2 == 0) = false := odd_B hpar
            go_wp2_with fail
            refine hIh.mono ?_
            rintro e w5 ⟨rfl, hc5, hp5, hl5, f5⟩
            have hk5 := blk_fr HA.out.2.1 f5 (blk_lt HA.out.2.1) hcF'
            have hr5 := HA.out.2.2.1.keep (fun b hb hK => f5.block b hb (fun e => hKc (e ▸ hK))) (fun _ _ h => h)
            have he5 := HA.out.2.2.2.1.fr f5 HA.out.2.2.2.1.le (fun k hk => by subst hk; exact hGc)
            have f5' := HA.out.2.2.2.2.call f5 (by have := blk_lt HA.out.2.1; omega) (fun _ _ h => h)
            have hT1 := HT1.out
            rw [if_neg (fun h => hpar h.2.1)] at hT1
            clear hpar
            simp only [] at hc5 hp5 hl5
            have H5 := Lib.hid (And.intro hc5 (And.intro hp5 (And.intro hl5 (And.intro hk5 (And.intro hr5 (And.intro he5 f5'))))))
            clear hc5 hp5 hl5 hk5 hr5 he5 f5' f5
            cases R1b with
            | true =>
              rw [if_pos rfl] at hT1
              have HT2 := Lib.hid hT1
              have HL5 := Lib.hid (H5.out.2.1 rfl)
              have hwi := HWI.out.1
              have hwi2 := HWI.out.2
              clear hT1
              go_wp2_with fail
              exact ⟨⟨i + 1, rfl, hi, R1l, by rw [HRE.out]; exact HT2.out.symm, HL5.out, H5.out.2.2.1, H5.out.1, H5.out.2.2.2.1, H5.out.2.2.2.2.1, H5.out.2.2.2.2.2.1, H5.out.2.2.2.2.2.2⟩, round_less hi⟩
            | false =>
              rw [if_neg (by decide)] at hT1
              subst hT1
              go_wp2_with fail
              go_ret
              exact ⟨rfl, H5.out.1, fun h => (by cases h), H5.out.2.2.1, by rw [hF]; exact H5.out.2.2.2.2.2.2⟩

        · have hi' : ¬ ((i : Int) < (n : Int)) := by omega
          obtain rfl : i = n := by omega
          have hdn : kids.drop i = [] := List.drop_of_length_le (by have := HNK.out; omega)
          rw [hdn] at hRl
          have hRl' : (true, lf) = R := hRl
          clear hRl
          subst hRl'
          have HX := Lib.hid (And.intro hcR hfR)
          clear hrR heR hfR hcR hkR
          go_wp2_with fail
          go_ret
          exact ⟨rfl, HX.out.1, fun _ => hlf0, hlf1, by rw [hF]; exact HX.out.2⟩
    · have hE6 := hE rfl
      clear hE hm2
      go_enter Tryz.func28, Tryz.ntmps28
      go_wp2_with fail
      refine hTx.mono ?_
      rintro e w2 ⟨rfl, hb2⟩
      have hc2 := blk_below HC.out.1 hb2 (blk_lt HC.out.1)
      have hk2 := blk_below HC.out.2.1 hb2 (blk_lt HC.out.2.1)
      have f2 : Fr (· = c) F w w2 := HC.out.2.2.1.below hb2 (by have := blk_lt HC.out.2.1; omega)
      have hr2 := HC.out.2.2.2.1.under hb2
      have he2 := HC.out.2.2.2.2.1.own hb2
      clear d0 p0 p1 p2 p3 q0 q1 q2 q3 c0 f0
      obtain ⟨p0, p1, p2, p3, q0, q1, q2, q3⟩ := cells4 hk2
      have H2 := Lib.hid (And.intro hc2 (And.intro hk2 (And.intro f2 (And.intro hr2 he2))))
      clear hc2 hk2 f2 hr2 he2 hb2
      go_wp2_with fail
      go_loopw [83] (fun v wr => ∃ i : Nat, v = .int .i64 i ∧ i ≤ n ∧ RightR c kids K 6 t [] A n cp deep R G F w i wr) (fun v _ => n - (intOf v).toNat)
      case atStart => exact ⟨0, rfl, by omega, left - 1, HRR.out, hl2, h4096, H2.out.1, H2.out.2.1, H2.out.2.2.2.1, H2.out.2.2.2.2, H2.out.2.2.1⟩
      case round =>
        obtain ⟨i, rfl, hin, lf, hRl, hlf0, hlf1, hcR, hkR, hrR, heR, hfR⟩ := hrel
        by_cases hi : i < n
        · have hi' : (i : Int) < (n : Int) := by omega
          have hnk := HNK.out
          rcases hdr : kids.drop i with _ | ⟨⟨k', t', a', kids'⟩, rest⟩
          · have := congrArg List.length hdr
            rw [List.length_drop] at this
            simp at this
            omega
          have hmem : T.mk k' t' a' kids' ∈ kids := List.mem_of_mem_drop (by rw [hdr]; exact List.mem_cons_self)
          have hsz := List.sizeOf_lt_of_mem hmem
          have hsz2 : SizeOf.sizeOf kids' < SizeOf.sizeOf (T.mk k' t' a' kids') := by simp; omega
          obtain ⟨b, o, A', n', cp', rfl, hcells, hrE⟩ := hrR.elem i hdr
          have q0' : wr.cell? ⟨b, o + i * 4, none⟩ = some (.int .i64 k') := hcells 0 (by decide)
          have q1' : wr.cell? ⟨b, o + i * 4 + 1, none⟩ = some (St t') := hcells 1 (by decide)
          have q2' : wr.cell? ⟨b, o + i * 4 + 2, none⟩ = some (St a') := hcells 2 (by decide)
          have q3' : wr.cell? ⟨b, o + i * 4 + 3, none⟩ = some (.slice A' n' cp') := hcells 3 (by decide)
          have hfitE := HC.out.2.2.2.2.2.2.2.2.elem i hdr
          obtain ⟨J, hJ⟩ : ∃ J, wr.heap.size = J := ⟨_, rfl⟩
          have hkA : (wr.alloc (.cells #[.int .i64 k', St t', St a', .slice A' n' cp'] 24)).heap[F]? = some (.cells #[.int .i64 6, St t, St [], .slice (some ⟨b, o, none⟩) n cp] 24) := blk_alloc hkR
          have hjA : (wr.alloc (.cells #[.int .i64 k', St t', St a', .slice A' n' cp'] 24)).heap[J]? = some (.cells #[.int .i64 k', St t', St a', .slice A' n' cp'] 24) := by rw [← hJ]; exact blk_new _ _
          have hcA : (wr.alloc (.cells #[.int .i64 k', St t', St a', .slice A' n' cp'] 24)).heap[c]? = some (.cells #[.int .i64 lf] 55) := blk_alloc hcR
          have hbA : Below wr.heap.size wr (wr.alloc (.cells #[.int .i64 k', St t', St a', .slice A' n' cp'] 24)) := (Below.refl _ _).alloc (Nat.le_refl _) _
          have hrA := hrR.under hbA
          have hrEA := hrE.under hbA
          have heA := heR.own hbA
          have hfA : Fr (· = c) F w (wr.alloc (.cells #[.int .i64 k', St t', St a', .slice A' n' cp'] 24)) := hfR.below hbA (by have := blk_lt hkR; omega)
          clear p0 p1 p2 p3 q0 q1 q2 q3
          obtain ⟨p0, p1, p2, p3, q0, q1, q2, q3⟩ := cells4 hkA
          obtain ⟨r0, r1, r2, r3, s0, s1, s2, s3⟩ := cells4 hjA
          have hwi : IntKind.i64.wrap ((i : Int) + 1) = (i : Int) + 1 := wrapK_le (by omega) (Int.le_trans (Int.ofNat_le.2 hi) (Int.ofNat_le.2 (HNK.out ▸ HC.out.2.2.2.2.2.2.2.1)))
          have hwi2 : wrap64 ((i : Int) + 1) = (i : Int) + 1 := wrap6_le (by omega) (Int.le_trans (Int.ofNat_le.2 hi) (Int.ofNat_le.2 (HNK.out ▸ HC.out.2.2.2.2.2.2.2.1)))
          have HWI := Lib.hid (And.intro hwi hwi2)
          clear hwi hwi2
          have hdw : IntKind.i64.wrap (deep + 1) = deep + 1 := wrapK_le (by omega) (Int.le_trans hd64 (by decide))
          have hdw2 : wrap64 (deep + 1) = deep + 1 := wrap6_le (by omega) (Int.le_trans hd64 (by decide))
          have hIh := ih k' t' a' kids' A' n' cp' (by have := HM.out; omega) hfitE c lf (deep + 1) G K _ hlf0 hlf1 (by omega) hd64 heA hGc hKc hcA hrEA
          have hT1 := rightL_cons (decide ((6 : Int) = 6)) (.mk k' t' a' kids') rest i lf (deep + 1)
          rw [← hdr, hRl] at hT1
          simp only [T.kind, T.anchor] at hT1
          have hcF' : F ≠ c := by omega
          have hrest : kids.drop (i + 1) = rest := by rw [← List.drop_drop, hdr]; rfl
          generalize rightT (.mk k' t' a' kids') lf (deep + 1) = R1 at hIh hT1
          obtain ⟨R1b, R1l⟩ := R1
          have HA := Lib.hid (And.intro hcA (And.intro hkA (And.intro hrA (And.intro heA hfA))))
          have HT1 := Lib.hid hT1
          have HRE := Lib.hid hrest
          clear hcells hrE hrR heR hfR hcR hkR hjA hcA hbA hrA hrEA heA hfA hkA hT1 hRl hmem hsz hsz2 hdr hrest hfitE hnk
          by_cases hpar : i % 2 = 0
          · have hpB : ((i : Int) % 2 == 0) = true := even_B hpar
            have hSc := fun w' => flow_isScalar k' w'
            by_cases hbad : isSc k' = false ∨ a' ≠ []
            · have hT1 := HT1.out
              rw [if_pos ⟨rfl, hpar, hbad⟩] at hT1
              subst hT1
              cases hsc : isSc k' with
              | false =>
                rw [hsc] at hSc
                clear hsc hbad
                go_wp2_with fail
                refine (hSc _).mono ?_
                rintro e w4 ⟨rfl, rfl⟩
                go_wp2_with fail
                go_ret
                exact ⟨rfl, HA.out.1, fun h => (by cases h), hlf1, by rw [hF]; exact HA.out.2.2.2.2⟩
              | true =>
                have hane : a' ≠ [] := by rcases hbad with h | h; rw [hsc] at h; cases h; exact h
                obtain ⟨ax, ay, rfl⟩ := List.exists_cons_of_ne_nil hane
                rw [hsc] at hSc
                clear hsc hbad hane
                go_wp2_with fail
                refine (hSc _).mono ?_
                rintro e w4 ⟨rfl, rfl⟩
                go_wp2_with fail
                go_ret
                exact ⟨rfl, HA.out.1, fun h => (by cases h), hlf1, by rw [hF]; exact HA.out.2.2.2.2⟩
            · have hsc : isSc k' = true := by cases h : isSc k' with | true => rfl | false => exact absurd (.inl h) hbad
              obtain rfl : a' = [] := by cases a' with | nil => rfl | cons ax ay => exact absurd (.inr (by simp)) hbad
              rw [hsc] at hSc
              go_wp2_with fail
              refine (hSc _).mono ?_
              rintro e w4 ⟨rfl, rfl⟩
              go_wp2_with fail
              refine hIh.mono ?_
              rintro e w5 ⟨rfl, hc5, hp5, hl5, f5⟩
              have hk5 := blk_fr HA.out.2.1 f5 (blk_lt HA.out.2.1) hcF'
              have hr5 := HA.out.2.2.1.keep (fun b hb hK => f5.block b hb (fun e => hKc (e ▸ hK))) (fun _ _ h => h)
              have he5 := HA.out.2.2.2.1.fr f5 HA.out.2.2.2.1.le (fun k hk => by subst hk; exact hGc)
              have f5' := HA.out.2.2.2.2.call f5 (by have := blk_lt HA.out.2.1; omega) (fun _ _ h => h)
              have hT1 := HT1.out
              rw [if_neg (fun h => hbad h.2.2)] at hT1
              clear hbad
              simp only [] at hc5 hp5 hl5
              have H5 := Lib.hid (And.intro hc5 (And.intro hp5 (And.intro hl5 (And.intro hk5 (And.intro hr5 (And.intro he5 f5'))))))
              clear hc5 hp5 hl5 hk5 hr5 he5 f5' f5
              cases R1b with
              | true =>
                rw [if_pos rfl] at hT1
                have HT2 := Lib.hid hT1
                have HL5 := Lib.hid (H5.out.2.1 rfl)
                have hwi := HWI.out.1
                have hwi2 := HWI.out.2
                clear hT1
                go_wp2_with fail
                exact ⟨⟨i + 1, rfl, hi, R1l, by rw [HRE.out]; exact HT2.out.symm, HL5.out, H5.out.2.2.1, H5.out.1, H5.out.2.2.2.1, H5.out.2.2.2.2.1, H5.out.2.2.2.2.2.1, H5.out.2.2.2.2.2.2⟩, round_less hi⟩
              | false =>
                rw [if_neg (by decide)] at hT1
                subst hT1
                go_wp2_with fail
                go_ret
                exact ⟨rfl, H5.out.1, fun h => (by cases h), H5.out.2.2.1, by rw [hF]; exact H5.out.2.2.2.2.2.2⟩
          · have hpB : ((i : Int) % 2 == 0) = false := odd_B hpar
            go_wp2_with fail
            refine hIh.mono ?_
            rintro e w5 ⟨rfl, hc5, hp5, hl5, f5⟩
            have hk5 := blk_fr HA.out.2.1 f5 (blk_lt HA.out.2.1) hcF'
            have hr5 := HA.out.2.2.1.keep (fun b hb hK => f5.block b hb (fun e => hKc (e ▸ hK))) (fun _ _ h => h)
            have he5 := HA.out.2.2.2.1.fr f5 HA.out.2.2.2.1.le (fun k hk => by subst hk; exact hGc)
            have f5' := HA.out.2.2.2.2.call f5 (by have := blk_lt HA.out.2.1; omega) (fun _ _ h => h)
            have hT1 := HT1.out
            rw [if_neg (fun h => hpar h.2.1)] at hT1
            clear hpar
            simp only [] at hc5 hp5 hl5
            have H5 := Lib.hid (And.intro hc5 (And.intro hp5 (And.intro hl5 (And.intro hk5 (And.intro hr5 (And.intro he5 f5'))))))
            clear hc5 hp5 hl5 hk5 hr5 he5 f5' f5
            cases R1b with
            | true =>
              rw [if_pos rfl] at hT1
              have HT2 := Lib.hid hT1
              have HL5 := Lib.hid (H5.out.2.1 rfl)
              have hwi := HWI.out.1
              have hwi2 := HWI.out.2
              clear hT1
              go_wp2_with fail
              exact ⟨⟨i + 1, rfl, hi, R1l, by rw [HRE.out]; exact HT2.out.symm, HL5.out, H5.out.2.2.1, H5.out.1, H5.out.2.2.2.1, H5.out.2.2.2.2.1, H5.out.2.2.2.2.2.1, H5.out.2.2.2.2.2.2⟩, round_less hi⟩
            | false =>
              rw [if_neg (by decide)] at hT1
              subst hT1
              go_wp2_with fail
              go_ret
              exact ⟨rfl, H5.out.1, fun h => (by cases h), H5.out.2.2.1, by rw [hF]; exact H5.out.2.2.2.2.2.2⟩

        · have hi' : ¬ ((i : Int) < (n : Int)) := by omega
          obtain rfl : i = n := by omega
          have hdn : kids.drop i = [] := List.drop_of_length_le (by have := HNK.out; omega)
          rw [hdn] at hRl
          have hRl' : (true, lf) = R := hRl
          clear hRl
          subst hRl'
          have HX := Lib.hid (And.intro hcR hfR)
          clear hrR heR hfR hcR hkR
          go_wp2_with fail
          go_ret
          exact ⟨rfl, HX.out.1, fun _ => hlf0, hlf1, by rw [hF]; exact HX.out.2⟩
end Go.Proofs.YtbmonfcahhhdeaaGreatDoor
