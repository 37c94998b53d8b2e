/- The walk of the reader's parts. The walk of the reader's item. -/
import Derived.Test.YtbmonfcahhhdeaaGreatDoorFRdF
import Derived.Laws.AppendOwnNone
set_option linter.unusedVariables false
set_option linter.unusedSimpArgs false
namespace Go.Proofs.YtbmonfcahhhdeaaGreatDoor
open Go.RowKit

/-- What a part hands back: nothing, or a row of trees in a new block. -/
def PartOut (H : Nat) (ks : List T) (e : Ending) (w : World) : Prop :=
  (ks = [] ∧ e = .returned (.slice none 0 0)) ∨
  (∃ b xs, 0 < ks.length ∧ e = .returned (.slice (some ⟨b, 0, none⟩) ks.length ks.length) ∧ w.heap[b]? = some (.cells xs.toArray 24) ∧ H ≤ b ∧ Rep w (fun x => H ≤ x) ks xs)
/-- A part's contract: function k is what the model says. -/
def PartSpec (k : FuncId) (part : FRd → Option (List T × FRd)) (g : Nat) (W deep : Int) (G : Nat) : Prop :=
  ∀ (r : FRd) (ks : List T) (r1 : FRd) (w : World), part r = some (ks, r1) → r.Ok → r.whole = W → Env G w → r.At w g →
    ks.length ≤ 2 ∧ Calls Tryz.prog k #[.pointer (some ⟨g, 0, none⟩), .int .i64 deep] w fun e w' => PartOut w.heap.size ks e w' ∧ r1.At w' g ∧ Fr (· = g) w.heap.size w w'
/-- A row of trees of a call's own. -/
def Row (B : Nat) (l : List T) (v : Value) (w : World) : Prop := ∃ xs, w.ownsRow B 24 4 v l.length xs ∧ Rep w (fun b => B ≤ b ∧ some b ≠ v.ownBlock) l xs

/-- What stands when parts' loop has n rounds to go. -/
def PartsR (part : FRd → Option (List T × FRd)) (e : UInt8) (N : Nat) (g : Nat) (W : Int) (G : Nat) (l' : List T) (r' : FRd) (B : Nat) (w : World) (n : Nat) (v : Value) (wr : World) : Prop :=
  ∃ r l, FRd.partsL part e n r l = some (l', r') ∧ r.At wr g ∧ r.Ok ∧ r.whole = W ∧ l.length + 2 * n ≤ 2 * N ∧ Row B l v wr ∧ Env G wr ∧ Fr (· = g) B w wr ∧ B ≤ wr.heap.size

theorem Row.own {B : Nat} {l : List T} {v : Value} {w w' : World} {g : Nat} (h : Row B l v w) (hf : Fr (· = g) w.heap.size w w') (hg : g < B) : Row B l v w' := by
  obtain ⟨xs, ho, hr⟩ := h
  refine ⟨xs, own_fr ho hf fun k hk => ⟨own_lt ho k hk, ?_⟩, hr.keep (fun b hb hK => hf.block b hb ?_) fun b hb hK => hK⟩
  · have := own_base ho k hk
    omega
  · have := hK.1
    omega

theorem Row.append {B H : Nat} {l ks : List T} {v v' : Value} {w4 w5 : World} {xs ys : List Value} (hB : B ≤ H) (hrep : Rep w4 (fun b => B ≤ b ∧ some b ≠ v.ownBlock) l xs) (hvH : ∀ k, v.ownBlock = some k → k < H) (hk : Rep w4 (fun x => H ≤ x) ks ys)
    (hown : w5.ownsRow B 24 4 v' (l.length + ks.length) (xs ++ ys)) (hg : w4.grownBy w5 v.ownBlock) (hat : v'.ownBlock = v.ownBlock ∨ v'.ownBlock = some w4.heap.size) : Row B (l ++ ks) v' w5 := by
  refine ⟨xs ++ ys, by rw [List.length_append]; exact hown, Rep.append ?_ ?_⟩
  · refine hrep.keep (fun b hb hK => hg.block b hb hK.2) fun b hb hK => ⟨hK.1, ?_⟩
    rcases hat with h | h
    · rw [h]; exact hK.2
    · rw [h]; intro e; cases e; omega
  · refine hk.keep (fun b hb hK => hg.block b hb fun e => ?_) fun b hb hK => ⟨Nat.le_trans hB hK, ?_⟩
    · have := hvH b e.symm
      have hK' : H ≤ b := hK
      omega
    · rcases hat with h | h
      · rw [h]
        intro e
        have := hvH b e.symm
        have hK' : H ≤ b := hK
        omega
      · rw [h]; intro e; cases e; omega
theorem info_tree : (Tryz.prog.info? 24).map (fun i => (i.zero, i.size, i.bytes)) = some (some (.agg #[.int .i64 0, St [], St [], .slice none 0 0]), 4, 64) := by kernel_rfl

set_option maxHeartbeats 8000000 in
set_option maxRecDepth 100000 in
theorem frd_parts (kf : FuncId) (hkf : kf = 63 ∨ kf = 64) (part : FRd → Option (List T × FRd)) (hsub : ∀ r t r', part r = some (t, r') → r.Sub r') (e : UInt8) (N : Nat) (hN : N ≤ 4294967296) (deep W : Int) (g : Nat) (G : Nat) (hGg : G ≤ g)
    (hP : PartSpec kf part g W deep G) (r0 : FRd) (hs1 : 1 ≤ r0.s.length) (l' : List T) (r' : FRd) (hm : FRd.parts part e N r0 = some (l', r')) (w : World) (he : Env G w) (h : r0.At w g) (ok : r0.Ok) (hW : r0.whole = W) :
    Calls Tryz.prog 65 #[.pointer (some ⟨g, 0, none⟩), St [e], .int .i64 deep, .func (.func kf) #[.pointer (some ⟨g, 0, none⟩)] #[]] w fun x w' =>
      ∃ v, x = .returned v ∧ Row w.heap.size l' v w' ∧ r'.At w' g ∧ Fr (· = g) w.heap.size w w' := by
  have hlt := blk_lt h
  obtain ⟨F, hF⟩ : ∃ F, w.heap.size = F := ⟨_, rfl⟩
  have hSk := frd_skip g r0 1 hs1 w h
  have hm' := hm
  unfold FRd.parts at hm'
  have HP := Lib.hid hP
  have HE := Lib.hid he
  have okS := (FRd.sub_skip r0 1).ok ok
  rcases hpl : FRd.partsL part e N (r0.skip 1) [] with _ | ⟨l1, r1⟩
  · rw [hpl] at hm'; simp at hm'
  rw [hpl] at hm'
  simp only [Option.some.injEq, Prod.mk.injEq] at hm'
  obtain ⟨rfl, hr1⟩ := hm'
  have HL := Lib.hid hpl
  clear hP he hm hpl
  go_enter Tryz.func65, Tryz.ntmps65
  go_wp2_with fail
  refine hSk.mono ?_
  rintro x w1 ⟨rfl, h1, fr1⟩
  go_wp2_with fail
  go_loopw [9] (fun v wr => ∃ n, PartsR part e N g W G l1 r1 F w n v wr) (fun v wr => least fun n => PartsR part e N g W G l1 r1 F w n v wr)
  case atStart =>
    refine ⟨N, r0.skip 1, [], HL.out, h1, okS, hW, by simp, ⟨[], ⟨rfl, .inl ⟨rfl, rfl⟩⟩, .nil⟩, ?_, by rw [← hF]; exact fr1, by rw [← hF]; exact fr1.size⟩
    exact HE.out.fr fr1 HE.out.le fun k hk => by subst hk; exact hGg
  case round =>
    have hR := least_spec hrel
    generalize hn : (least fun n => PartsR part e N g W G l1 r1 F w n u9 wr) = n at hR ⊢
    obtain ⟨r, l, hm, hA, okr, hWr, hlen, hrow, hEr, hfr, hsz⟩ := hR
    have hrow' := hrow
    obtain ⟨xs, hown, hrep⟩ := hrow'
    obtain ⟨A, c, rfl⟩ := own_slice hown
    cases n with
    | zero => simp [FRd.partsL] at hm
    | succ n =>
    rw [FRd.partsL] at hm
    have hWell := frd_well g r wr hA
    have hNe := frd_next g r [e] wr hA
    have HX := Lib.hid (And.intro hA (And.intro okr (And.intro hrow (And.intro hEr (And.intro hfr hsz)))))
    have HN := Lib.hid hn
    clear hrel hn hrow hown hrep hEr hfr hsz h hSk h1 fr1
    by_cases hgo : (r.well && !r.next [e]) = true
    · rw [if_pos hgo] at hm
      have hgo2 : r.well = true ∧ r.next [e] = false := by
        cases h1 : r.well <;> cases h2 : r.next [e] <;> simp_all
      rw [hgo2.1] at hWell
      rw [hgo2.2] at hNe
      rcases hpr : part r with _ | ⟨ks, r2⟩
      · rw [hpr] at hm; simp at hm
      rw [hpr] at hm
      simp only [] at hm
      obtain ⟨hk2, hC⟩ := HP.out r ks r2 wr hpr okr hWr HX.out.2.2.2.1 hA
      have ok2 := (hsub r ks r2 hpr).ok okr
      have hW2 : r2.whole = W := by rw [(hsub r ks r2 hpr).1]; exact hWr
      have hSk0 := fun w' h' => frd_skip g r2 0 (Nat.zero_le _) w' h'
      have hN44 := fun w' h' => frd_next g (r2.skip 0) [44] w' h'
      have hNe2 := fun w' h' => frd_next g (r2.skip 0) [e] w' h'
      have ok20 := (FRd.sub_skip r2 0).ok ok2
      have hSt := fun w' h' => frd_stray g (r2.skip 0) w' h' ok20
      have hlb : l.length ≤ 8589934592 := by omega
      have HLEN := Lib.hid hlen
      clear hgo hgo2 hpr hlen
      rcases hkf with rfl | rfl
      all_goals
        go_wp2_with fail
        refine hWell.mono ?_
        rintro x w2 ⟨rfl, rfl⟩
        go_wp2_with fail
        refine hNe.mono ?_
        rintro x w2 ⟨rfl, rfl⟩
        go_wp2_with fail
        refine hC.mono ?_
        rintro x w4 ⟨hO, h4, fr4⟩
        have hlt' : g < F := by omega
        have hrow4 := HX.out.2.2.1.own fr4 hlt'
        have hf4 := HX.out.2.2.2.2.1.call fr4 HX.out.2.2.2.2.2 (fun _ _ h => h)
        have hs4 := fr4.size
        have hFs := HX.out.2.2.2.2.2
        have hvH : ∀ k, (Value.slice A l.length c).ownBlock = some k → k < w2.heap.size := fun k hk => by
          obtain ⟨xs0, ho0, _⟩ := HX.out.2.2.1
          exact own_lt ho0 k hk
        have HVH := Lib.hid hvH
        obtain ⟨i0, hi, hii⟩ := Option.map_eq_some_iff.1 info_tree
        rcases hO with ⟨rfl, rfl⟩ | ⟨b, ys, hk0, rfl, hblk, hbF, hrepk⟩
        · have HB : Hid (r2.At w4 g ∧ Row F (l ++ []) (.slice A l.length c) w4 ∧ Fr (· = g) F w w4) := ⟨h4, by rw [List.append_nil]; exact hrow4, hf4⟩
          obtain ⟨xs4, hown4, hrep4⟩ := hrow4
          have HO4 := Lib.hid hown4
          clear h4 hf4 hrep4 hown4 fr4 hvH hii hi i0
          obtain ⟨i0, hi, hii⟩ := Option.map_eq_some_iff.1 info_tree
          go_wp2_with (at_builtin; refine wpList_append_own_none rfl _ _ 22 rfl F 24 i0 4 Tryz.underlying22 hi _ _ xs4 rfl HO4.out rfl ?_)
          have hrX : ∀ rX w9, rX = (if (r2.skip 0).next [44] then (r2.skip 0).skip 1 else if (r2.skip 0).next [e] then r2.skip 0 else (r2.skip 0).stray) → rX.At w9 g → Fr (· = g) w4.heap.size w4 w9 →
              (∃ n, PartsR part e N g W G l1 r1 F w n (.slice A l.length c) w9) ∧ (least fun n => PartsR part e N g W G l1 r1 F w n (.slice A l.length c) w9) < n + 1 := fun rX w9 hrx h9 fr9 => by
            have hsubX : r2.Sub rX := by
              rw [hrx]
              refine (FRd.sub_skip r2 0).trans ?_
              split
              · exact FRd.sub_skip _ _
              split
              · exact FRd.Sub.refl _
              · exact FRd.sub_stray _
            have hf9 : Fr (· = g) F w w9 := HB.out.2.2.call fr9 (by have := HB.out.2.2.size; omega) (fun _ _ h => h)
            have hR : PartsR part e N g W G l1 r1 F w n (.slice A l.length c) w9 := by
              refine ⟨rX, l ++ [], by rw [hrx]; exact hm, h9, hsubX.ok ok2, by rw [hsubX.1]; exact hW2, ?_, HB.out.2.1.own fr9 hlt', ?_, hf9, by have := hf9.size; omega⟩
              · (have hlen := HLEN.out; simp only [List.length_append, List.length_nil]; omega)
              · exact HE.out.fr hf9 (by rw [← hF]; exact HE.out.le) (fun k hk => by subst hk; exact hGg)
            exact ⟨⟨n, hR⟩, Nat.lt_succ_of_le (least_le hR)⟩
          have HE2 := Lib.hid hrX
          clear hrX hm
          go_wp2_with fail
          refine (hSk0 _ (by exact HB.out.1)).mono ?_
          rintro x w6 ⟨rfl, h6, fr6⟩
          have hN1 := hN44 w6 h6
          have hN2 := hNe2 w6 h6
          have H6 := Lib.hid (And.intro h6 fr6)
          cases h44 : (r2.skip 0).next [44] with
          | true =>
            have hs6 : 1 ≤ (r2.skip 0).s.length := by
              unfold FRd.next at h44
              cases hr : (r2.skip 0).s with
              | nil => rw [hr] at h44; simp at h44
              | cons a b => simp
            rw [h44] at hN1
            have hSk1 := frd_skip g (r2.skip 0) 1 hs6 w6 h6
            have hq := fun w9 => HE2.out _ w9 (by rw [h44, if_pos rfl])
            have HQ := Lib.hid hq
            clear hq HE2 hSk0 hN44 hNe2 hSt h44 h6 fr6
            go_wp2_with fail
            refine hN1.mono ?_
            rintro x w7 ⟨rfl, rfl⟩
            go_wp2_with fail
            refine hSk1.mono ?_
            rintro x w8 ⟨rfl, h8, fr8⟩
            go_wp2_with fail
            rw [HN.out]
            exact HQ.out _ h8 (H6.out.2.call fr8 H6.out.2.size (fun _ _ h => h))
          | false =>
            rw [h44] at hN1
            cases hee : (r2.skip 0).next [e] with
            | true =>
              rw [hee] at hN2
              have hq := fun w9 => HE2.out _ w9 (by rw [h44, hee, if_neg (by decide), if_pos rfl])
              have HQ := Lib.hid hq
              clear hq HE2 hSk0 hN44 hNe2 hSt h44 h6 fr6 hee
              go_wp2_with fail
              refine hN1.mono ?_
              rintro x w7 ⟨rfl, rfl⟩
              go_wp2_with fail
              refine hN2.mono ?_
              rintro x w7 ⟨rfl, rfl⟩
              go_wp2_with fail
              rw [HN.out]
              exact HQ.out _ H6.out.1 H6.out.2
            | false =>
              rw [hee] at hN2
              have hq := fun w9 => HE2.out _ w9 (by rw [h44, hee, if_neg (by decide), if_neg (by decide)])
              have HQ := Lib.hid hq
              have hSt6 := hSt w6 h6
              clear hq HE2 hSk0 hN44 hNe2 hSt h44 h6 fr6 hee
              go_wp2_with fail
              refine hN1.mono ?_
              rintro x w7 ⟨rfl, rfl⟩
              go_wp2_with fail
              refine hN2.mono ?_
              rintro x w7 ⟨rfl, rfl⟩
              go_wp2_with fail
              refine hSt6.mono ?_
              rintro x w8 ⟨rfl, h8, fr8⟩
              go_wp2_with fail
              rw [HN.out]
              exact HQ.out _ h8 (H6.out.2.call fr8 H6.out.2.size (fun _ _ h => h))
        · obtain ⟨xs4, hown4, hrep4⟩ := hrow4
          have HO4 := Lib.hid (And.intro hown4 (And.intro hrep4 (And.intro h4 (And.intro hf4 hrepk))))
          have hyl := hrepk.len
          have hy1 := hrepk.one
          have HY1 := Lib.hid hy1
          clear h4 hf4 hrep4 hown4 fr4 hvH hii hi i0 hrepk hy1
          go_wp2_with (at_builtin; refine wp_appN F 22 24 _ 4 64 rfl _ _ rfl Tryz.underlying22 info_tree rfl (by decide) (by decide) _ _ ks.length b xs4 ys rfl rfl hyl HY1.out hblk HO4.out.1 (by omega) (by omega) ?_)
          intro A5 c5 w5 hown5 hg5 hat5
          have HB : Hid (r2.At w5 g ∧ Row F (l ++ ks) (.slice A5 (l.length + ks.length) c5) w5 ∧ Fr (· = g) F w w5) :=
            ⟨blk_grown HO4.out.2.2.1 hg5 (own_ne HO4.out.1 hlt'), Row.append hFs HO4.out.2.1 HVH.out HO4.out.2.2.2.2 hown5 hg5 hat5,
              HO4.out.2.2.2.1.grown hg5 (by omega) (fun k hk => .inl (own_base HO4.out.1 k hk))⟩
          clear hown5 hg5 hat5
          have hrX : ∀ rX w9, rX = (if (r2.skip 0).next [44] then (r2.skip 0).skip 1 else if (r2.skip 0).next [e] then r2.skip 0 else (r2.skip 0).stray) → rX.At w9 g → Fr (· = g) w5.heap.size w5 w9 →
              (∃ n, PartsR part e N g W G l1 r1 F w n (.slice A5 (l.length + ks.length) c5) w9) ∧ (least fun n => PartsR part e N g W G l1 r1 F w n (.slice A5 (l.length + ks.length) c5) w9) < n + 1 := fun rX w9 hrx h9 fr9 => by
            have hsubX : r2.Sub rX := by
              rw [hrx]
              refine (FRd.sub_skip r2 0).trans ?_
              split
              · exact FRd.sub_skip _ _
              split
              · exact FRd.Sub.refl _
              · exact FRd.sub_stray _
            have hf9 : Fr (· = g) F w w9 := HB.out.2.2.call fr9 (by have := HB.out.2.2.size; omega) (fun _ _ h => h)
            have hR : PartsR part e N g W G l1 r1 F w n (.slice A5 (l.length + ks.length) c5) w9 := by
              refine ⟨rX, l ++ ks, by rw [hrx]; exact hm, h9, hsubX.ok ok2, by rw [hsubX.1]; exact hW2, ?_, HB.out.2.1.own fr9 hlt', ?_, hf9, by have := hf9.size; omega⟩
              · (have hlen := HLEN.out; simp only [List.length_append]; omega)
              · exact HE.out.fr hf9 (by rw [← hF]; exact HE.out.le) (fun k hk => by subst hk; exact hGg)
            exact ⟨⟨n, hR⟩, Nat.lt_succ_of_le (least_le hR)⟩
          have HE2 := Lib.hid hrX
          clear hrX hm
          go_wp2_with fail
          refine (hSk0 _ (by exact HB.out.1)).mono ?_
          rintro x w6 ⟨rfl, h6, fr6⟩
          have hN1 := hN44 w6 h6
          have hN2 := hNe2 w6 h6
          have H6 := Lib.hid (And.intro h6 fr6)
          cases h44 : (r2.skip 0).next [44] with
          | true =>
            have hs6 : 1 ≤ (r2.skip 0).s.length := by
              unfold FRd.next at h44
              cases hr : (r2.skip 0).s with
              | nil => rw [hr] at h44; simp at h44
              | cons a b => simp
            rw [h44] at hN1
            have hSk1 := frd_skip g (r2.skip 0) 1 hs6 w6 h6
            have hq := fun w9 => HE2.out _ w9 (by rw [h44, if_pos rfl])
            have HQ := Lib.hid hq
            clear hq HE2 hSk0 hN44 hNe2 hSt h44 h6 fr6
            go_wp2_with fail
            refine hN1.mono ?_
            rintro x w7 ⟨rfl, rfl⟩
            go_wp2_with fail
            refine hSk1.mono ?_
            rintro x w8 ⟨rfl, h8, fr8⟩
            go_wp2_with fail
            rw [HN.out]
            exact HQ.out _ h8 (H6.out.2.call fr8 H6.out.2.size (fun _ _ h => h))
          | false =>
            rw [h44] at hN1
            cases hee : (r2.skip 0).next [e] with
            | true =>
              rw [hee] at hN2
              have hq := fun w9 => HE2.out _ w9 (by rw [h44, hee, if_neg (by decide), if_pos rfl])
              have HQ := Lib.hid hq
              clear hq HE2 hSk0 hN44 hNe2 hSt h44 h6 fr6 hee
              go_wp2_with fail
              refine hN1.mono ?_
              rintro x w7 ⟨rfl, rfl⟩
              go_wp2_with fail
              refine hN2.mono ?_
              rintro x w7 ⟨rfl, rfl⟩
              go_wp2_with fail
              rw [HN.out]
              exact HQ.out _ H6.out.1 H6.out.2
            | false =>
              rw [hee] at hN2
              have hq := fun w9 => HE2.out _ w9 (by rw [h44, hee, if_neg (by decide), if_neg (by decide)])
              have HQ := Lib.hid hq
              have hSt6 := hSt w6 h6
              clear hq HE2 hSk0 hN44 hNe2 hSt h44 h6 fr6 hee
              go_wp2_with fail
              refine hN1.mono ?_
              rintro x w7 ⟨rfl, rfl⟩
              go_wp2_with fail
              refine hN2.mono ?_
              rintro x w7 ⟨rfl, rfl⟩
              go_wp2_with fail
              refine hSt6.mono ?_
              rintro x w8 ⟨rfl, h8, fr8⟩
              go_wp2_with fail
              rw [HN.out]
              exact HQ.out _ h8 (H6.out.2.call fr8 H6.out.2.size (fun _ _ h => h))
    · rw [if_neg hgo] at hm
      simp only [Option.some.injEq, Prod.mk.injEq] at hm
      obtain ⟨rfl, rfl⟩ := hm
      cases hw : r.well with
      | false =>
        rw [hw] at hWell hr1
        rw [if_neg (by decide)] at hr1
        subst hr1
        clear hgo hNe hw
        go_wp2_with fail
        refine hWell.mono ?_
        rintro x w2 ⟨rfl, rfl⟩
        go_wp2_with fail
        refine hWell.mono ?_
        rintro x w2 ⟨rfl, rfl⟩
        go_wp2_with fail
        go_ret
        obtain ⟨hA, okr, hrow, hEr, hfr, hsz⟩ := HX.out
        exact ⟨_, rfl, by rw [hF]; exact hrow, hA, by rw [hF]; exact hfr⟩
      | true =>
        have hne : r.next [e] = true := by
          rw [hw] at hgo
          cases hx : r.next [e] with
          | false => rw [hx] at hgo; exact absurd rfl hgo
          | true => rfl
        rw [hw] at hWell hr1
        rw [hne] at hNe
        rw [if_pos rfl] at hr1
        subst hr1
        have hs : 1 ≤ r.s.length := by
          unfold FRd.next at hne
          cases hr : r.s with
          | nil => rw [hr] at hne; simp at hne
          | cons a b => simp
        have hd1 := fun w' => slice_drop r.s 1 hs w'
        rw [List.drop_one] at hd1
        obtain ⟨a0, a1, a2, a3, i0, i1, i2, i3⟩ := hA.parts
        clear hgo hw hne
        go_wp2_with fail
        refine hWell.mono ?_
        rintro x w2 ⟨rfl, rfl⟩
        go_wp2_with fail
        refine hNe.mono ?_
        rintro x w2 ⟨rfl, rfl⟩
        go_wp2_with fail
        refine hWell.mono ?_
        rintro x w2 ⟨rfl, rfl⟩
        go_wp2_with fail
        go_ret
        obtain ⟨hA, okr, hrow, hEr, hfr, hsz⟩ := HX.out
        refine ⟨_, rfl, by rw [hF]; exact hrow.own ((Fr.refl _ _ _).own 1 _) (by omega), ?_, by rw [hF]; exact hfr.own 1 _⟩
        unfold FRd.dropS
        rw [List.drop_one]
        exact hA.set1 _
end Go.Proofs.YtbmonfcahhhdeaaGreatDoor

namespace Go.Proofs.YtbmonfcahhhdeaaGreatDoor
open Go.RowKit

/-- value's contract. -/
def ValSpec (f : Bool) (value : FRd → Option (T × FRd)) (g : Nat) (W deep : Int) (G : Nat) : Prop :=
  ∀ (r : FRd) (t : T) (r1 : FRd) (w : World), value r = some (t, r1) → r.Ok → r.whole = W → Env G w → r.At w g →
    Calls Tryz.prog 30 #[.pointer (some ⟨g, 0, none⟩), .bool f, .int .i64 deep] w fun e w' => ∃ v, e = .returned v ∧ Rep1 w' (fun b => w.heap.size ≤ b) t v ∧ r1.At w' g ∧ Fr (· = g) w.heap.size w w'
theorem Rep1.shape {w : World} {K : Nat → Prop} {k : Int} {t a : Bs} {kids : List T} {v : Value} (h : Rep1 w K (.mk k t a kids) v) :
    ∃ A c, v = .agg #[.int .i64 k, St t, St a, .slice A kids.length c] ∧ Rep w K [.mk k t a kids] [.int .i64 k, St t, St a, .slice A kids.length c] := by
  obtain ⟨c0, c1, c2, c3, rfl, hr⟩ := h
  cases hr with
  | cons _ _ _ _ v xs ts ys base ho hv hk hr2 =>
    obtain ⟨A, c, rfl⟩ := own_slice ho
    exact ⟨A, c, rfl, .cons _ _ _ _ _ xs _ _ base ho hv hk hr2⟩

set_option maxHeartbeats 4000000 in
theorem frd_item (value : FRd → Option (T × FRd)) (g : Nat) (W deep : Int) (G : Nat) (hGg : G ≤ g) (hV : ValSpec true value g W deep G) : PartSpec 63 (FRd.item value) g W deep G := by
  intro r ks r1 w hm ok hW he h
  have hlt := blk_lt h
  unfold FRd.item at hm
  rcases hv : value r.itemR with _ | ⟨t, r2⟩
  · rw [hv] at hm; cases hm
  rw [hv] at hm
  simp only [Option.some.injEq, Prod.mk.injEq] at hm
  obtain ⟨rfl, rfl⟩ := hm
  refine ⟨by simp, ?_⟩
  have hC := fun w' he' h' => hV r.itemR t r2 w' hv ((FRd.sub_itemR r).ok ok) (by rw [(FRd.sub_itemR r).1]; exact hW) he' h'
  have hN := frd_next g r [44] w h
  have hSt := frd_stray g r w h ok
  have hcase : (r.s = [] ∧ r.itemR = r.stray) ∨ (∃ a b, r.s = a :: b ∧ r.next [44] = true ∧ r.itemR = r.stray) ∨ (∃ a b, r.s = a :: b ∧ r.next [44] = false ∧ r.itemR = r) := by
    unfold FRd.itemR
    cases hs : r.s with
    | nil => exact .inl ⟨rfl, if_pos (.inl rfl)⟩
    | cons a b =>
      cases hn : r.next [44] with
      | true => exact .inr (.inl ⟨a, b, rfl, rfl, if_pos (.inr rfl)⟩)
      | false => exact .inr (.inr ⟨a, b, rfl, rfl, if_neg (by simp)⟩)
  have HE := Lib.hid he
  have HA := Lib.hid h
  obtain ⟨c0, c1, c2, c3, f0, f1, f2, f3⟩ := h.parts
  obtain ⟨k, tt, ta, kids⟩ := t
  have fin : ∀ w4 w5 v, Fr (· = g) w.heap.size w w4 → Rep1 w5 (fun b => w4.heap.size ≤ b) (.mk k tt ta kids) v → r2.At w5 g → Fr (· = g) w4.heap.size w4 w5 →
      ∃ A c, v = .agg #[.int .i64 k, St tt, St ta, .slice A kids.length c] ∧ Hid (PartOut w.heap.size [.mk k tt ta kids] (.returned (.slice (some ⟨w5.heap.size, 0, none⟩) 1 1)) (w5.alloc (.cells #[.int .i64 k, St tt, St ta, .slice A kids.length c] 24)) ∧
        r2.At (w5.alloc (.cells #[.int .i64 k, St tt, St ta, .slice A kids.length c] 24)) g ∧ Fr (· = g) w.heap.size w (w5.alloc (.cells #[.int .i64 k, St tt, St ta, .slice A kids.length c] 24))) := fun w4 w5 v f4 hr h5 f5 => by
    obtain ⟨A, c, rfl, hr'⟩ := hr.shape
    have s4 := f4.size
    have s5 := f5.size
    refine ⟨A, c, rfl, .inr ⟨w5.heap.size, _, by simp, rfl, blk_new _ _, by omega, ?_⟩, blk_alloc h5, (f4.call f5 s4 (fun _ _ h => h)).alloc (by omega) _⟩
    refine hr'.keep (fun b hb _ => Below.heap_alloc _ _ _ hb) (fun b _ hK => ?_)
    have hK' : w4.heap.size ≤ b := hK
    show w.heap.size ≤ b
    omega
  rcases hcase with ⟨hs, hR⟩ | ⟨a, b, hs, hn, hR⟩ | ⟨a, b, hs, hn, hR⟩
  · rw [hR] at hC
    rw [hs] at c1
    clear hR hs hN he h hv hV
    go_enter Tryz.func63, Tryz.ntmps63
    go_wp2_with fail
    refine hSt.mono ?_
    rintro e w4 ⟨rfl, h4, f4⟩
    go_wp2_with fail
    refine (hC _ (HE.out.fr f4 HE.out.le (fun k hk => by subst hk; exact hGg)) h4).mono ?_
    rintro e w5 ⟨v, rfl, hr, h5, f5⟩
    obtain ⟨A, c, rfl, hfin⟩ := fin w4 w5 v f4 hr h5 f5
    go_wp2_with fail
    go_ret
    exact hfin.out
  · rw [hR] at hC
    rw [hs] at c1
    rw [hn] at hN
    clear hR hs hn he h hv hV
    go_enter Tryz.func63, Tryz.ntmps63
    go_wp2_with fail
    refine hN.mono ?_
    rintro e w3 ⟨rfl, rfl⟩
    go_wp2_with fail
    refine hSt.mono ?_
    rintro e w4 ⟨rfl, h4, f4⟩
    go_wp2_with fail
    refine (hC _ (HE.out.fr f4 HE.out.le (fun k hk => by subst hk; exact hGg)) h4).mono ?_
    rintro e w5 ⟨v, rfl, hr, h5, f5⟩
    obtain ⟨A, c, rfl, hfin⟩ := fin w4 w5 v f4 hr h5 f5
    go_wp2_with fail
    go_ret
    exact hfin.out
  · rw [hR] at hC
    rw [hs] at c1
    rw [hn] at hN
    clear hR hs hn he h hv hV
    go_enter Tryz.func63, Tryz.ntmps63
    go_wp2_with fail
    refine hN.mono ?_
    rintro e w3 ⟨rfl, rfl⟩
    go_wp2_with fail
    refine (hC _ HE.out HA.out).mono ?_
    rintro e w5 ⟨v, rfl, hr, h5, f5⟩
    obtain ⟨A, c, rfl, hfin⟩ := fin _ w5 v (Fr.refl _ _ _) hr h5 f5
    go_wp2_with fail
    go_ret
    exact hfin.out
end Go.Proofs.YtbmonfcahhhdeaaGreatDoor
