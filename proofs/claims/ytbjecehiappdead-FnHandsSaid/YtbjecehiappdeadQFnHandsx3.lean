-- This session's own text, written by a program of its own (wip/ownprint.sh: the kit's printer with this session's changes and hand-typed contracts). Lean checks it.
import Derived.Test.YtbjecehiappdeadQFnHandsx0
import Derived.Test.YtbjecehiappdeadQFnHandsx2
namespace Go.Proofs.Ytbjecehiappdead.QFnHands
open Go.RowKit Go.Proofs.YtbjecehiappdeadW.PrintWords Go.Proofs.YtbjecehiappdeadW.PrintLast Go.Proofs.YtbjecehiappdeadW.PrintMore
attribute [local go_sem] max2_int min2_int max_two min_two max_three min_three max_four min_four   -- for this text's walks alone
set_option linter.unusedVariables false
set_option linter.unusedSimpArgs false

/-! ### impl_IsHand: function 25 -/
def impl_IsHand.l0 : Nat → List Bool → List Int → Int → Int → Option (Bool)
  | 0, _, _, _, _ => none
  | k + 1, sn, x7, x8, x9 => if x9 < x8 then (if 0 ≤ x9 then (if x9 < (x7.length : Int) then ((impl_IsCard.f (rd x7 x9)).bind fun t => (if t = true then (if sn.getD (rd x7 x9).toNat false = true then (some false) else (impl_IsHand.l0 k (sn.set (rd x7 x9).toNat true) x7 x8 (wrap64 (x9 + 1)))) else (some false))) else (none)) else (none)) else (some true)
def impl_IsHand.f (k : Nat) (l0 : List Int) : Option (Bool) := impl_IsHand.l0 k (List.replicate 52 false) l0 (l0.length : Int) 0
theorem impl_IsHand.mono_l : ∀ k, (∀ y0 y1 y2 y3, LeO (impl_IsHand.l0 k y0 y1 y2 y3) (impl_IsHand.l0 (k + 1) y0 y1 y2 y3))
  | 0 => fun _ _ _ _ r h => by simp [impl_IsHand.l0] at h
  | k + 1 => by
    have ih0 := impl_IsHand.mono_l k
    intro y0 y1 y2 y3
    unfold impl_IsHand.l0
    repeat' first
      | (with_reducible exact ih0 _ _ _ _)
      | (with_reducible exact LeO.refl _)
      | (with_reducible exact LeO.none _)
      | (with_reducible refine LeO.ite ?_ ?_)
      | (with_reducible refine LeO.bind ?_ (fun _ => ?_))
      | exact ih0 _ _ _ _
      | exact LeO.none _
      | refine LeO.ite ?_ ?_
      | refine LeO.bind ?_ (fun _ => ?_)
theorem impl_IsHand.mono : ∀ a0 k, LeO (impl_IsHand.f k a0) (impl_IsHand.f (k + 1) a0) := by
  intro a0 k
  exact impl_IsHand.mono_l k _ _ _ _
theorem impl_IsHand.store_new_ {P : Program} {ev : Operand → Value} {o : Oper} {T : TypeId} {p v : Operand} {w : World} {c c' : Array Value} (ho : o.op = .store T p v) (hp : ev p = .pointer (some ⟨w.heap.size, 0, none⟩)) (hv : ev v = .agg c') (hi : (P.info? T).map (·.size) = some c'.size) (hs : c.size = c'.size) (h1 : c'.all (·.oneCell') = true) :
    (execOp ev o).run P (w.alloc (.cells c T)) = .ok .skip (w.alloc (.cells c' T)) := by
  unfold execOp
  rw [ho]
  simp only [hp, hv, Sem.run_bind, run_storeAt_new w T c c' hi hs h1, Result.andThen, Sem.run_pure]
theorem impl_IsHand.card_ {c : Int} (h : impl_IsCard.f c = some true) : 0 ≤ c ∧ c < 52 := by
  unfold impl_IsCard.f impl_InRange.f at h
  by_cases h0 : 0 ≤ c
  · rw [if_pos h0] at h
    simp at h
    omega
  · rw [if_neg h0] at h
    simp at h
theorem impl_IsHand.set_ (sn : List Bool) (n : Nat) : (bools sn).toArray.setIfInBounds n (.bool true) = (bools (sn.set n true)).toArray := by
  simp [bools, List.map_set]
theorem impl_IsHand.at_ (sn : List Bool) (n : Nat) (h : n < sn.length) : (bools sn).toArray[n]? = some (.bool (sn.getD n false)) := by
  simp [bools, List.getD_eq_getElem?_getD, List.getElem?_eq_getElem h]
set_option maxHeartbeats 8000000 in
set_option maxRecDepth 100000 in
theorem impl_IsHand.calls (k : Nat) (A0 : Option Addr) (c0 : Nat) (l0 : List Int) (r : Bool) (w : World) (hr0 : Kd.C (Kd.int .i64) w A0 l0.length l0) (hc0 : l0.length ≤ c0) (h : impl_IsHand.f k l0 = some r) :
    Calls Try.prog 25 #[.slice A0 l0.length c0] w fun e w' => e = .returned (.bool r) ∧ Below w.heap.size w w' := by
  have HR0 := Aside0.mk hr0
  have HC0 := Aside0.mk hc0
  clear hr0 hc0
  have H' := Aside0.mk h
  clear h
  go_enter Try.func25, Try.ntmps25
  go_wp2_with (first | ((with_reducible refine gate_store (t := 60) (p := 3) rfl ?_); refine store_event (t := 60) (p := 3) (v := .tmp 6) (w1 := w.alloc (.cells (bools (List.replicate 52 false)).toArray 60)) rfl rfl rfl (impl_IsHand.store_new_ rfl rfl rfl (by kernel_rfl) rfl (by kernel_rfl)) ?_; intro w1 hw1; have HH := Aside0.mk (show w1.heap[w.heap.size]? = some (.cells (bools (List.replicate 52 false)).toArray 60 (0, 0)) by rw [hw1]; exact blk_new _ _); have HB := Aside0.mk (show Below w.heap.size w w1 by rw [hw1]; exact below_alloc (Below.refl _ _) _); clear hw1))
  go_loopg [9] k (fun kq v9 w' => ∃ (sn : List Bool) (i : Int), v9 = .int .i64 i ∧ Aside0 (impl_IsHand.l0 kq sn l0 (l0.length : Int) i = some r) ∧ Aside0 (kq ≤ k) ∧ Aside0 (sn.length = 52) ∧ Aside0 (w'.heap[w.heap.size]? = some (.cells (bools sn).toArray 60 (0, 0))) ∧ Aside0 (Below w.heap.size w w'))
  case atStart => exact ⟨List.replicate 52 false, 0, rfl, H', ⟨Nat.le_refl _⟩, ⟨rfl⟩, HH, HB⟩
  case round =>
    clear H' HH HB
    obtain ⟨sn, i, rfl, HA, HK1, HL, HH, HB⟩ := hrel
    cases gk with
    | zero => exact absurd HA.out (by simp [impl_IsHand.l0])
    | succ k1 =>
      have H := HA.out
      clear HA
      simp only [impl_IsHand.l0] at H
      by_cases c1 : i < (l0.length : Int)
      · rw [if_pos c1] at H
        by_cases c2 : 0 ≤ i
        · rw [if_pos c2, if_pos c1] at H
          have H2 := Option.bind_eq_some_iff.mp H
          clear H
          obtain ⟨t, A4, H⟩ := H2
          have A4 := Aside0.mk A4
          obtain ⟨ad, e, hx⟩ := Kd.at_int HR0.out i c2 c1
          cases e
          replace hx := pw_cell_below HB.out hx
          have c1b : decide (i < (l0.length : Int)) = true := decide_eq_true c1
          have c2b : decide (0 ≤ i) = true := decide_eq_true c2
          replace c1 := eq_true c1
          replace c2 := eq_true c2
          cases t with
          | false =>
            have H3 : some false = some r := by simpa using H
            clear H
            obtain rfl := Option.some.inj H3
            go_wp2_with (go_at_call 51; (with_reducible refine (impl_IsCard.calls (rd l0 i) false _ A4.out).mono ?_); rintro e w' ⟨rfl, ⟨nd, rfl⟩⟩)
            go_ret
            exact ⟨rfl, pw_below_drewN HB.out nd⟩
          | true =>
            obtain ⟨d0, d1⟩ := impl_IsHand.card_ A4.out
            have hn : (rd l0 i).toNat < sn.length := by have := HL.out; omega
            have hs := (blk_cell HH.out (rd l0 i).toNat).trans (impl_IsHand.at_ sn _ hn)
            have hf := blk_frozen HH.out (rd l0 i).toNat
            by_cases c3 : sn.getD (rd l0 i).toNat false = true
            · have H3 : some false = some r := by rw [if_pos rfl, if_pos c3] at H; exact H
              clear H
              obtain rfl := Option.some.inj H3
              rw [c3] at hs
              clear c3
              go_wp2_with (go_at_call 51; (with_reducible refine (impl_IsCard.calls (rd l0 i) true _ A4.out).mono ?_); rintro e w' ⟨rfl, ⟨nd, rfl⟩⟩)
              go_ret
              exact ⟨rfl, pw_below_drewN HB.out nd⟩
            · have H3 : impl_IsHand.l0 k1 (sn.set (rd l0 i).toNat true) l0 (l0.length : Int) (wrap64 (i + 1)) = some r := by rw [if_pos rfl, if_neg c3] at H; exact H
              clear H
              have H' := Aside0.mk H3
              clear H3
              rw [Bool.eq_false_iff.2 c3] at hs
              clear c3
              have HS := Aside0.mk hn
              clear hn
              go_wp2_with (go_at_call 51; (with_reducible refine (impl_IsCard.calls (rd l0 i) true _ A4.out).mono ?_); rintro e w' ⟨rfl, ⟨nd, rfl⟩⟩)
              go_roundg k1
              case measure => have := HK1.out; omega
              case rel => exact ⟨sn.set (rd l0 i).toNat true, wrap64 (i + 1), rfl, H', ⟨by have := HK1.out; omega⟩, ⟨by simpa using HL.out⟩, ⟨by rw [← impl_IsHand.set_]; exact blk_set (blk_drewN HH.out nd) _ _⟩, ⟨below_set (pw_below_drewN HB.out nd) (Nat.le_refl _)⟩⟩
        · rw [if_neg c2] at H
          exact absurd H (by simp)
      · rw [if_neg c1] at H
        have c1b : decide (i < (l0.length : Int)) = false := decide_eq_false c1
        obtain rfl := Option.some.inj H
        clear H c1
        go_wp2
        go_ret
        exact ⟨rfl, HB.out⟩

/-! ### impl_Missing: function 26 -/
def impl_Missing.l0 : Nat → List Int → List Int → Int → Option (List Int)
  | 0, _, _, _ => none
  | k + 1, x0, x3, x6 => if x6 < 52 then ((impl_HasCard.f k x0 x6).bind fun t208 => (if t208 = true then (impl_Missing.l0 k x0 x3 (wrap64 (x6 + 1))) else (if x3.length < 17592186044416 then (impl_Missing.l0 k x0 (x3 ++ [x6]) (wrap64 (x6 + 1))) else (none)))) else (some x3)
def impl_Missing.f (k : Nat) (l0 : List Int) : Option (List Int) := impl_Missing.l0 k l0 (([] : List Int)) 0
theorem impl_Missing.mono_l : ∀ k, (∀ y0 y1 y2, LeO (impl_Missing.l0 k y0 y1 y2) (impl_Missing.l0 (k + 1) y0 y1 y2))
  | 0 => fun _ _ _ r h => by simp [impl_Missing.l0] at h
  | k + 1 => by
    have ih0 := impl_Missing.mono_l k
    · intro y0 y1 y2
      unfold impl_Missing.l0
      repeat' first
      | (with_reducible exact ih0 _ _ _)
      | (with_reducible exact impl_HasCard.mono _ _ _)
      | (with_reducible exact LeO.refl _)
      | (with_reducible exact LeO.none _)
      | (with_reducible refine LeO.ite ?_ ?_)
      | (with_reducible refine LeO.bind ?_ (fun _ => ?_))
      | exact ih0 _ _ _
      | exact impl_HasCard.mono _ _ _
      | exact LeO.none _
      | refine LeO.ite ?_ ?_
      | refine LeO.bind ?_ (fun _ => ?_)
theorem impl_Missing.mono : ∀ a0 k, LeO (impl_Missing.f k a0) (impl_Missing.f (k + 1) a0) := by
  intro a0 k
  have ih0 := impl_Missing.mono_l k
  unfold impl_Missing.f
  repeat' first
      | (with_reducible exact ih0 _ _ _)
      | (with_reducible exact impl_HasCard.mono _ _ _)
      | (with_reducible exact LeO.refl _)
      | (with_reducible exact LeO.none _)
      | (with_reducible refine LeO.ite ?_ ?_)
      | (with_reducible refine LeO.bind ?_ (fun _ => ?_))
      | exact ih0 _ _ _
      | exact impl_HasCard.mono _ _ _
      | exact LeO.none _
      | refine LeO.ite ?_ ?_
      | refine LeO.bind ?_ (fun _ => ?_)
set_option maxHeartbeats 8000000 in
set_option maxRecDepth 100000 in
theorem impl_Missing.calls (k : Nat) (A0 : Option Addr) (c0 : Nat) (l0 : List Int) (r : List Int) (w : World) (hr0 : Kd.C (Kd.int .i64) w A0 l0.length l0) (hc0 : l0.length ≤ c0) (h : impl_Missing.f k l0 = some r) :
    Calls Try.prog 26 #[.slice A0 l0.length c0] w fun e w' => ∃ v0_ : Value, e = .returned (v0_) ∧ Kd.R (Kd.int .i64) 3 w' w.heap.size (fun _ => True) v0_ r ∧ Below w.heap.size w w' := by
  have HR0 := Aside0.mk hr0
  have HC0 := Aside0.mk hc0
  clear hr0 hc0
  have HB := Aside0.mk (Below.refl w.heap.size w)
  have H : (impl_Missing.l0 k l0 (([] : List Int)) 0) = some r := h
  clear h
  obtain ⟨y205, hy205⟩ : ∃ y_ : List Int, y_ = (([] : List Int)) := ⟨_, rfl⟩
  replace H : (impl_Missing.l0 k l0 y205 0) = some r := by first | (rw [hy205]; with_reducible exact H) | (have H2_ := (Option.bind_some _ _).symm.trans H; rw [hy205]; with_reducible exact H2_) | (have H2_ := (Option.bind_some _ _).symm.trans H; with_reducible exact H2_) | with_reducible exact H | (rw [hy205]; exact H) | exact H
  have Ny205 := Aside0.mk hy205
  clear hy205
  have H' := Aside0.mk H
  clear H
  go_enter Try.func26, Try.ntmps26
  go_wp2_with (first | ((with_reducible refine gate_dst (N := 5) rfl ?_); refine Kd.R_lit (Kd.int .i64) _ 3 ?hg (N := 5) ?hd (xs := ([] : List Int)) (inner := []) (ok := fun _ => True) (okp := fun _ => True) ?hr ?hp (fun _ hk => hk) trivial (Below.refl _ _) (Nat.le_refl _) (by simp) ?_; (case hd => rfl); (case hg => rfl); (case hr => first | (go_simp; done) | (go_simp; rfl)); (case hp => exact (Reps.none _ _)); intro v206 w2 ho3 hb hg_ hnew_; clear hg_ hnew_; (first | rw [← Ny205.out] at ho3 | (simp only [Int.reduceToNat] at ho3; rw [← Ny205.out] at ho3)); have n0_ := Aside0.mk (Kd.R_lower ho3 (below_size (by repeat (first | (with_reducible first | exact HB.out | apply below_alloc | apply pw_below_drewN | apply below_drew1) | exact HB.out)))); have n1_ := Aside0.mk (below_step (by repeat (first | (with_reducible first | exact HB.out | apply below_alloc | apply pw_below_drewN | apply below_drew1) | exact HB.out)) hb); clear HB; have HO207 := n0_; have HB := n1_; clear n0_ n1_; clear hb ho3))
  go_loopg [3, 6] k (fun kq v3 v6 w' => ∃ (x3_1 : List Int) (x6_1 : Int), v6 = .int .i64 x6_1 ∧ Aside0 (impl_Missing.l0 kq l0 x3_1 x6_1 = some r) ∧ Aside0 (kq ≤ k) ∧ Aside0 (Kd.R (Kd.int .i64) 3 w' w.heap.size (fun _ => True) v3 x3_1) ∧ Aside0 (Below w.heap.size w w'))
  case atStart => exact ⟨(y205), (0), (by first | rfl | (simp; done) | (simp [*]; done)), H', ⟨Nat.le_refl _⟩, ⟨by (with_reducible repeat (first | apply Kd.R_alloc | apply Kd.R_drewN | apply Kd.R_drew)); exact HO207.out⟩, ⟨by repeat (first | (with_reducible first | exact HB.out | apply below_alloc | apply pw_below_drewN | apply below_drew1) | exact HB.out)⟩⟩
  case round =>
    clear H'
    try clear c2
    try clear p2
    obtain ⟨x3_1, x6_1, rfl, HA, HK1, HO_3, HB⟩ := hrel
    cases gk with
    | zero => exact absurd HA.out (by simp [impl_Missing.l0])
    | succ k1 =>
      have H := HA.out
      clear HA
      simp only [impl_Missing.l0] at H
      by_cases c4 : x6_1 < 52
      · rw [if_pos c4] at H
        have c4b0 : decide (x6_1 < 52) = true := decide_eq_true c4
        clear c4
        replace H := Option.bind_eq_some_iff.mp H
        obtain ⟨t208, A50, H⟩ := H
        replace H : (if t208 = true then (impl_Missing.l0 k1 l0 x3_1 (wrap64 (x6_1 + 1))) else (if x3_1.length < 17592186044416 then (impl_Missing.l0 k1 l0 (x3_1 ++ [x6_1]) (wrap64 (x6_1 + 1))) else (none))) = some r := H
        have A5 := Aside0.mk A50
        clear A50
        by_cases c6 : t208 = true
        · subst c6
          have H1 : (impl_Missing.l0 k1 l0 x3_1 (wrap64 (x6_1 + 1))) = some r := by rw [if_pos rfl] at H; exact H
          clear H
          have H := H1
          clear H1
          have H' := Aside0.mk H
          clear H
          go_wp2_with (first | ((with_reducible refine gate_callee (f := 23) rfl ?_); refine goesL_ (some 11) rfl rfl Try.func23 (by kernel_rfl) rfl #[.slice A0 l0.length c0, .int .i64 x6_1] rfl (by (try simp only [List.map_toArray, List.map_cons, List.map_nil]); first | done | rfl | (simp only [List.length_drop, List.length_take]; rfl)) ?_; (with_reducible refine (impl_HasCard.calls k1 _ _ l0 x6_1 true _ ?side1 ?side2 A5.out).mono ?_); (case side1 => repeat (first | exact (Kd.C_below HR0.out HB.out) | (with_reducible refine Kd.C_alloc ?_ _) | (with_reducible refine Kd.C_drewN ?_ _) | (with_reducible refine Kd.C_drew ?_))); (case side2 => exact HC0.out); rintro e w' ⟨rfl, ⟨nd, rfl⟩⟩; refine ⟨_, rfl, ?_⟩))
          go_roundg k1
          case measure => have := HK1.out; omega
          case rel => exact ⟨(x3_1), (wrap64 (x6_1 + 1)), (by first | rfl | (simp; done) | (simp [*]; done)), H', ⟨by have := HK1.out; omega⟩, ⟨by (with_reducible repeat (first | apply Kd.R_alloc | apply Kd.R_drewN | apply Kd.R_drew)); exact HO_3.out⟩, ⟨by repeat (first | (with_reducible first | exact HB.out | apply below_alloc | apply pw_below_drewN | apply below_drew1) | exact HB.out)⟩⟩
        · replace c6 := Bool.eq_false_iff.mpr c6
          subst c6
          have H1 : (if x3_1.length < 17592186044416 then (impl_Missing.l0 k1 l0 (x3_1 ++ [x6_1]) (wrap64 (x6_1 + 1))) else (none)) = some r := by rw [if_neg (show ¬ (false = true) by decide)] at H; exact H
          clear H
          have H := H1
          clear H1
          by_cases c7 : x3_1.length < 17592186044416
          · rw [if_pos c7] at H
            have LMc7 := Aside0.mk c7
            clear c7
            obtain ⟨y209, hy209⟩ : ∃ y_ : List Int, y_ = (x3_1 ++ [x6_1]) := ⟨_, rfl⟩
            replace H : (impl_Missing.l0 k1 l0 y209 (wrap64 (x6_1 + 1))) = some r := by first | (rw [hy209]; with_reducible exact H) | (have H2_ := (Option.bind_some _ _).symm.trans H; rw [hy209]; with_reducible exact H2_) | (have H2_ := (Option.bind_some _ _).symm.trans H; with_reducible exact H2_) | with_reducible exact H | (rw [hy209]; exact H) | exact H
            have Ny209 := Aside0.mk hy209
            clear hy209
            have H' := Aside0.mk H
            clear H
            go_wp2_with (first | ((with_reducible refine gate_callee (f := 23) rfl ?_); refine goesL_ (some 11) rfl rfl Try.func23 (by kernel_rfl) rfl #[.slice A0 l0.length c0, .int .i64 x6_1] rfl (by (try simp only [List.map_toArray, List.map_cons, List.map_nil]); first | done | rfl | (simp only [List.length_drop, List.length_take]; rfl)) ?_; (with_reducible refine (impl_HasCard.calls k1 _ _ l0 x6_1 false _ ?side1 ?side2 A5.out).mono ?_); (case side1 => repeat (first | exact (Kd.C_below HR0.out HB.out) | (with_reducible refine Kd.C_alloc ?_ _) | (with_reducible refine Kd.C_drewN ?_ _) | (with_reducible refine Kd.C_drew ?_))); (case side2 => exact HC0.out); rintro e w' ⟨rfl, ⟨nd, rfl⟩⟩; refine ⟨_, rfl, ?_⟩) | ((with_reducible refine gate_builtin (b := .append) (xs := #[.tmp 13, .tmp 15]) rfl ?_); at_builtin; refine Kd.R_append (Kd.int .i64) (w0 := w) w.heap.size rfl (.tmp 13) (.tmp 15) 30 3 (.int .i64 0) 8 rfl Try.underlying30 info3 rfl (by decide) (by omega) u3 x3_1 x6_1 [.int .i64 x6_1] (fun _ => True) (fun _ => False) rfl rfl ?aP (fun _ hk => hk.elim) ?aF ?aO ?aB ?aS ?aL ?_; (case aP => exact rfl); (case aB => exact (by repeat (first | (with_reducible first | exact HB.out | apply below_alloc | apply pw_below_drewN | apply below_drew1) | exact HB.out))); (case aF => exact (fun _ _ => trivial)); (case aO => exact (by (with_reducible repeat (first | apply Kd.R_alloc | apply Kd.R_drewN | apply Kd.R_drew)); exact HO_3.out)); (case aS => exact (below_size (by repeat (first | (with_reducible first | exact HB.out | apply below_alloc | apply pw_below_drewN | apply below_drew1) | exact HB.out)))); (case aL => have := LMc7.out; omega); intro v210 w8 ho hb hg hat; rw [← Ny209.out] at ho; have n0_ := Aside0.mk (hb); have n1_ := Aside0.mk (ho); clear HB; clear HO_3; have HB := n0_; have HO211 := n1_; clear n0_ n1_; clear ho hb hg hat))
            go_roundg k1
            case measure => have := HK1.out; omega
            case rel => exact ⟨(y209), (wrap64 (x6_1 + 1)), (by first | rfl | (simp; done) | (simp [*]; done)), H', ⟨by have := HK1.out; omega⟩, ⟨by (with_reducible repeat (first | apply Kd.R_alloc | apply Kd.R_drewN | apply Kd.R_drew)); exact HO211.out⟩, ⟨by repeat (first | (with_reducible first | exact HB.out | apply below_alloc | apply pw_below_drewN | apply below_drew1) | exact HB.out)⟩⟩
          · rw [if_neg c7] at H
            exact absurd H (by simp)
      · rw [if_neg c4] at H
        have c4b0 : decide (x6_1 < 52) = false := decide_eq_false c4
        clear c4
        obtain rfl := Option.some.inj H
        go_wp2
        go_ret
        exact ⟨_, by first | rfl | (simp [errW_none, errW_some] <;> rfl) | (simp [*, errW_none, errW_some] <;> rfl), by (with_reducible repeat (first | apply Kd.R_alloc | apply Kd.R_drewN | apply Kd.R_drew)); exact HO_3.out, by repeat (first | (with_reducible first | exact HB.out | apply below_alloc | apply pw_below_drewN | apply below_drew1) | exact HB.out)⟩

end Go.Proofs.Ytbjecehiappdead.QFnHands
