/- The law DigraphMatchesReference of package digraph holds for every input: what it is called with is opened, the printed text of the law and its plain proof are joined. (Part 5 of 6 of its proof.) -/
import Derived.Test.YtlldjinejckbaaaZ03
set_option linter.unusedVariables false
set_option linter.unusedSimpArgs false
section
namespace Go.Proofs.Ytlldjinejckbaaa.PD
open Go.RowKit Go.Proofs.YtlldjinejckbaaaW.PrintWords Go.Proofs.YtlldjinejckbaaaW.PrintLast Go.Proofs.YtlldjinejckbaaaW.PrintMore
attribute [local go_sem] max2_int min2_int max_two min_two max_three min_three max_four min_four
set_option linter.unusedVariables false
set_option linter.unusedSimpArgs false
mutual
def wireloomref05_Components.l0 : Nat → Int → List (S55) → List (List Int) → Int → Option ((List (List Int)))
 | 0, _, _, _, _ => none
 | k + 1, x0, x1, x5, x6 => if x6 < x0 then ((wireloomref05_Reach.f k x0 x1 x6).bind fun t374 => (if x5.length < 5864062014805 then (wireloomref05_Components.l0 k x0 x1 (x5 ++ [t374]) (wrap64 (x6 + 1))) else (none))) else (if 0 ≤ x0 then (if (x0 : Int).toNat ≤ 281474976710656 then (wireloomref05_Components.l1 k x0 x5 (([] : List (List Int))) (List.replicate (x0 : Int).toNat false) 0) else (none)) else (none))
def wireloomref05_Components.l1 : Nat → Int → List (List Int) → List (List Int) → List Bool → Int → Option ((List (List Int)))
 | 0, _, _, _, _, _ => none
 | k + 1, x0, x5, x7, x8, x9 => if x9 < x0 then (if 0 ≤ x9 then (if x9 < (x8.length : Int) then (if rdOf false x8 x9 = true then (wireloomref05_Components.l1 k x0 x5 x7 x8 (wrap64 (x9 + 1))) else (wireloomref05_Components.l2 k x0 x5 x7 x8 x9 (([] : List Int)) x9)) else (none)) else (none)) else (some x7)
def wireloomref05_Components.l2 : Nat → Int → List (List Int) → List (List Int) → List Bool → Int → List Int → Int → Option ((List (List Int)))
 | 0, _, _, _, _, _, _, _ => none
 | k + 1, x0, x5, x7, x8, x9, x10, x11 => if x11 < x0 then (if 0 ≤ x9 then (if x9 < (x5.length : Int) then ((wireloomref05_In.f k (rd_L2 x5 x9) x11).bind fun t394 => (if t394 = true then (if 0 ≤ x11 then (if x11 < (x5.length : Int) then ((wireloomref05_In.f k (rd_L2 x5 x11) x9).bind fun t396 => (if t396 = true then (if x10.length < 17592186044416 then (if x11 < (x8.length : Int) then (wireloomref05_Components.l2 k x0 x5 x7 (x8.set (x11 : Int).toNat true) x9 (x10 ++ [x11]) (wrap64 (x11 + 1))) else (none)) else (none)) else (wireloomref05_Components.l2 k x0 x5 x7 x8 x9 x10 (wrap64 (x11 + 1))))) else (none)) else (none)) else (wireloomref05_Components.l2 k x0 x5 x7 x8 x9 x10 (wrap64 (x11 + 1))))) else (none)) else (none)) else (if x7.length < 5864062014805 then (wireloomref05_Components.l1 k x0 x5 (x7 ++ [x10]) x8 (wrap64 (x9 + 1))) else (none))
end
def wireloomref05_Components.f (k : Nat) (a0 : Int) (l1 : List (S55)) : Option ((List (List Int))) := wireloomref05_Components.l0 k a0 l1 (([] : List (List Int))) 0
set_option maxHeartbeats 8000000 in
set_option maxRecDepth 100000 in
theorem wireloomref05_Components.calls (k : Nat) (a0 : Int) (A1 : Option Addr) (c1 : Nat) (l1 : List (S55)) (r : List (List Int)) (w : World) (hr1 : Kd.C k55 w A1 l1.length l1) (hc1 : l1.length ≤ c1) (h : wireloomref05_Components.f k a0 l1 = some r) :
  Calls Try.prog 28 #[.int .i64 a0, .slice A1 l1.length c1] w fun e w' => ∃ v0_ : Value, e = .returned (v0_) ∧ Kd.S (Kd.slice 3 (Kd.int .i64)) 26 w' w.heap.size (fun _ => True) v0_ r ∧ Below w.heap.size w w' := by
 have HR1 := Aside0.mk hr1
 have HC1 := Aside0.mk hc1
 clear hr1 hc1
 have HB := Aside0.mk (Below.refl w.heap.size w)
 have H : (wireloomref05_Components.l0 k a0 l1 (([] : List (List Int))) 0) = some r := h
 clear h
 obtain ⟨y371, hy371⟩ : ∃ y_ : List (List Int), y_ = (([] : List (List Int))) := ⟨_, rfl⟩
 replace H : (wireloomref05_Components.l0 k a0 l1 y371 0) = some r := by first | (rw [hy371]; with_reducible exact H) | (have H2_ := (Option.bind_some _ _).symm.trans H; rw [hy371]; with_reducible exact H2_) | (have H2_ := (Option.bind_some _ _).symm.trans H; with_reducible exact H2_) | with_reducible exact H | (rw [hy371]; exact H) | exact H
 have Ny371 := Aside0.mk hy371
 clear hy371
 have H' := Aside0.mk H
 clear H
 go_enter Try.func28, Try.ntmps28
 go_wp2_with (first | ((with_reducible refine gate_dst (N := 12) rfl ?_); refine Kd.S_lit (Kd.slice 3 (Kd.int .i64)) _ 26 ?hg (N := 12) ?hd (xs := ([] : List (List Int))) (inner := []) (ok := fun _ => True) (okp := fun _ => True) ?hr ?hp (fun _ hk => hk) trivial (Below.refl _ _) (Nat.le_refl _) (by simp) ?_; (case hd => rfl); (case hg => rfl); (case hr => first | (go_simp; done) | (go_simp; rfl)); (case hp => exact (Reps.none _ _)); intro v372 w3 ho4 hb hg_ hnew_; clear hg_ hnew_; (first | rw [← Ny371.out] at ho4 | (simp only [Int.reduceToNat] at ho4; rw [← Ny371.out] at ho4)); have HO373 := Aside0.mk (Kd.S_lower ho4 (below_size (wB0 HB.out))); replace HB := Aside0.mk (below_step (wB0 HB.out) hb); clear hb ho4))
 go_loopg [5, 6] k (fun kq v5 v6 w' => ∃ (x5_1 : List (List Int)) (x6_1 : Int), v6 = .int .i64 x6_1 ∧ Aside0 (wireloomref05_Components.l0 kq a0 l1 x5_1 x6_1 = some r) ∧ Aside0 (kq ≤ k) ∧ Aside0 (Kd.S (Kd.slice 3 (Kd.int .i64)) 26 w' w.heap.size (fun _ => True) v5 x5_1) ∧ Aside0 (Below w.heap.size w w'))
 case atStart => exact ⟨(y371), (0), rS, H', ⟨Nat.le_refl _⟩, ⟨sA HO373.out⟩, ⟨wB0 HB.out⟩⟩
 case round =>
  clear H'
  try clear c1; try clear c2; try clear p2
  obtain ⟨x5_1, x6_1, rfl, HA, HK1, HO_5, HB⟩ := hrel
  cases gk with
  | zero => exact absurd HA.out (by simp [wireloomref05_Components.l0])
  | succ k1 =>
   have H := HA.out
   clear HA
   simp only [wireloomref05_Components.l0] at H
   by_cases c5 : x6_1 < a0
   ·rw [if_pos c5] at H
    have c5b0 : decide (x6_1 < a0) = true := decide_eq_true c5
    clear c5
    replace H := Option.bind_eq_some_iff.mp H
    obtain ⟨t374, A60, H⟩ := H
    replace H : (if x5_1.length < 5864062014805 then (wireloomref05_Components.l0 k1 a0 l1 (x5_1 ++ [t374]) (wrap64 (x6_1 + 1))) else (none)) = some r := H
    have A6 := Aside0.mk A60
    clear A60
    by_cases c7 : x5_1.length < 5864062014805
    rotate_left
    ·rw [if_neg c7] at H
     exact absurd H (by simp)
    rw [if_pos c7] at H
    have LMc7 := Aside0.mk c7
    clear c7
    obtain ⟨y377, hy377⟩ : ∃ y_ : List (List Int), y_ = (x5_1 ++ [t374]) := ⟨_, rfl⟩
    replace H : (wireloomref05_Components.l0 k1 a0 l1 y377 (wrap64 (x6_1 + 1))) = some r := by first | (rw [hy377]; with_reducible exact H) | (have H2_ := (Option.bind_some _ _).symm.trans H; rw [hy377]; with_reducible exact H2_) | (have H2_ := (Option.bind_some _ _).symm.trans H; with_reducible exact H2_) | with_reducible exact H | (rw [hy377]; exact H) | exact H
    have Ny377 := Aside0.mk hy377
    clear hy377
    have H' := Aside0.mk H
    clear H
    go_wp2_with (first | ((with_reducible refine gate_callee (f := 25) rfl ?_); refine goesL_ (some 22) rfl rfl Try.func25 (by kernel_rfl) rfl #[.int .i64 a0, .slice A1 l1.length c1, .int .i64 x6_1] rfl (by (try simp only [List.map_toArray, List.map_cons, List.map_nil]); first | done | rfl | (simp only [List.length_drop, List.length_take]; rfl)) ?_; (with_reducible refine (wireloomref05_Reach.calls k1 a0 _ _ l1 x6_1 t374 _ ?side1 ?side2 A6.out).mono ?_); (case side1 => exact cA (Kd.C_below HR1.out HB.out)); (case side2 => exact HC1.out); rintro e w8 ⟨v375, rfl, ho0, hb⟩; refine ⟨_, rfl, ?_⟩; replace HO_5 := Aside0.mk (Kd.S_elder' (sA HO_5.out) (Kd.R_base ho0) hb); have HO376 := Aside0.mk (Kd.R_lower ho0 (below_size (wB0 HB.out))); replace HB := Aside0.mk (below_step (wB0 HB.out) hb); (try clear hb); (try clear hb2); (try clear hk); (try clear hi); (try clear ho0); obtain ⟨Ao10, co10, eo10⟩ := Kd.R_slice HO376.out; subst eo10) | ((with_reducible refine gate_builtin (b := .append) (xs := #[.tmp 18, .tmp 23]) rfl ?_); at_builtin; refine Kd.S_append (Kd.slice 3 (Kd.int .i64)) (w0 := w) w.heap.size rfl (.tmp 18) (.tmp 23) 44 26 (.slice none 0 0) 24 rfl Try.underlying44 info26 rfl (by decide) (by omega) u5 x5_1 t374 [.slice Ao10 t374.length co10] (fun _ => True) (fun k_ => some k_ = (.slice Ao10 t374.length co10 : Value).ownBlock) rfl rfl ?aP (fun k_ hk_ => ((Kd.R_mono (ok' := fun k_ => ((fun _ => True)) k_ ∧ some k_ ≠ (u5 : Value).ownBlock) (Kd.R_apart' (HO376.out) (Kd.S_typed HO_5.out) (by decide)) (fun k_ hk => ⟨trivial, hk.2⟩))).1 k_ hk_.symm) ?aF ?aO ?aB ?aS ?aL ?_; (case aP => exact Kd.M_row (Kd.R_mono (Kd.R_tight rfl (Kd.R_mono (ok' := fun k_ => ((fun _ => True)) k_ ∧ some k_ ≠ (u5 : Value).ownBlock) (Kd.R_apart' (HO376.out) (Kd.S_typed HO_5.out) (by decide)) (fun k_ hk => ⟨trivial, hk.2⟩))) (fun _ h_ => h_))); (case aB => exact (wB0 HB.out)); (case aF => exact (fun _ _ => trivial)); (case aO => exact (by (with_reducible repeat (first | apply Kd.S_alloc | apply Kd.S_drewN | apply Kd.S_drew)); exact Kd.S_mono HO_5.out (fun k_ hk => ⟨trivial, fun e_ => hk.2 e_⟩))); (case aS => exact (below_size (wB0 HB.out))); (case aL => have := LMc7.out; omega); intro v378 w9 ho hb hg hat; rw [← Ny377.out] at ho; replace HB := Aside0.mk (hb); have HO379 := Aside0.mk (ho); clear HO_5 HO376; clear ho hb hg hat))
    go_roundg k1
    case measure => have := HK1.out; omega
    case rel => exact ⟨(y377), (wrap64 (x6_1 + 1)), rS, H', ⟨by have := HK1.out; omega⟩, ⟨sA HO379.out⟩, ⟨wB0 HB.out⟩⟩
   ·rw [if_neg c5] at H
    have c5b0 : decide (x6_1 < a0) = false := decide_eq_false c5
    clear c5
    obtain ⟨y380, hy380⟩ : ∃ y_ : List (List Int), y_ = (([] : List (List Int))) := ⟨_, rfl⟩
    replace H : (if 0 ≤ a0 then (if (a0 : Int).toNat ≤ 281474976710656 then (wireloomref05_Components.l1 k1 a0 x5_1 y380 (List.replicate (a0 : Int).toNat false) 0) else (none)) else (none)) = some r := by first | (rw [hy380]; with_reducible exact H) | (have H2_ := (Option.bind_some _ _).symm.trans H; rw [hy380]; with_reducible exact H2_) | (have H2_ := (Option.bind_some _ _).symm.trans H; with_reducible exact H2_) | with_reducible exact H | (rw [hy380]; exact H) | exact H
    have Ny380 := Aside0.mk hy380
    clear hy380
    by_cases c11 : 0 ≤ a0
    rotate_left
    ·rw [if_neg c11] at H
     exact absurd H (by simp)
    rw [if_pos c11] at H
    have c11b0 := eq_true c11
    have c11b1 : decide (0 ≤ a0) = true := decide_eq_true c11
    clear c11
    by_cases c12 : (a0 : Int).toNat ≤ 281474976710656
    rotate_left
    ·rw [if_neg c12] at H
     exact absurd H (by simp)
    rw [if_pos c12] at H
    have c12b0 := eq_true c12
    have c12b1 : decide ((a0 : Int).toNat ≤ 281474976710656) = true := decide_eq_true c12
    clear c12
    obtain ⟨y383, hy383⟩ : ∃ y_ : List Bool, y_ = (List.replicate (a0 : Int).toNat false) := ⟨_, rfl⟩
    replace H : (wireloomref05_Components.l1 k1 a0 x5_1 y380 y383 0) = some r := by first | (rw [hy383]; with_reducible exact H) | (have H2_ := (Option.bind_some _ _).symm.trans H; rw [hy383]; with_reducible exact H2_) | (have H2_ := (Option.bind_some _ _).symm.trans H; with_reducible exact H2_) | with_reducible exact H | (rw [hy383]; exact H) | exact H
    have Ny383 := Aside0.mk hy383
    clear hy383
    have H' := Aside0.mk H
    clear H
    go_wp2_with (first | ((with_reducible refine gate_dst (N := 25) rfl ?_); refine Kd.S_lit (Kd.slice 3 (Kd.int .i64)) _ 26 ?hg (N := 25) ?hd (xs := ([] : List (List Int))) (inner := []) (ok := fun _ => True) (okp := fun _ => True) ?hr ?hp (fun _ hk => hk) trivial (Below.refl _ _) (Nat.le_refl _) (by simp) ?_; (case hd => rfl); (case hg => rfl); (case hr => first | (go_simp; done) | (go_simp; rfl)); (case hp => exact (Reps.none _ _)); intro v381 w13 ho14 hb hg_ hnew_; clear hg_ hnew_; (first | rw [← Ny380.out] at ho14 | (simp only [Int.reduceToNat] at ho14; rw [← Ny380.out] at ho14)); have HO382 := Aside0.mk (Kd.S_lower (Kd.S_new' ho14 (Kd.S_lt (sA HO_5.out))) (below_size (wB0 HB.out))); replace HO_5 := Aside0.mk (Kd.S_elder' (sA HO_5.out) (Kd.S_base ho14) hb); replace HB := Aside0.mk (below_step (wB0 HB.out) hb); clear hb ho14) | ((with_reducible refine gate_dst (N := 27) rfl ?_); refine Kd.R_make Kd.bool _ 4 rfl (N := 27) rfl 49 _ _ rfl a0 rfl rfl Try.underlying49 (.bool false) 1 info4 rfl (by decide) (by omega) false (ok := fun _ => True) (okp := fun _ => True) rfl (fun _ hk => hk) trivial oD (Nat.le_trans (Nat.mul_le_mul_right _ (oD : a0.toNat ≤ 281474976710656)) (by omega)) (Below.refl _ _) (Nat.le_refl _) ?_; intro v384 w15 ho16 hb hg_ hnew_; clear hg_ hnew_; (first | rw [← Ny383.out] at ho16 | (simp only [Int.reduceToNat] at ho16; rw [← Ny383.out] at ho16)); replace HO_5 := Aside0.mk (Kd.S_below (sA HO_5.out) hb); replace HO382 := Aside0.mk (Kd.S_below (sA HO382.out) hb); have HO385 := Aside0.mk (Kd.R_lower ho16 (below_size (wB0 HB.out))); replace HB := Aside0.mk (below_step (wB0 HB.out) hb); clear hb ho16))
    go_loopg [7, 9] k1 (fun kq v7 v9 w' => ∃ (x7_2 : List (List Int)) (x8_2 : List Bool) (x9_2 : Int), v9 = .int .i64 x9_2 ∧ Aside0 (wireloomref05_Components.l1 kq a0 x5_1 x7_2 x8_2 x9_2 = some r) ∧ Aside0 (kq ≤ k1) ∧ Aside0 (Kd.S (Kd.slice 3 (Kd.int .i64)) 26 w' w.heap.size (fun k_ => some k_ ≠ (v7 : Value).ownBlock) u5 x5_1) ∧ Aside0 (Kd.S (Kd.slice 3 (Kd.int .i64)) 26 w' w.heap.size (fun k_ => some k_ ≠ (u5 : Value).ownBlock) v7 x7_2) ∧ Aside0 (Kd.R Kd.bool 4 w' w.heap.size (fun _ => True) v384 x8_2) ∧ Aside0 (Below w.heap.size w w'))
    case atStart => exact ⟨(y380), (y383), (0), rS, H', ⟨Nat.le_refl _⟩, ⟨by (with_reducible repeat (first | apply Kd.S_alloc | apply Kd.S_drewN | apply Kd.S_drew)); exact Kd.S_mono HO_5.out (fun _ hk => hk.2)⟩, ⟨by (with_reducible repeat (first | apply Kd.S_alloc | apply Kd.S_drewN | apply Kd.S_drew)); exact Kd.S_mono HO382.out (fun _ hk => hk.2)⟩, ⟨rA HO385.out⟩, ⟨wB0 HB.out⟩⟩
    case round =>
     clear H'
     try clear c1; try clear c2; try clear p2; try clear c5; try clear c5b0; try clear p6; try clear c7; try clear c11; try clear c11b0; try clear c11b1; try clear c12; try clear c12b0; try clear c12b1; try clear p2
     obtain ⟨x7_2, x8_2, x9_2, rfl, HA, HK2, HO_5, HO_7, HO_8, HB⟩ := hrel
     cases gk with
     | zero => exact absurd HA.out (by simp [wireloomref05_Components.l1])
     | succ k2 =>
      have H := HA.out
      clear HA
      simp only [wireloomref05_Components.l1] at H
      by_cases c17 : x9_2 < a0
      ·rw [if_pos c17] at H
       have c17b0 : decide (x9_2 < a0) = true := decide_eq_true c17
       clear c17
       by_cases c18 : 0 ≤ x9_2
       rotate_left
       ·rw [if_neg c18] at H
        exact absurd H (by simp)
       rw [if_pos c18] at H
       have c18b0 : decide (0 ≤ x9_2) = true := decide_eq_true c18
       clear c18
       by_cases c19 : x9_2 < (x8_2.length : Int)
       rotate_left
       ·rw [if_neg c19] at H
        exact absurd H (by simp)
       rw [if_pos c19] at H
       have c19b0 : decide (x9_2 < (x8_2.length : Int)) = true := decide_eq_true c19
       clear c19
       obtain ⟨bq20, hbq20⟩ : ∃ b_ : Bool, b_ = (rdOf false x8_2 x9_2) := ⟨_, rfl⟩
       replace H : (if bq20 = true then (wireloomref05_Components.l1 k2 a0 x5_1 x7_2 x8_2 (wrap64 (x9_2 + 1))) else (wireloomref05_Components.l2 k2 a0 x5_1 x7_2 x8_2 x9_2 (([] : List Int)) x9_2)) = some r := by rw [← hbq20] at H; exact H
       have Nbq20 := Aside0.mk hbq20
       clear hbq20
       by_cases c21 : bq20 = true
       ·subst c21
        have H1 : (wireloomref05_Components.l1 k2 a0 x5_1 x7_2 x8_2 (wrap64 (x9_2 + 1))) = some r := by rw [if_pos rfl] at H; exact H
        clear H
        have H := H1
        clear H1
        have H' := Aside0.mk H
        clear H
        obtain ⟨Ao22, co22, eo22⟩ := Kd.R_slice HO_8.out
        subst eo22
        have p386 : 0 ≤ (x9_2 : Int) := oD
        have q386 : x9_2 < (x8_2.length : Int) := oD
        obtain ⟨ad386, e386, hx386_0⟩ := Kd.at_bool (Kd.R_reads' HO_8.out).2.2 x9_2 p386 q386
        (try rw [← Nbq20.out] at hx386_0)
        cases e386
        replace p386 := eq_true p386
        replace q386 := eq_true q386
        go_wp2
        go_roundg k2
        case measure => have := HK1.out; have := HK2.out; omega
        case rel => exact ⟨(x7_2), (x8_2), (wrap64 (x9_2 + 1)), rS, H', ⟨by have := HK1.out; have := HK2.out; omega⟩, ⟨sA HO_5.out⟩, ⟨sA HO_7.out⟩, ⟨rA HO_8.out⟩, ⟨wB0 HB.out⟩⟩
       ·replace c21 := Bool.eq_false_iff.mpr c21
        subst c21
        have H1 : (wireloomref05_Components.l2 k2 a0 x5_1 x7_2 x8_2 x9_2 (([] : List Int)) x9_2) = some r := by rw [if_neg (show ¬ (false = true) by decide)] at H; exact H
        clear H
        have H := H1
        clear H1
        obtain ⟨y387, hy387⟩ : ∃ y_ : List Int, y_ = (([] : List Int)) := ⟨_, rfl⟩
        replace H : (wireloomref05_Components.l2 k2 a0 x5_1 x7_2 x8_2 x9_2 y387 x9_2) = some r := by first | (rw [hy387]; with_reducible exact H) | (have H2_ := (Option.bind_some _ _).symm.trans H; rw [hy387]; with_reducible exact H2_) | (have H2_ := (Option.bind_some _ _).symm.trans H; with_reducible exact H2_) | with_reducible exact H | (rw [hy387]; exact H) | exact H
        have Ny387 := Aside0.mk hy387
        clear hy387
        have H' := Aside0.mk H
        clear H
        obtain ⟨Ao23, co23, eo23⟩ := Kd.R_slice HO_8.out
        subst eo23
        have p386 : 0 ≤ (x9_2 : Int) := oD
        have q386 : x9_2 < (x8_2.length : Int) := oD
        obtain ⟨ad386, e386, hx386_0⟩ := Kd.at_bool (Kd.R_reads' HO_8.out).2.2 x9_2 p386 q386
        (try rw [← Nbq20.out] at hx386_0)
        cases e386
        replace p386 := eq_true p386
        replace q386 := eq_true q386
        go_wp2_with (first | ((with_reducible refine gate_dst (N := 37) rfl ?_); refine Kd.R_lit (Kd.int .i64) _ 3 ?hg (N := 37) ?hd (xs := ([] : List Int)) (inner := []) (ok := fun _ => True) (okp := fun _ => True) ?hr ?hp (fun _ hk => hk) trivial (Below.refl _ _) (Nat.le_refl _) (by simp) ?_; (case hd => rfl); (case hg => rfl); (case hr => first | (go_simp; done) | (go_simp; rfl)); (case hp => exact (Reps.none _ _)); intro v388 w24 ho25 hb hg_ hnew_; clear hg_ hnew_; (first | rw [← Ny387.out] at ho25 | (simp only [Int.reduceToNat] at ho25; rw [← Ny387.out] at ho25)); replace HO_5 := Aside0.mk (Kd.S_elder' (sA HO_5.out) (Kd.R_base ho25) hb); replace HO_7 := Aside0.mk (Kd.S_elder' (sA HO_7.out) (Kd.R_base ho25) hb); replace HO_8 := Aside0.mk (Kd.R_below (rA HO_8.out) hb); have HO389 := Aside0.mk (Kd.R_lower ho25 (below_size (wB0 HB.out))); replace HB := Aside0.mk (below_step (wB0 HB.out) hb); clear hb ho25))
        generalize (ad386.add (x9_2).toNat) = pp386
        go_loopg [10, 11] k2 (fun kq v10 v11 w' => ∃ (x8_3 : List Bool) (x10_3 : List Int) (x11_3 : Int), v11 = .int .i64 x11_3 ∧ Aside0 (wireloomref05_Components.l2 kq a0 x5_1 x7_2 x8_3 x9_2 x10_3 x11_3 = some r) ∧ Aside0 (kq ≤ k2) ∧ Aside0 (Kd.S (Kd.slice 3 (Kd.int .i64)) 26 w' w.heap.size (fun k_ => some k_ ≠ (u7 : Value).ownBlock ∧ some k_ ≠ (v10 : Value).ownBlock) u5 x5_1) ∧ Aside0 (Kd.S (Kd.slice 3 (Kd.int .i64)) 26 w' w.heap.size (fun k_ => some k_ ≠ (u5 : Value).ownBlock ∧ some k_ ≠ (v10 : Value).ownBlock) u7 x7_2) ∧ Aside0 (Kd.R Kd.bool 4 w' w.heap.size (fun _ => True) (.slice (some ad386) x8_2.length co23) x8_3) ∧ Aside0 (Kd.R (Kd.int .i64) 3 w' w.heap.size (fun _ => True) v10 x10_3) ∧ Aside0 (Below w.heap.size w w'))
        case atStart => exact ⟨(x8_2), (y387), (x9_2), rS, H', ⟨Nat.le_refl _⟩, ⟨sA HO_5.out⟩, ⟨sA HO_7.out⟩, ⟨rA HO_8.out⟩, ⟨rA HO389.out⟩, ⟨wB0 HB.out⟩⟩
        case round =>
         clear H'
         try clear c1; try clear c2; try clear p2; try clear q2; try clear p3; try clear q3; try clear hx3; try clear c5; try clear c5b0; try clear p6; try clear c7; try clear c11; try clear c11b0; try clear c11b1; try clear c12; try clear c12b0; try clear c12b1; try clear c17; try clear c17b0; try clear c18; try clear c18b0; try clear c19; try clear c19b0; try clear q20; try clear c21; try clear c25; try clear hx386_0; try clear p2; try clear p386; try clear p6; try clear q386
         obtain ⟨x8_3, x10_3, x11_3, rfl, HA, HK3, HO_5, HO_7, HO_8, HO_10, HB⟩ := hrel
         have hl8_3 := (Kd.R_reads' HO_8.out).1
         rw [hl8_3] at HO_8
         (try simp only [hl8_3])
         (try simp only [hl8_3] at HO_5)
         (try simp only [hl8_3] at HO_7)
         (try simp only [hl8_3] at HO_10)
         cases gk with
         | zero => exact absurd HA.out (by simp [wireloomref05_Components.l2])
         | succ k3 =>
          have H := HA.out
          clear HA
          simp only [wireloomref05_Components.l2] at H
          by_cases c26 : x11_3 < a0
          ·rw [if_pos c26] at H
           have c26b0 : decide (x11_3 < a0) = true := decide_eq_true c26
           clear c26
           by_cases c27 : 0 ≤ x9_2
           rotate_left
           ·rw [if_neg c27] at H
            exact absurd H (by simp)
           rw [if_pos c27] at H
           have c27b0 : decide (0 ≤ x9_2) = true := decide_eq_true c27
           clear c27
           by_cases c28 : x9_2 < (x5_1.length : Int)
           rotate_left
           ·rw [if_neg c28] at H
            exact absurd H (by simp)
           rw [if_pos c28] at H
           have c28b0 : decide (x9_2 < (x5_1.length : Int)) = true := decide_eq_true c28
           clear c28
           replace H := Option.bind_eq_some_iff.mp H
           obtain ⟨t394, A290, H⟩ := H
           replace H : (if t394 = true then (if 0 ≤ x11_3 then (if x11_3 < (x5_1.length : Int) then ((wireloomref05_In.f k3 (rd_L2 x5_1 x11_3) x9_2).bind fun t396 => (if t396 = true then (if x10_3.length < 17592186044416 then (if x11_3 < (x8_3.length : Int) then (wireloomref05_Components.l2 k3 a0 x5_1 x7_2 (x8_3.set (x11_3 : Int).toNat true) x9_2 (x10_3 ++ [x11_3]) (wrap64 (x11_3 + 1))) else (none)) else (none)) else (wireloomref05_Components.l2 k3 a0 x5_1 x7_2 x8_3 x9_2 x10_3 (wrap64 (x11_3 + 1))))) else (none)) else (none)) else (wireloomref05_Components.l2 k3 a0 x5_1 x7_2 x8_3 x9_2 x10_3 (wrap64 (x11_3 + 1)))) = some r := H
           have A29 := Aside0.mk A290
           clear A290
           by_cases c30 : t394 = true
           ·subst c30
            have H1 : (if 0 ≤ x11_3 then (if x11_3 < (x5_1.length : Int) then ((wireloomref05_In.f k3 (rd_L2 x5_1 x11_3) x9_2).bind fun t396 => (if t396 = true then (if x10_3.length < 17592186044416 then (if x11_3 < (x8_3.length : Int) then (wireloomref05_Components.l2 k3 a0 x5_1 x7_2 (x8_3.set (x11_3 : Int).toNat true) x9_2 (x10_3 ++ [x11_3]) (wrap64 (x11_3 + 1))) else (none)) else (none)) else (wireloomref05_Components.l2 k3 a0 x5_1 x7_2 x8_3 x9_2 x10_3 (wrap64 (x11_3 + 1))))) else (none)) else (none)) = some r := by rw [if_pos rfl] at H; exact H
            clear H
            have H := H1
            clear H1
            by_cases c31 : 0 ≤ x11_3
            rotate_left
            ·rw [if_neg c31] at H
             exact absurd H (by simp)
            rw [if_pos c31] at H
            have c31b0 : decide (0 ≤ x11_3) = true := decide_eq_true c31
            clear c31
            by_cases c32 : x11_3 < (x5_1.length : Int)
            rotate_left
            ·rw [if_neg c32] at H
             exact absurd H (by simp)
            rw [if_pos c32] at H
            have c32b0 : decide (x11_3 < (x5_1.length : Int)) = true := decide_eq_true c32
            clear c32
            replace H := Option.bind_eq_some_iff.mp H
            obtain ⟨t396, A330, H⟩ := H
            replace H : (if t396 = true then (if x10_3.length < 17592186044416 then (if x11_3 < (x8_3.length : Int) then (wireloomref05_Components.l2 k3 a0 x5_1 x7_2 (x8_3.set (x11_3 : Int).toNat true) x9_2 (x10_3 ++ [x11_3]) (wrap64 (x11_3 + 1))) else (none)) else (none)) else (wireloomref05_Components.l2 k3 a0 x5_1 x7_2 x8_3 x9_2 x10_3 (wrap64 (x11_3 + 1)))) = some r := H
            have A33 := Aside0.mk A330
            clear A330
            by_cases c34 : t396 = true
            ·subst c34
             have H1 : (if x10_3.length < 17592186044416 then (if x11_3 < (x8_3.length : Int) then (wireloomref05_Components.l2 k3 a0 x5_1 x7_2 (x8_3.set (x11_3 : Int).toNat true) x9_2 (x10_3 ++ [x11_3]) (wrap64 (x11_3 + 1))) else (none)) else (none)) = some r := by rw [if_pos rfl] at H; exact H
             clear H
             have H := H1
             clear H1
             by_cases c35 : x10_3.length < 17592186044416
             rotate_left
             ·rw [if_neg c35] at H
              exact absurd H (by simp)
             rw [if_pos c35] at H
             have LMc35 := Aside0.mk c35
             clear c35
             obtain ⟨y397, hy397⟩ : ∃ y_ : List Int, y_ = (x10_3 ++ [x11_3]) := ⟨_, rfl⟩
             replace H : (if x11_3 < (x8_3.length : Int) then (wireloomref05_Components.l2 k3 a0 x5_1 x7_2 (x8_3.set (x11_3 : Int).toNat true) x9_2 y397 (wrap64 (x11_3 + 1))) else (none)) = some r := by first | (rw [hy397]; with_reducible exact H) | (have H2_ := (Option.bind_some _ _).symm.trans H; rw [hy397]; with_reducible exact H2_) | (have H2_ := (Option.bind_some _ _).symm.trans H; with_reducible exact H2_) | with_reducible exact H | (rw [hy397]; exact H) | exact H
             have Ny397 := Aside0.mk hy397
             clear hy397
             by_cases c36 : x11_3 < (x8_3.length : Int)
             rotate_left
             ·rw [if_neg c36] at H
              exact absurd H (by simp)
             rw [if_pos c36] at H
             have c36b0 : decide (x11_3 < (x8_3.length : Int)) = true := decide_eq_true c36
             clear c36
             obtain ⟨y400, hy400⟩ : ∃ y_ : List Bool, y_ = (x8_3.set (x11_3 : Int).toNat true) := ⟨_, rfl⟩
             replace H : (wireloomref05_Components.l2 k3 a0 x5_1 x7_2 y400 x9_2 y397 (wrap64 (x11_3 + 1))) = some r := by first | (rw [hy400]; with_reducible exact H) | (have H2_ := (Option.bind_some _ _).symm.trans H; rw [hy400]; with_reducible exact H2_) | (have H2_ := (Option.bind_some _ _).symm.trans H; with_reducible exact H2_) | with_reducible exact H | (rw [hy400]; exact H) | exact H
             have Ny400 := Aside0.mk hy400
             clear hy400
             have H' := Aside0.mk H
             clear H
             obtain ⟨Ao38, co38, eo38⟩ := Kd.S_slice HO_5.out
             subst eo38
             have p393 : 0 ≤ (x9_2 : Int) := oD
             have q393 : x9_2 < (x5_1.length : Int) := oD
             obtain ⟨ad393, A393_0, c393_0, e393, hx393_0, hl393_0, hi393_0⟩ := at_L2 (Kd.S_reads' HO_5.out).2.2 x9_2 p393 q393
             cases e393
             obtain ⟨ce393, hce393, hMe393, hcc393⟩ := Kd.S_get HO_5.out [] x9_2 p393 (by first | exact q393 | exact oD | (have e_ := (Kd.S_reads' HO_5.out).1; omega))
             obtain ⟨ve393_0, rfl, ge393_0⟩ := hMe393
             have hv393_0 := hcc393 0 _ rfl
             rw [Nat.add_zero, show ((Kd.slice 3 (Kd.int .i64))).sz = 1 from rfl, Nat.mul_one] at hv393_0
             replace hv393_0 := Option.some.inj (hv393_0.symm.trans hx393_0)
             rw [hv393_0] at ge393_0
             have HL393_0 := Aside0.mk (show Kd.R (Kd.int .i64) 3 _ _ _ _ (rd_L2 x5_1 x9_2) from ge393_0)
             clear hv393_0 ge393_0
             clear hcc393 hce393
             have HR393_0 := Aside0.mk hi393_0
             have HC393_0 := Aside0.mk hl393_0
             clear hi393_0 hl393_0
             replace p393 := eq_true p393
             replace q393 := eq_true q393
             go_wp2_with (first | ((with_reducible refine gate_callee (f := 31) rfl ?_); refine goesL_ (some 49) rfl rfl Try.func31 (by kernel_rfl) rfl #[.slice A393_0 (rd_L2 x5_1 x9_2).length c393_0, .int .i64 x11_3] rfl (by (try simp only [List.map_toArray, List.map_cons, List.map_nil]); first | done | rfl | (simp only [List.length_drop, List.length_take]; rfl)) ?_; (with_reducible refine (wireloomref05_In.calls k3 _ _ (rd_L2 x5_1 x9_2) x11_3 true _ ?side1 ?side2 A29.out).mono ?_); (case side1 => repeat (first | exact (by repeat (first | (with_reducible exact HR393_0.out) | (with_reducible refine Kd.C_alloc ?_ _) | (with_reducible refine Kd.C_drewN ?_ _) | (with_reducible refine Kd.C_drew ?_) | exact HR393_0.out)) | (with_reducible refine Kd.C_alloc ?_ _) | (with_reducible refine Kd.C_drewN ?_ _) | (with_reducible refine Kd.C_drew ?_))); (case side2 => exact HC393_0.out); rintro e w' ⟨rfl, ⟨nd, rfl⟩⟩; refine ⟨_, rfl, ?_⟩; (try (rw [drewN_self wr]; generalize hq_ : World.drewN wr _ = wr; have n0_ : Aside0 (Kd.R (Kd.int .i64) 3 wr w.heap.size (fun k_ => some k_ ≠ (u10 : Value).ownBlock ∧ some k_ ≠ (.slice (some ad393) x5_1.length co38 : Value).ownBlock ∧ some k_ ≠ (u7 : Value).ownBlock) (.slice A393_0 (rd_L2 x5_1 x9_2).length c393_0) (rd_L2 x5_1 x9_2)) := ⟨by rw [← hq_]; exact (by (with_reducible repeat (first | apply Kd.R_alloc | apply Kd.R_drewN | apply Kd.R_drew)); exact Kd.R_mono HL393_0.out (fun _ hk => by (repeat' apply And.intro) <;> first | exact hk.1 | exact hk.2 | exact hk.1.1 | exact hk.1.2 | exact hk.2.1 | exact hk.2.2))⟩; have n1_ : Aside0 (Kd.R (Kd.int .i64) 3 wr w.heap.size (fun _ => True) u10 x10_3) := ⟨by rw [← hq_]; exact (rA HO_10.out)⟩; have n2_ : Aside0 (Kd.S (Kd.slice 3 (Kd.int .i64)) 26 wr w.heap.size (fun k_ => some k_ ≠ (u10 : Value).ownBlock ∧ some k_ ≠ (u7 : Value).ownBlock) (.slice (some ad393) x5_1.length co38) x5_1) := ⟨by rw [← hq_]; exact (by (with_reducible repeat (first | apply Kd.S_alloc | apply Kd.S_drewN | apply Kd.S_drew)); exact Kd.S_mono HO_5.out (fun _ hk => by (repeat' apply And.intro) <;> first | exact hk.1 | exact hk.2 | exact hk.1.1 | exact hk.1.2 | exact hk.2.1 | exact hk.2.2))⟩; have n3_ : Aside0 (Kd.S (Kd.slice 3 (Kd.int .i64)) 26 wr w.heap.size (fun k_ => some k_ ≠ (u10 : Value).ownBlock ∧ some k_ ≠ (.slice (some ad393) x5_1.length co38 : Value).ownBlock) u7 x7_2) := ⟨by rw [← hq_]; exact (by (with_reducible repeat (first | apply Kd.S_alloc | apply Kd.S_drewN | apply Kd.S_drew)); exact Kd.S_mono HO_7.out (fun _ hk => by (repeat' apply And.intro) <;> first | exact hk.1 | exact hk.2 | exact hk.1.1 | exact hk.1.2 | exact hk.2.1 | exact hk.2.2))⟩; have n4_ : Aside0 (Kd.R Kd.bool 4 wr w.heap.size (fun _ => True) (.slice (some ad386) x8_3.length co23) x8_3) := ⟨by rw [← hq_]; exact (rA HO_8.out)⟩; have n5_ : Aside0 (Below w.heap.size w wr) := ⟨by rw [← hq_]; exact (wB0 HB.out)⟩; have n6_ : Aside0 (Kd.C (Kd.int .i64) wr A393_0 (rd_L2 x5_1 x9_2).length (rd_L2 x5_1 x9_2)) := ⟨by rw [← hq_]; exact (by repeat (first | (with_reducible exact HR393_0.out) | (with_reducible refine Kd.C_alloc ?_ _) | (with_reducible refine Kd.C_drewN ?_ _) | (with_reducible refine Kd.C_drew ?_) | exact HR393_0.out))⟩; clear HL393_0 HO_10 HO_5 HO_7 HO_8 HB HR393_0 hq_; have HL393_0 := n0_; have HO_10 := n1_; have HO_5 := n2_; have HO_7 := n3_; have HO_8 := n4_; have HB := n5_; have HR393_0 := n6_; clear n0_ n1_ n2_ n3_ n4_ n5_ n6_)); have p395 : 0 ≤ (x11_3 : Int) := oD; have q395 : x11_3 < (x5_1.length : Int) := oD; obtain ⟨ad395, A395_0, c395_0, e395, hx395_0, hl395_0, hi395_0⟩ := at_L2 (Kd.S_reads' HO_5.out).2.2 x11_3 p395 q395; obtain rfl : ad393 = ad395 := (by injection e395); obtain ⟨ce395, hce395, hMe395, hcc395⟩ := Kd.S_get HO_5.out [] x11_3 p395 (by first | exact q395 | exact oD | (have e_ := (Kd.S_reads' HO_5.out).1; omega)); obtain ⟨ve395_0, rfl, ge395_0⟩ := hMe395; have hv395_0 := hcc395 0 _ rfl; rw [Nat.add_zero, show ((Kd.slice 3 (Kd.int .i64))).sz = 1 from rfl, Nat.mul_one] at hv395_0; replace hv395_0 := Option.some.inj (hv395_0.symm.trans hx395_0); rw [hv395_0] at ge395_0; have HL395_0 := Aside0.mk (show Kd.R (Kd.int .i64) 3 _ _ _ _ (rd_L2 x5_1 x11_3) from ge395_0); clear hv395_0 ge395_0; clear hcc395 hce395; have HR395_0 := Aside0.mk hi395_0; have HC395_0 := Aside0.mk hl395_0; clear hi395_0 hl395_0; replace p395 := eq_true p395; replace q395 := eq_true q395) | (go_at_call 31; (with_reducible refine (wireloomref05_In.calls k3 _ _ (rd_L2 x5_1 x11_3) x9_2 true _ ?side1 ?side2 A33.out).mono ?_); (case side1 => repeat (first | exact (by repeat (first | (with_reducible exact HR395_0.out) | (with_reducible refine Kd.C_alloc ?_ _) | (with_reducible refine Kd.C_drewN ?_ _) | (with_reducible refine Kd.C_drew ?_) | exact HR395_0.out)) | (with_reducible refine Kd.C_alloc ?_ _) | (with_reducible refine Kd.C_drewN ?_ _) | (with_reducible refine Kd.C_drew ?_))); (case side2 => exact HC395_0.out); rintro e w' ⟨rfl, ⟨nd, rfl⟩⟩; (try (rw [drewN_self wr]; generalize hq_ : World.drewN wr _ = wr; have n0_ : Aside0 (Kd.R (Kd.int .i64) 3 wr w.heap.size (fun k_ => some k_ ≠ (u10 : Value).ownBlock ∧ some k_ ≠ (.slice (some ad393) x5_1.length co38 : Value).ownBlock ∧ some k_ ≠ (u7 : Value).ownBlock) (.slice A393_0 (rd_L2 x5_1 x9_2).length c393_0) (rd_L2 x5_1 x9_2)) := ⟨by rw [← hq_]; exact (by (with_reducible repeat (first | apply Kd.R_alloc | apply Kd.R_drewN | apply Kd.R_drew)); exact Kd.R_mono HL393_0.out (fun _ hk => by (repeat' apply And.intro) <;> first | exact hk.1 | exact hk.2 | exact hk.1.1 | exact hk.1.2 | exact hk.2.1 | exact hk.2.2))⟩; have n1_ : Aside0 (Kd.R (Kd.int .i64) 3 wr w.heap.size (fun k_ => some k_ ≠ (u10 : Value).ownBlock ∧ some k_ ≠ (.slice (some ad393) x5_1.length co38 : Value).ownBlock ∧ some k_ ≠ (u7 : Value).ownBlock) (.slice A395_0 (rd_L2 x5_1 x11_3).length c395_0) (rd_L2 x5_1 x11_3)) := ⟨by rw [← hq_]; exact (by (with_reducible repeat (first | apply Kd.R_alloc | apply Kd.R_drewN | apply Kd.R_drew)); exact Kd.R_mono HL395_0.out (fun _ hk => by (repeat' apply And.intro) <;> first | exact hk.1 | exact hk.2 | exact hk.1.1 | exact hk.1.2 | exact hk.2.1 | exact hk.2.2))⟩; have n2_ : Aside0 (Kd.R (Kd.int .i64) 3 wr w.heap.size (fun _ => True) u10 x10_3) := ⟨by rw [← hq_]; exact (rA HO_10.out)⟩; have n3_ : Aside0 (Kd.S (Kd.slice 3 (Kd.int .i64)) 26 wr w.heap.size (fun k_ => some k_ ≠ (u10 : Value).ownBlock ∧ some k_ ≠ (u7 : Value).ownBlock) (.slice (some ad393) x5_1.length co38) x5_1) := ⟨by rw [← hq_]; exact (by (with_reducible repeat (first | apply Kd.S_alloc | apply Kd.S_drewN | apply Kd.S_drew)); exact Kd.S_mono HO_5.out (fun _ hk => by (repeat' apply And.intro) <;> first | exact hk.1 | exact hk.2 | exact hk.1.1 | exact hk.1.2 | exact hk.2.1 | exact hk.2.2))⟩; have n4_ : Aside0 (Kd.S (Kd.slice 3 (Kd.int .i64)) 26 wr w.heap.size (fun k_ => some k_ ≠ (u10 : Value).ownBlock ∧ some k_ ≠ (.slice (some ad393) x5_1.length co38 : Value).ownBlock) u7 x7_2) := ⟨by rw [← hq_]; exact (by (with_reducible repeat (first | apply Kd.S_alloc | apply Kd.S_drewN | apply Kd.S_drew)); exact Kd.S_mono HO_7.out (fun _ hk => by (repeat' apply And.intro) <;> first | exact hk.1 | exact hk.2 | exact hk.1.1 | exact hk.1.2 | exact hk.2.1 | exact hk.2.2))⟩; have n5_ : Aside0 (Kd.R Kd.bool 4 wr w.heap.size (fun _ => True) (.slice (some ad386) x8_3.length co23) x8_3) := ⟨by rw [← hq_]; exact (rA HO_8.out)⟩; have n6_ : Aside0 (Below w.heap.size w wr) := ⟨by rw [← hq_]; exact (wB0 HB.out)⟩; have n7_ : Aside0 (Kd.C (Kd.int .i64) wr A393_0 (rd_L2 x5_1 x9_2).length (rd_L2 x5_1 x9_2)) := ⟨by rw [← hq_]; exact (by repeat (first | (with_reducible exact HR393_0.out) | (with_reducible refine Kd.C_alloc ?_ _) | (with_reducible refine Kd.C_drewN ?_ _) | (with_reducible refine Kd.C_drew ?_) | exact HR393_0.out))⟩; have n8_ : Aside0 (Kd.C (Kd.int .i64) wr A395_0 (rd_L2 x5_1 x11_3).length (rd_L2 x5_1 x11_3)) := ⟨by rw [← hq_]; exact (by repeat (first | (with_reducible exact HR395_0.out) | (with_reducible refine Kd.C_alloc ?_ _) | (with_reducible refine Kd.C_drewN ?_ _) | (with_reducible refine Kd.C_drew ?_) | exact HR395_0.out))⟩; clear HL393_0 HL395_0 HO_10 HO_5 HO_7 HO_8 HB HR393_0 HR395_0 hq_; have HL393_0 := n0_; have HL395_0 := n1_; have HO_10 := n2_; have HO_5 := n3_; have HO_7 := n4_; have HO_8 := n5_; have HB := n6_; have HR393_0 := n7_; have HR395_0 := n8_; clear n0_ n1_ n2_ n3_ n4_ n5_ n6_ n7_ n8_))) | ((with_reducible refine gate_builtin (b := .append) (xs := #[.tmp 58, .tmp 60]) rfl ?_); at_builtin; refine Kd.R_append (Kd.int .i64) (w0 := w) w.heap.size rfl (.tmp 58) (.tmp 60) 26 3 (.int .i64 0) 8 rfl Try.underlying26 info3 rfl (by decide) (by omega) u10 x10_3 x11_3 [.int .i64 x11_3] (fun _ => True) (fun _ => False) rfl rfl ?aP (fun _ hk => hk.elim) ?aF ?aO ?aB ?aS ?aL ?_; (case aP => exact rfl); (case aB => exact (wB0 HB.out)); (case aF => exact (fun _ _ => trivial)); (case aO => exact (rA HO_10.out)); (case aS => exact (below_size (wB0 HB.out))); (case aL => have := LMc35.out; omega); intro v398 w39 ho hb hg hat; rw [← Ny397.out] at ho; replace HO_5 := Aside0.mk (Kd.S_after (ok := (fun k_ => some k_ ≠ (u7 : Value).ownBlock)) (by (with_reducible repeat (first | apply Kd.S_alloc | apply Kd.S_drewN | apply Kd.S_drew)); exact Kd.S_mono HO_5.out (fun _ hk => by (repeat' apply And.intro) <;> first | exact hk.1 | exact hk.2 | exact hk.1.1 | exact hk.1.2 | exact hk.2.1 | exact hk.2.2)) hg hat); replace HO_7 := Aside0.mk (Kd.S_after (ok := (fun k_ => some k_ ≠ (.slice (some ad393) x5_1.length co38 : Value).ownBlock)) (by (with_reducible repeat (first | apply Kd.S_alloc | apply Kd.S_drewN | apply Kd.S_drew)); exact Kd.S_mono HO_7.out (fun _ hk => by (repeat' apply And.intro) <;> first | exact hk.1 | exact hk.2 | exact hk.1.1 | exact hk.1.2 | exact hk.2.1 | exact hk.2.2)) hg hat); replace HO_8 := Aside0.mk (Kd.R_over' (rA HO_8.out) (Kd.R_typed (rA HO_10.out)) (by decide) hg); replace HL393_0 := Aside0.mk (Kd.R_after (ok := (fun k_ => some k_ ≠ (.slice (some ad393) x5_1.length co38 : Value).ownBlock ∧ some k_ ≠ (u7 : Value).ownBlock)) (by (with_reducible repeat (first | apply Kd.R_alloc | apply Kd.R_drewN | apply Kd.R_drew)); exact Kd.R_mono HL393_0.out (fun _ hk => by (repeat' apply And.intro) <;> first | exact hk.1 | exact hk.2 | exact hk.1.1 | exact hk.1.2 | exact hk.2.1 | exact hk.2.2)) hg hat); replace HL395_0 := Aside0.mk (Kd.R_after (ok := (fun k_ => some k_ ≠ (.slice (some ad393) x5_1.length co38 : Value).ownBlock ∧ some k_ ≠ (u7 : Value).ownBlock)) (by (with_reducible repeat (first | apply Kd.R_alloc | apply Kd.R_drewN | apply Kd.R_drew)); exact Kd.R_mono HL395_0.out (fun _ hk => by (repeat' apply And.intro) <;> first | exact hk.1 | exact hk.2 | exact hk.1.1 | exact hk.1.2 | exact hk.2.1 | exact hk.2.2)) hg hat); replace HB := Aside0.mk (hb); have HO399 := Aside0.mk (ho); clear HO_10; clear ho hb hg hat; have p37 : 0 ≤ (x11_3 : Int) := oD; have q37 : (x11_3 : Int) < ((x8_3.length : Int) : Int) := oD; obtain ⟨go37, co37, eo37, gb37, gl37, cl37, HG37⟩ := Kd.R_form HO_8.out (by omega); (first | cases eo37 | (injection eo37 with ea_ en_ ec_; (first | subst ea_ | (injection ea_ with ea_; subst ea_)); subst ec_; clear en_)); have GB37 := Aside0.mk gb37; have GG37 := Aside0.mk HG37; clear gb37 gl37 HG37; (first | simp only [add_plain] at hx386_0 | skip); obtain ⟨hx37_0, hf37_0⟩ := Kd.R_celln false HO_8.out (x11_3 : Int) p37 q37; replace p37 := eq_true p37; replace q37 := eq_true q37; obtain ⟨hy40_, hz40_⟩ := Kd.R_celln false HO_8.out (x11_3 : Int) oD oD; have HP40 := Kd.R_putg HO_8.out (x11_3 : Int) true) | ((with_reducible refine gate_store (t := 4) (p := 64) rfl ?_); refine store_event (t := 4) (p := 64) (v := ?vo_w41) (w1 := (w39.setCell ⟨go37, (x11_3 : Int).toNat, none⟩ (.bool true))) ?hg ?ho ?hn ?hr ?_; (case ho => rfl); (case hg => rfl); (case hn => rfl); (case hr => first | (go_simp; done) | (go_simp; rfl)); intro w41 hw; have hg : w39.grownBy w41 (some go37) := (by rw [hw]; exact HP40.2); have hp_ : Kd.R Kd.bool 4 w41 w.heap.size (fun _ => True) (.slice (some ⟨go37, 0, none⟩) x8_3.length co23) y400 := (by rw [hw, Ny400.out]; exact HP40.1); clear HP40; replace HO_5 := Aside0.mk (Kd.S_over' (v := (.slice (some ⟨go37, 0, none⟩) x8_3.length co23)) (sA HO_5.out) (Kd.R_typed HO_8.out) (by decide) hg); replace HO_7 := Aside0.mk (Kd.S_over' (v := (.slice (some ⟨go37, 0, none⟩) x8_3.length co23)) (sA HO_7.out) (Kd.R_typed HO_8.out) (by decide) hg); replace HL393_0 := Aside0.mk (Kd.R_over' (v := (.slice (some ⟨go37, 0, none⟩) x8_3.length co23)) (rA HL393_0.out) (Kd.R_typed HO_8.out) (by decide) hg); replace HL395_0 := Aside0.mk (Kd.R_over' (v := (.slice (some ⟨go37, 0, none⟩) x8_3.length co23)) (rA HL395_0.out) (Kd.R_typed HO_8.out) (by decide) hg); replace HO399 := Aside0.mk (Kd.R_over' (v := (.slice (some ⟨go37, 0, none⟩) x8_3.length co23)) (rA HO399.out) (Kd.R_typed HO_8.out) (by decide) hg); replace HO_8 := Aside0.mk (hp_); replace HB := Aside0.mk ((by rw [hw]; exact below_set (HB.out) GB37.out : Below w.heap.size w w41)); clear hg hw hp_))
             (try simp only [← hl8_3])
             go_roundg k3
             case measure => have := HK1.out; have := HK2.out; have := HK3.out; omega
             case rel => exact ⟨(y400), (y397), (wrap64 (x11_3 + 1)), rS, H', ⟨by have := HK1.out; have := HK2.out; have := HK3.out; omega⟩, ⟨by (try simp only [hl8_3]); (with_reducible repeat (first | apply Kd.S_alloc | apply Kd.S_drewN | apply Kd.S_drew)); exact HO_5.out⟩, ⟨by (try simp only [hl8_3]); (with_reducible repeat (first | apply Kd.S_alloc | apply Kd.S_drewN | apply Kd.S_drew)); exact HO_7.out⟩, ⟨by (try simp only [hl8_3]); (with_reducible repeat (first | apply Kd.R_alloc | apply Kd.R_drewN | apply Kd.R_drew)); exact HO_8.out⟩, ⟨by (try simp only [hl8_3]); (with_reducible repeat (first | apply Kd.R_alloc | apply Kd.R_drewN | apply Kd.R_drew)); exact HO399.out⟩, ⟨wB0 HB.out⟩⟩
            ·replace c34 := Bool.eq_false_iff.mpr c34
             subst c34
             have H1 : (wireloomref05_Components.l2 k3 a0 x5_1 x7_2 x8_3 x9_2 x10_3 (wrap64 (x11_3 + 1))) = some r := by rw [if_neg (show ¬ (false = true) by decide)] at H; exact H
             clear H
             have H := H1
             clear H1
             have H' := Aside0.mk H
             clear H
             obtain ⟨Ao42, co42, eo42⟩ := Kd.S_slice HO_5.out
             subst eo42
             have p393 : 0 ≤ (x9_2 : Int) := oD
             have q393 : x9_2 < (x5_1.length : Int) := oD
             obtain ⟨ad393, A393_0, c393_0, e393, hx393_0, hl393_0, hi393_0⟩ := at_L2 (Kd.S_reads' HO_5.out).2.2 x9_2 p393 q393
             cases e393
             obtain ⟨ce393, hce393, hMe393, hcc393⟩ := Kd.S_get HO_5.out [] x9_2 p393 (by first | exact q393 | exact oD | (have e_ := (Kd.S_reads' HO_5.out).1; omega))
             obtain ⟨ve393_0, rfl, ge393_0⟩ := hMe393
             have hv393_0 := hcc393 0 _ rfl
             rw [Nat.add_zero, show ((Kd.slice 3 (Kd.int .i64))).sz = 1 from rfl, Nat.mul_one] at hv393_0
             replace hv393_0 := Option.some.inj (hv393_0.symm.trans hx393_0)
             rw [hv393_0] at ge393_0
             have HL393_0 := Aside0.mk (show Kd.R (Kd.int .i64) 3 _ _ _ _ (rd_L2 x5_1 x9_2) from ge393_0)
             clear hv393_0 ge393_0
             clear hcc393 hce393
             have HR393_0 := Aside0.mk hi393_0
             have HC393_0 := Aside0.mk hl393_0
             clear hi393_0 hl393_0
             replace p393 := eq_true p393
             replace q393 := eq_true q393
             go_wp2_with (first | ((with_reducible refine gate_callee (f := 31) rfl ?_); refine goesL_ (some 49) rfl rfl Try.func31 (by kernel_rfl) rfl #[.slice A393_0 (rd_L2 x5_1 x9_2).length c393_0, .int .i64 x11_3] rfl (by (try simp only [List.map_toArray, List.map_cons, List.map_nil]); first | done | rfl | (simp only [List.length_drop, List.length_take]; rfl)) ?_; (with_reducible refine (wireloomref05_In.calls k3 _ _ (rd_L2 x5_1 x9_2) x11_3 true _ ?side1 ?side2 A29.out).mono ?_); (case side1 => repeat (first | exact (by repeat (first | (with_reducible exact HR393_0.out) | (with_reducible refine Kd.C_alloc ?_ _) | (with_reducible refine Kd.C_drewN ?_ _) | (with_reducible refine Kd.C_drew ?_) | exact HR393_0.out)) | (with_reducible refine Kd.C_alloc ?_ _) | (with_reducible refine Kd.C_drewN ?_ _) | (with_reducible refine Kd.C_drew ?_))); (case side2 => exact HC393_0.out); rintro e w' ⟨rfl, ⟨nd, rfl⟩⟩; refine ⟨_, rfl, ?_⟩; have p395 : 0 ≤ (x11_3 : Int) := oD; have q395 : x11_3 < (x5_1.length : Int) := oD; obtain ⟨ad395, A395_0, c395_0, e395, hx395_0, hl395_0, hi395_0⟩ := at_L2 (Kd.S_reads' HO_5.out).2.2 x11_3 p395 q395; obtain rfl : ad393 = ad395 := (by injection e395); obtain ⟨ce395, hce395, hMe395, hcc395⟩ := Kd.S_get HO_5.out [] x11_3 p395 (by first | exact q395 | exact oD | (have e_ := (Kd.S_reads' HO_5.out).1; omega)); obtain ⟨ve395_0, rfl, ge395_0⟩ := hMe395; have hv395_0 := hcc395 0 _ rfl; rw [Nat.add_zero, show ((Kd.slice 3 (Kd.int .i64))).sz = 1 from rfl, Nat.mul_one] at hv395_0; replace hv395_0 := Option.some.inj (hv395_0.symm.trans hx395_0); rw [hv395_0] at ge395_0; have HL395_0 := Aside0.mk (show Kd.R (Kd.int .i64) 3 _ _ _ _ (rd_L2 x5_1 x11_3) from ge395_0); clear hv395_0 ge395_0; clear hcc395 hce395; have HR395_0 := Aside0.mk hi395_0; have HC395_0 := Aside0.mk hl395_0; clear hi395_0 hl395_0; replace p395 := eq_true p395; replace q395 := eq_true q395) | (go_at_call 31; (with_reducible refine (wireloomref05_In.calls k3 _ _ (rd_L2 x5_1 x11_3) x9_2 false _ ?side1 ?side2 A33.out).mono ?_); (case side1 => repeat (first | exact (by repeat (first | (with_reducible exact HR395_0.out) | (with_reducible refine Kd.C_alloc ?_ _) | (with_reducible refine Kd.C_drewN ?_ _) | (with_reducible refine Kd.C_drew ?_) | exact HR395_0.out)) | (with_reducible refine Kd.C_alloc ?_ _) | (with_reducible refine Kd.C_drewN ?_ _) | (with_reducible refine Kd.C_drew ?_))); (case side2 => exact HC395_0.out); rintro e w' ⟨rfl, ⟨nd, rfl⟩⟩))
             (try simp only [← hl8_3])
             go_roundg k3
             case measure => have := HK1.out; have := HK2.out; have := HK3.out; omega
             case rel => exact ⟨(x8_3), (x10_3), (wrap64 (x11_3 + 1)), rS, H', ⟨by have := HK1.out; have := HK2.out; have := HK3.out; omega⟩, ⟨by (try simp only [hl8_3]); (with_reducible repeat (first | apply Kd.S_alloc | apply Kd.S_drewN | apply Kd.S_drew)); exact HO_5.out⟩, ⟨by (try simp only [hl8_3]); (with_reducible repeat (first | apply Kd.S_alloc | apply Kd.S_drewN | apply Kd.S_drew)); exact HO_7.out⟩, ⟨by (try simp only [hl8_3]); (with_reducible repeat (first | apply Kd.R_alloc | apply Kd.R_drewN | apply Kd.R_drew)); exact HO_8.out⟩, ⟨by (try simp only [hl8_3]); (with_reducible repeat (first | apply Kd.R_alloc | apply Kd.R_drewN | apply Kd.R_drew)); exact HO_10.out⟩, ⟨wB0 HB.out⟩⟩
           ·replace c30 := Bool.eq_false_iff.mpr c30
            subst c30
            have H1 : (wireloomref05_Components.l2 k3 a0 x5_1 x7_2 x8_3 x9_2 x10_3 (wrap64 (x11_3 + 1))) = some r := by rw [if_neg (show ¬ (false = true) by decide)] at H; exact H
            clear H
            have H := H1
            clear H1
            have H' := Aside0.mk H
            clear H
            obtain ⟨Ao43, co43, eo43⟩ := Kd.S_slice HO_5.out
            subst eo43
            have p393 : 0 ≤ (x9_2 : Int) := oD
            have q393 : x9_2 < (x5_1.length : Int) := oD
            obtain ⟨ad393, A393_0, c393_0, e393, hx393_0, hl393_0, hi393_0⟩ := at_L2 (Kd.S_reads' HO_5.out).2.2 x9_2 p393 q393
            cases e393
            obtain ⟨ce393, hce393, hMe393, hcc393⟩ := Kd.S_get HO_5.out [] x9_2 p393 (by first | exact q393 | exact oD | (have e_ := (Kd.S_reads' HO_5.out).1; omega))
            obtain ⟨ve393_0, rfl, ge393_0⟩ := hMe393
            have hv393_0 := hcc393 0 _ rfl
            rw [Nat.add_zero, show ((Kd.slice 3 (Kd.int .i64))).sz = 1 from rfl, Nat.mul_one] at hv393_0
            replace hv393_0 := Option.some.inj (hv393_0.symm.trans hx393_0)
            rw [hv393_0] at ge393_0
            have HL393_0 := Aside0.mk (show Kd.R (Kd.int .i64) 3 _ _ _ _ (rd_L2 x5_1 x9_2) from ge393_0)
            clear hv393_0 ge393_0
            clear hcc393 hce393
            have HR393_0 := Aside0.mk hi393_0
            have HC393_0 := Aside0.mk hl393_0
            clear hi393_0 hl393_0
            replace p393 := eq_true p393
            replace q393 := eq_true q393
            go_wp2_with (first | ((with_reducible refine gate_callee (f := 31) rfl ?_); refine goesL_ (some 49) rfl rfl Try.func31 (by kernel_rfl) rfl #[.slice A393_0 (rd_L2 x5_1 x9_2).length c393_0, .int .i64 x11_3] rfl (by (try simp only [List.map_toArray, List.map_cons, List.map_nil]); first | done | rfl | (simp only [List.length_drop, List.length_take]; rfl)) ?_; (with_reducible refine (wireloomref05_In.calls k3 _ _ (rd_L2 x5_1 x9_2) x11_3 false _ ?side1 ?side2 A29.out).mono ?_); (case side1 => repeat (first | exact (by repeat (first | (with_reducible exact HR393_0.out) | (with_reducible refine Kd.C_alloc ?_ _) | (with_reducible refine Kd.C_drewN ?_ _) | (with_reducible refine Kd.C_drew ?_) | exact HR393_0.out)) | (with_reducible refine Kd.C_alloc ?_ _) | (with_reducible refine Kd.C_drewN ?_ _) | (with_reducible refine Kd.C_drew ?_))); (case side2 => exact HC393_0.out); rintro e w' ⟨rfl, ⟨nd, rfl⟩⟩; refine ⟨_, rfl, ?_⟩))
            (try simp only [← hl8_3])
            go_roundg k3
            case measure => have := HK1.out; have := HK2.out; have := HK3.out; omega
            case rel => exact ⟨(x8_3), (x10_3), (wrap64 (x11_3 + 1)), rS, H', ⟨by have := HK1.out; have := HK2.out; have := HK3.out; omega⟩, ⟨by (try simp only [hl8_3]); (with_reducible repeat (first | apply Kd.S_alloc | apply Kd.S_drewN | apply Kd.S_drew)); exact HO_5.out⟩, ⟨by (try simp only [hl8_3]); (with_reducible repeat (first | apply Kd.S_alloc | apply Kd.S_drewN | apply Kd.S_drew)); exact HO_7.out⟩, ⟨by (try simp only [hl8_3]); (with_reducible repeat (first | apply Kd.R_alloc | apply Kd.R_drewN | apply Kd.R_drew)); exact HO_8.out⟩, ⟨by (try simp only [hl8_3]); (with_reducible repeat (first | apply Kd.R_alloc | apply Kd.R_drewN | apply Kd.R_drew)); exact HO_10.out⟩, ⟨wB0 HB.out⟩⟩
          ·rw [if_neg c26] at H
           have c26b0 : decide (x11_3 < a0) = false := decide_eq_false c26
           clear c26
           by_cases c44 : x7_2.length < 5864062014805
           rotate_left
           ·rw [if_neg c44] at H
            exact absurd H (by simp)
           rw [if_pos c44] at H
           have LMc44 := Aside0.mk c44
           clear c44
           obtain ⟨y390, hy390⟩ : ∃ y_ : List (List Int), y_ = (x7_2 ++ [x10_3]) := ⟨_, rfl⟩
           replace H : (wireloomref05_Components.l1 k3 a0 x5_1 y390 x8_3 (wrap64 (x9_2 + 1))) = some r := by first | (rw [hy390]; with_reducible exact H) | (have H2_ := (Option.bind_some _ _).symm.trans H; rw [hy390]; with_reducible exact H2_) | (have H2_ := (Option.bind_some _ _).symm.trans H; with_reducible exact H2_) | with_reducible exact H | (rw [hy390]; exact H) | exact H
           have Ny390 := Aside0.mk hy390
           clear hy390
           have H' := Aside0.mk H
           clear H
           obtain ⟨Ao46, co46, eo46⟩ := Kd.R_slice HO_10.out
           subst eo46
           go_wp2_with (first | ((with_reducible refine gate_builtin (b := .append) (xs := #[.tmp 65, .tmp 67]) rfl ?_); at_builtin; refine Kd.S_append (Kd.slice 3 (Kd.int .i64)) (w0 := w) w.heap.size rfl (.tmp 65) (.tmp 67) 44 26 (.slice none 0 0) 24 rfl Try.underlying44 info26 rfl (by decide) (by omega) u7 x7_2 x10_3 [.slice Ao46 x10_3.length co46] (fun k_ => some k_ ≠ (u5 : Value).ownBlock) (fun k_ => some k_ = (.slice Ao46 x10_3.length co46 : Value).ownBlock) rfl rfl ?aP (fun k_ hk_ => ((Kd.R_mono (ok' := fun k_ => ((fun k_ => some k_ ≠ (u5 : Value).ownBlock)) k_ ∧ some k_ ≠ (u7 : Value).ownBlock) (Kd.R_apart' (Kd.R_apart' (HO_10.out) (Kd.S_typed HO_5.out) (by decide)) (Kd.S_typed HO_7.out) (by decide)) (fun k_ hk => ⟨hk.1.2, hk.2⟩))).1 k_ hk_.symm) ?aF ?aO ?aB ?aS ?aL ?_; (case aP => exact Kd.M_row (Kd.R_mono (Kd.R_tight rfl (Kd.R_mono (ok' := fun k_ => ((fun k_ => some k_ ≠ (u5 : Value).ownBlock)) k_ ∧ some k_ ≠ (u7 : Value).ownBlock) (Kd.R_apart' (Kd.R_apart' (HO_10.out) (Kd.S_typed HO_5.out) (by decide)) (Kd.S_typed HO_7.out) (by decide)) (fun k_ hk => ⟨hk.1.2, hk.2⟩))) (fun _ h_ => h_))); (case aB => exact (wB0 HB.out)); (case aF => exact (fun k_ hk => Kd.fresh' (Kd.S_lt (sA HO_5.out)) k_ hk)); (case aO => exact (by (with_reducible repeat (first | apply Kd.S_alloc | apply Kd.S_drewN | apply Kd.S_drew)); exact Kd.S_mono HO_7.out (fun k_ hk => ⟨hk.1, fun e_ => hk.2 e_⟩))); (case aS => exact (below_size (wB0 HB.out))); (case aL => have := LMc44.out; omega); intro v391 w45 ho hb hg hat; rw [← Ny390.out] at ho; replace HO_5 := Aside0.mk (Kd.S_after (ok := (fun k_ => some k_ ≠ (.slice Ao46 x10_3.length co46 : Value).ownBlock)) (by (with_reducible repeat (first | apply Kd.S_alloc | apply Kd.S_drewN | apply Kd.S_drew)); exact Kd.S_mono HO_5.out (fun _ hk => by (repeat' apply And.intro) <;> first | exact hk.1 | exact hk.2 | exact hk.1.1 | exact hk.1.2 | exact hk.2.1 | exact hk.2.2)) hg hat); replace HO_8 := Aside0.mk (Kd.R_over' (rA HO_8.out) (Kd.S_typed (sA HO_7.out)) (by decide) hg); replace HB := Aside0.mk (hb); have HO392 := Aside0.mk (ho); clear HO_7 HO_10; clear ho hb hg hat))
           (try simp only [← hl8_3])
           go_roundg k3
           case measure => have := HK1.out; have := HK2.out; have := HK3.out; omega
           case rel => exact ⟨(y390), (x8_3), (wrap64 (x9_2 + 1)), rS, H', ⟨by have := HK1.out; have := HK2.out; have := HK3.out; omega⟩, ⟨by (try simp only [hl8_3]); (with_reducible repeat (first | apply Kd.S_alloc | apply Kd.S_drewN | apply Kd.S_drew)); exact Kd.S_mono HO_5.out (fun _ hk => hk.2)⟩, ⟨by (try simp only [hl8_3]); (with_reducible repeat (first | apply Kd.S_alloc | apply Kd.S_drewN | apply Kd.S_drew)); exact HO392.out⟩, ⟨by (try simp only [hl8_3]); (with_reducible repeat (first | apply Kd.R_alloc | apply Kd.R_drewN | apply Kd.R_drew)); exact HO_8.out⟩, ⟨wB0 HB.out⟩⟩
      ·rw [if_neg c17] at H
       have c17b0 : decide (x9_2 < a0) = false := decide_eq_false c17
       clear c17
       obtain rfl := Option.some.inj H
       go_wp2
       go_ret
       exact ⟨_, eS, by (with_reducible repeat (first | apply Kd.S_alloc | apply Kd.S_drewN | apply Kd.S_drew)); exact Kd.S_mono HO_7.out (fun _ hk => trivial), by repeat (first | (with_reducible first | exact HB.out | apply below_alloc | apply pw_below_drewN | apply below_drew1) | exact HB.out)⟩
end Go.Proofs.Ytlldjinejckbaaa.PD

end
section
namespace Go.Proofs.Ytlldjinejckbaaa.PD
open Go.RowKit Go.Proofs.YtlldjinejckbaaaW.PrintWords Go.Proofs.YtlldjinejckbaaaW.PrintLast Go.Proofs.YtlldjinejckbaaaW.PrintMore
attribute [local go_sem] max2_int min2_int max_two min_two max_three min_three max_four min_four
set_option linter.unusedVariables false
set_option linter.unusedSimpArgs false
def wireloomlaw05_DigraphMatchesReference.j0 : Nat → Bool → Bool → Int → Int → List Int → Int → List (S55) → List Int → Int → Option (Bool)
 | 0, _, _, _, _, _, _, _, _, _ => none
 | k + 1, x5, x21, x402000, x402001, x402002, x403000, x403001, x403002, x403003 => if x21 = true then (some x5) else ((wireloomref05_Made.f k x402000 x402001 x402002).bind fun bt404 => ((digraph_Valid.f k x403000 x403001).bind fun t409 => ((wireloomref05_Valid.f k x403000 x403001).bind fun t410 => (if (t409 != t410) = true then (none) else ((digraph_Valid.f k bt404.1 bt404.2).bind fun t411 => (if t411 = true then ((wireloomlaw05_order.f bt404.1 bt404.2).bind fun bt412 => ((wireloomref05_OrderIn.f k bt404.1 bt404.2).bind fun bt416 => ((wireloomref05_Alike.f k bt412.1 bt412.2 bt416.1 bt416.2).bind fun t420 => (if t420 = true then ((wireloomlaw05_cycle.f bt404.1 bt404.2).bind fun bt421 => ((wireloomref05_CycleIn.f k bt404.1 bt404.2).bind fun bt425 => ((wireloomref05_Alike.f k bt421.1 bt421.2 bt425.1 bt425.2).bind fun t429 => (if t429 = true then ((wireloomlaw05_depth.f bt404.1 bt404.2).bind fun bt430 => ((wireloomref05_DepthIn.f k bt404.1 bt404.2).bind fun bt434 => ((wireloomref05_Alike.f k bt430.1 bt430.2 bt434.1 bt434.2).bind fun t438 => (if t438 = true then ((digraph_Check.f bt404.1 bt404.2 x403002).bind fun t439 => ((wireloomref05_Check.f k bt404.1 bt404.2 x403002).bind fun t440 => (if t439 = t440 then ((digraph_Reach.f bt404.1 bt404.2 x403003).bind fun t441 => ((wireloomref05_Reach.f k bt404.1 bt404.2 x403003).bind fun t444 => ((wireloomref05_Same.f k t441 t444).bind fun t447 => (if t447 = true then (if x5 = true then ((digraph_Components.f bt404.1 bt404.2).bind fun t448 => ((wireloomref05_Components.f k bt404.1 bt404.2).bind fun t451 => ((wireloomref05_SameLists.f k t448 t451).bind fun t454 => (some t454)))) else (none)) else (none))))) else (none)))) else (none))))) else (none))))) else (none))))) else (none)))))))
def wireloomlaw05_DigraphMatchesReference.f (k : Nat) (a0_0 : Int) (a0_1 : Int) (l0_2 : List Int) (a1_0 : Int) (l1_1 : List (S55)) (l1_2 : List Int) (a1_3 : Int) : Option (Bool) := (wireloomlaw05_examples.f k).bind fun t403 => (if t403 = true then (if (l1_1.length : Int) > 100 then (wireloomlaw05_DigraphMatchesReference.j0 k t403 true a0_0 a0_1 l0_2 a1_0 l1_1 l1_2 a1_3) else (wireloomlaw05_DigraphMatchesReference.j0 k t403 (decide ((l1_2.length : Int) > 40)) a0_0 a0_1 l0_2 a1_0 l1_1 l1_2 a1_3)) else (wireloomlaw05_DigraphMatchesReference.j0 k t403 true a0_0 a0_1 l0_2 a1_0 l1_1 l1_2 a1_3))
def wireloomlaw05_DigraphMatchesReference.T5 : Bool × List (List Nat × List Nat) := (true, [([], []), ([0], [0]), ([], []), ([2], [2]), ([1, 3], [1, 3]), ([], []), ([5], [5]), ([], []), ([7], [7]), ([6, 8, 4], [6, 8]), ([4, 9], [4, 9]), ([10, 9], [10]), ([11], [11]), ([12, 11], [11, 12]), ([11], [11]), ([14, 11], [11, 14]), ([13, 15, 11, 11], [11, 13, 15]), ([16, 11], [11, 16]), ([11, 17], [11, 17]), ([18, 16], [18]), ([19], [19]), ([20, 19, 19], [19, 20]), ([19], [19]), ([22, 19], [19, 22]), ([19], [19]), ([24, 19], [19, 24]), ([23, 25, 21, 19], [19, 23, 25]), ([21, 26, 26, 19], [19, 21, 26]), ([27, 19], [19, 27]), ([19, 28], [19, 28]), ([29, 27], [29]), ([30], [30]), ([31, 30, 30], [30, 31]), ([30], [30]), ([33, 30], [30, 33]), ([30], [30]), ([35, 30], [30, 35]), ([34, 36, 32, 30], [30, 34, 36]), ([32, 37, 37, 30], [30, 32, 37]), ([38, 30], [30, 38]), ([30, 39], [30, 39]), ([40, 38], [40]), ([41], [41]), ([42, 41, 41], [41, 42]), ([41], [41]), ([44, 41], [41, 44]), ([41], [41]), ([46, 41], [41, 46]), ([45, 47, 43, 41], [41, 45, 47]), ([43, 48, 48, 41], [41, 43, 48]), ([49, 41], [41, 49]), ([41, 50], [41, 50])])
def wireloomlaw05_DigraphMatchesReference.B5 : List Nat := [0, 1, 0, 4, 15, 0, 32, 0, 128, 511, 1023, 2047, 4095, 8191, 4095, 20479, 65535, 131071, 262143, 524287, 1048575, 2097151, 1048575, 5242879, 1048575, 17825791, 67108863, 134217727, 268435455, 536870911, 1073741823, 2147483647, 4294967295, 2147483647, 10737418239, 2147483647, 36507222015, 137438953471, 274877906943, 549755813887, 1099511627775, 2199023255551, 4398046511103, 8796093022207, 4398046511103, 21990232555519, 4398046511103, 74766790688767, 281474976710655, 562949953421311, 1125899906842623, 2251799813685247]
theorem wireloomlaw05_DigraphMatchesReference.tab5 : rtab .any (opsOf Try.f3 5) = wireloomlaw05_DigraphMatchesReference.T5 := by kernel_rfl
theorem wireloomlaw05_DigraphMatchesReference.bits5 : waitsOk wireloomlaw05_DigraphMatchesReference.T5.2 wireloomlaw05_DigraphMatchesReference.B5 = true := by kernel_rfl
def wireloomlaw05_DigraphMatchesReference.T7 : Bool × List (List Nat × List Nat) := (true, [([], []), ([0], [0]), ([], []), ([2], [2]), ([], []), ([4], [4]), ([1, 3, 5], [1, 3, 5]), ([], []), ([7], [7]), ([], []), ([9], [9]), ([], []), ([11], [11]), ([8, 10, 12, 6], [8, 10, 12]), ([6, 13], [6, 13]), ([14, 13], [14]), ([15], [15]), ([16, 15], [15, 16]), ([15], [15]), ([18, 15], [15, 18]), ([15], [15]), ([20, 15], [15, 20]), ([17, 19, 21, 15, 15], [15, 17, 19, 21]), ([15], [15]), ([23, 15], [15, 23]), ([15], [15]), ([25, 15], [15, 25]), ([15], [15]), ([27, 15], [15, 27]), ([24, 26, 28, 22, 15], [15, 24, 26, 28]), ([22, 29, 29, 15], [15, 22, 29]), ([30, 15], [15, 30]), ([15, 31], [15, 31])])
def wireloomlaw05_DigraphMatchesReference.B7 : List Nat := [0, 1, 0, 4, 0, 16, 63, 0, 128, 0, 512, 0, 2048, 8191, 16383, 32767, 65535, 131071, 65535, 327679, 65535, 1114111, 4194303, 65535, 8454143, 65535, 33619967, 65535, 134283263, 536870911, 1073741823, 2147483647, 4294967295]
theorem wireloomlaw05_DigraphMatchesReference.tab7 : rtab .any (opsOf Try.f3 7) = wireloomlaw05_DigraphMatchesReference.T7 := by kernel_rfl
theorem wireloomlaw05_DigraphMatchesReference.bits7 : waitsOk wireloomlaw05_DigraphMatchesReference.T7.2 wireloomlaw05_DigraphMatchesReference.B7 = true := by kernel_rfl
def wireloomlaw05_DigraphMatchesReference.T9 : Bool × List (List Nat × List Nat) := (true, [([], []), ([0], [0]), ([1], [1]), ([2, 1], [1, 2]), ([1], [1]), ([4, 1], [1, 4]), ([3, 5, 1, 1], [1, 3, 5]), ([1], [1]), ([7, 1], [1, 7]), ([1], [1]), ([9, 1], [1, 9]), ([8, 10, 6, 1], [1, 8, 10]), ([6, 11, 11, 1], [1, 6, 11]), ([1, 12], [1, 12]), ([13, 12, 0, 1, 2, 3, 4, 5, 6, 7, 8, 9, 10, 11, 12, 13], [13])])
def wireloomlaw05_DigraphMatchesReference.B9 : List Nat := [0, 1, 3, 7, 3, 19, 63, 3, 131, 3, 515, 2047, 4095, 8191, 16383]
theorem wireloomlaw05_DigraphMatchesReference.tab9 : rtab .any (opsOf Try.f3 9) = wireloomlaw05_DigraphMatchesReference.T9 := by kernel_rfl
theorem wireloomlaw05_DigraphMatchesReference.bits9 : waitsOk wireloomlaw05_DigraphMatchesReference.T9.2 wireloomlaw05_DigraphMatchesReference.B9 = true := by kernel_rfl
set_option maxHeartbeats 8000000 in
set_option maxRecDepth 100000 in
theorem wireloomlaw05_DigraphMatchesReference.calls (k : Nat) (a0_0 : Int) (a0_1 : Int) (A0_2 : Option Addr) (c0_2 : Nat) (l0_2 : List Int) (a1_0 : Int) (A1_1 : Option Addr) (c1_1 : Nat) (l1_1 : List (S55)) (A1_2 : Option Addr) (c1_2 : Nat) (l1_2 : List Int) (a1_3 : Int) (r : Bool) (w : World) (hr0_2 : Kd.C (Kd.int .u8) w A0_2 l0_2.length l0_2) (hc0_2 : l0_2.length ≤ c0_2) (hr1_1 : Kd.C k55 w A1_1 l1_1.length l1_1) (hc1_1 : l1_1.length ≤ c1_1) (hr1_2 : Kd.C (Kd.int .i64) w A1_2 l1_2.length l1_2) (hc1_2 : l1_2.length ≤ c1_2) (h : wireloomlaw05_DigraphMatchesReference.f k a0_0 a0_1 l0_2 a1_0 l1_1 l1_2 a1_3 = some r) :
  Calls Try.prog 3 #[.agg #[.int .u8 a0_0, .int .u8 a0_1, .slice A0_2 l0_2.length c0_2], .agg #[.int .i64 a1_0, .slice A1_1 l1_1.length c1_1, .slice A1_2 l1_2.length c1_2, .int .i64 a1_3]] w fun e w' => e = .returned (.bool r) ∧ Below w.heap.size w w' := by
 have hu24 := Try.underlying24
 have hu28 := Try.underlying28
 have hu31 := Try.underlying31
 have HR0_2 := Aside0.mk hr0_2
 have HC0_2 := Aside0.mk hc0_2
 clear hr0_2 hc0_2
 have HR1_1 := Aside0.mk hr1_1
 have HC1_1 := Aside0.mk hc1_1
 clear hr1_1 hc1_1
 have HR1_2 := Aside0.mk hr1_2
 have HC1_2 := Aside0.mk hc1_2
 clear hr1_2 hc1_2
 have HB := Aside0.mk (Below.refl w.heap.size w)
 have H : ((wireloomlaw05_examples.f k).bind fun t403 => (if t403 = true then (if (l1_1.length : Int) > 100 then (wireloomlaw05_DigraphMatchesReference.j0 k t403 true a0_0 a0_1 l0_2 a1_0 l1_1 l1_2 a1_3) else (wireloomlaw05_DigraphMatchesReference.j0 k t403 (decide ((l1_2.length : Int) > 40)) a0_0 a0_1 l0_2 a1_0 l1_1 l1_2 a1_3)) else (wireloomlaw05_DigraphMatchesReference.j0 k t403 true a0_0 a0_1 l0_2 a1_0 l1_1 l1_2 a1_3))) = some r := h
 clear h
 replace H := Option.bind_eq_some_iff.mp H
 obtain ⟨t403, A30, H⟩ := H
 replace H : (if t403 = true then (if (l1_1.length : Int) > 100 then (wireloomlaw05_DigraphMatchesReference.j0 k t403 true a0_0 a0_1 l0_2 a1_0 l1_1 l1_2 a1_3) else (wireloomlaw05_DigraphMatchesReference.j0 k t403 (decide ((l1_2.length : Int) > 40)) a0_0 a0_1 l0_2 a1_0 l1_1 l1_2 a1_3)) else (wireloomlaw05_DigraphMatchesReference.j0 k t403 true a0_0 a0_1 l0_2 a1_0 l1_1 l1_2 a1_3)) = some r := H
 have A3 := Aside0.mk A30
 clear A30
 have HC4 := Aside0.mk H
 clear H
 go_enter Try.func3, Try.ntmps3
 go_upto_region 2 with (first | ((with_reducible refine gate_dst (N := 2) rfl ?_); (try (refine gate_guard (by rfl) ?_; dsimp only)); refine box_event ?hg (N := 2) ?hd (cs := #[.int .u8 a0_0, .int .u8 a0_1, .slice A0_2 l0_2.length c0_2]) (t := 24) ?hr ?_; (case hd => rfl); (case hg => rfl); (case hr => first | (go_simp; done) | (go_simp; rfl)); intro gb401 hg w5 hbox hb; have BK401 := Aside0.mk (hbox); have GW401 := Aside0.mk ((by rw [hg]; exact (below_size (wB0 HB.out)) : w.heap.size ≤ gb401)); have GE401 := Aside0.mk ((by rw [hg]; exact (below_size (wB0 HB.out)) : w.heap.size ≤ gb401)); replace HB := Aside0.mk (below_step (wB0 HB.out) hb); clear hb hbox hg) | ((with_reducible refine gate_dst (N := 3) rfl ?_); (try (refine gate_guard (by rfl) ?_; dsimp only)); refine box_event ?hg (N := 3) ?hd (cs := #[.int .i64 a1_0, .slice A1_1 l1_1.length c1_1, .slice A1_2 l1_2.length c1_2, .int .i64 a1_3]) (t := 28) ?hr ?_; (case hd => rfl); (case hg => rfl); (case hr => first | (go_simp; done) | (go_simp; rfl)); intro gb402 hg w6 hbox hb; have BK402 := Aside0.mk (hbox); have GW402 := Aside0.mk ((by rw [hg]; exact (below_size (wB1 HB.out GE401.out)) : w.heap.size ≤ gb402)); have GE402 := Aside0.mk ((by rw [hg]; exact (below_size (wB1 HB.out GE401.out)) : w.heap.size ≤ gb402)); replace HB := Aside0.mk (below_step (wB1 HB.out GE401.out) hb); have NB401_402 := Aside0.mk ((by rw [hg]; exact Nat.ne_of_lt (blk_lt (g := gb401) (o := .cells #[.int .u8 a0_0, .int .u8 a0_1, .slice A0_2 l0_2.length c0_2] 24 (0, 0)) (bA BK401.out)) : gb401 ≠ gb402)); have NB402_401 := Aside0.mk ((by rw [hg]; exact Nat.ne_of_gt (blk_lt (g := gb401) (o := .cells #[.int .u8 a0_0, .int .u8 a0_1, .slice A0_2 l0_2.length c0_2] 24 (0, 0)) (bA BK401.out)) : gb402 ≠ gb401)); replace BK401 := kC BK401 hb; clear hb hbox hg) | ((with_reducible refine gate_callee (f := 10) rfl ?_); refine goesL_ (some 7) rfl rfl Try.func10 (by kernel_rfl) rfl #[] rfl (by (try simp only [List.map_toArray, List.map_cons, List.map_nil]); first | done | rfl | (simp only [List.length_drop, List.length_take]; rfl)) ?_; (with_reducible refine (wireloomlaw05_examples.calls k  t403 _ A3.out).mono ?_); rintro e w7 ⟨rfl, hb⟩; refine ⟨_, rfl, ?_⟩; replace BK401 := kC BK401 hb; replace BK402 := kC BK402 hb; replace HB := Aside0.mk (below_step (wB2 HB.out GE401.out GE402.out) hb); (try clear hb); (try clear hb2); (try clear hk); (try clear hi)))
 (try simp only [Act.put, List.setIfInBounds_toArray, List.set_cons_zero, List.set_cons_succ])
 go_cut [21] (fun v21 wc => ∃ (kq : Nat) (x21_3 : Bool), v21 = .bool x21_3 ∧ Aside0 (wireloomlaw05_DigraphMatchesReference.j0 kq t403 x21_3 a0_0 a0_1 l0_2 a1_0 l1_1 l1_2 a1_3 = some r) ∧ Aside0 (kq ≤ k) ∧ Aside0 (wc.heap[gb401]? = some (.cells #[.int .u8 a0_0, .int .u8 a0_1, (.slice A0_2 l0_2.length c0_2)] 24 (0, 0))) ∧ Aside0 (wc.heap[gb402]? = some (.cells #[.int .i64 a1_0, (.slice A1_1 l1_1.length c1_1), (.slice A1_2 l1_2.length c1_2), .int .i64 a1_3] 28 (0, 0))) ∧ Aside0 (Below w.heap.size w wc))
 case first =>
  have H := HC4.out
  clear HC4
  by_cases c8 : t403 = true
  ·subst c8
   have H1 : (if (l1_1.length : Int) > 100 then (wireloomlaw05_DigraphMatchesReference.j0 k true true a0_0 a0_1 l0_2 a1_0 l1_1 l1_2 a1_3) else (wireloomlaw05_DigraphMatchesReference.j0 k true (decide ((l1_2.length : Int) > 40)) a0_0 a0_1 l0_2 a1_0 l1_1 l1_2 a1_3)) = some r := by rw [if_pos rfl] at H; exact H
   clear H
   have H := H1
   clear H1
   by_cases c9 : (l1_1.length : Int) > 100
   ·rw [if_pos c9] at H
    have c9b0 : decide (100 < (l1_1.length : Int)) = true := decide_eq_true c9
    have c9b1 : decide (100 < l1_1.length) = true := decide_eq_true (by omega)
    clear c9
    (first | rw [c9b0] | (simp only [i64_w, i32_w]; rw [c9b0]) | skip)
    have H' := Aside0.mk H
    clear H
    have hnb10 := NB402_401.out
    have hnc10 := NB401_402.out
    have hcz11_0 : w7.cell? ⟨gb402, 0, none⟩ = some (.int .i64 a1_0) := (blk_cell BK402.out 0).trans rfl
    have hcz11_1 : w7.cell? ⟨gb402, 1, none⟩ = some (.slice A1_1 l1_1.length c1_1) := (blk_cell BK402.out 1).trans rfl
    have hcz11_2 : w7.cell? ⟨gb402, 2, none⟩ = some (.slice A1_2 l1_2.length c1_2) := (blk_cell BK402.out 2).trans rfl
    have hcz11_3 : w7.cell? ⟨gb402, 3, none⟩ = some (.int .i64 a1_3) := (blk_cell BK402.out 3).trans rfl
    have hfz11_0 := blk_frozen BK402.out 0
    have hfz11_1 := blk_frozen BK402.out 1
    have hfz11_2 := blk_frozen BK402.out 2
    have hfz11_3 := blk_frozen BK402.out 3
    go_wp2
    go_meet
    case rel => exact ⟨_, (true), rS, H', ⟨by first | omega | exact Nat.le_refl _⟩, ⟨bA BK401.out⟩, ⟨bA BK402.out⟩, ⟨wB2 HB.out GE401.out GE402.out⟩⟩
   ·rw [if_neg c9] at H
    have c9b0 : decide (100 < (l1_1.length : Int)) = false := decide_eq_false c9
    have c9b1 : decide (100 < l1_1.length) = false := decide_eq_false (by omega)
    clear c9
    (first | rw [c9b0] | (simp only [i64_w, i32_w]; rw [c9b0]) | skip)
    have H' := Aside0.mk H
    clear H
    have hnb12 := NB402_401.out
    have hnc12 := NB401_402.out
    have hcz13_0 : w7.cell? ⟨gb402, 0, none⟩ = some (.int .i64 a1_0) := (blk_cell BK402.out 0).trans rfl
    have hcz13_1 : w7.cell? ⟨gb402, 1, none⟩ = some (.slice A1_1 l1_1.length c1_1) := (blk_cell BK402.out 1).trans rfl
    have hcz13_2 : w7.cell? ⟨gb402, 2, none⟩ = some (.slice A1_2 l1_2.length c1_2) := (blk_cell BK402.out 2).trans rfl
    have hcz13_3 : w7.cell? ⟨gb402, 3, none⟩ = some (.int .i64 a1_3) := (blk_cell BK402.out 3).trans rfl
    have hfz13_0 := blk_frozen BK402.out 0
    have hfz13_1 := blk_frozen BK402.out 1
    have hfz13_2 := blk_frozen BK402.out 2
    have hfz13_3 := blk_frozen BK402.out 3
    go_wp2
    go_meet
    case rel => exact ⟨_, (decide ((l1_2.length : Int) > 40)), rS, H', ⟨by first | omega | exact Nat.le_refl _⟩, ⟨bA BK401.out⟩, ⟨bA BK402.out⟩, ⟨wB2 HB.out GE401.out GE402.out⟩⟩
  ·replace c8 := Bool.eq_false_iff.mpr c8
   subst c8
   have H1 : (wireloomlaw05_DigraphMatchesReference.j0 k false true a0_0 a0_1 l0_2 a1_0 l1_1 l1_2 a1_3) = some r := by rw [if_neg (show ¬ (false = true) by decide)] at H; exact H
   clear H
   have H := H1
   clear H1
   have H' := Aside0.mk H
   clear H
   go_wp2
   go_meet
   case rel => exact ⟨_, (true), rS, H', ⟨by first | omega | exact Nat.le_refl _⟩, ⟨bA BK401.out⟩, ⟨bA BK402.out⟩, ⟨wB2 HB.out GE401.out GE402.out⟩⟩
 case rest =>
  clear HC4
  try clear c1; try clear p2; try clear c3; try clear c8; try clear c9; try clear c9b0; try clear c9b1; try clear c10; try clear c12; try clear hcz11_0; try clear hcz11_1; try clear hcz11_2; try clear hcz11_3; try clear hcz13_0; try clear hcz13_1; try clear hcz13_2; try clear hcz13_3; try clear hfz11_0; try clear hfz11_1; try clear hfz11_2; try clear hfz11_3; try clear hfz13_0; try clear hfz13_1; try clear hfz13_2; try clear hfz13_3
  obtain ⟨kq, x21_3, rfl, HA, HJ3, BK401, BK402, HB⟩ := hcut
  cases kq with
  | zero => exact absurd HA.out (by simp [wireloomlaw05_DigraphMatchesReference.j0])
  | succ kj3 =>
   have H := HA.out
   clear HA
   simp only [wireloomlaw05_DigraphMatchesReference.j0] at H
   by_cases c14 : x21_3 = true
   ·subst c14
    have H1 : (some t403) = some r := by rw [if_pos rfl] at H; exact H
    clear H
    have H := H1
    clear H1
    obtain rfl := Option.some.inj H
    go_wp2
    go_ret
    exact ⟨eS, by repeat (first | (with_reducible first | exact HB.out | apply below_alloc | apply pw_below_drewN | apply below_drew1 | refine below_set ?_ GE401.out | refine below_set ?_ GE402.out) | exact HB.out)⟩
   ·replace c14 := Bool.eq_false_iff.mpr c14
    subst c14
    have H1 : ((wireloomref05_Made.f kj3 a0_0 a0_1 l0_2).bind fun bt404 => ((digraph_Valid.f kj3 a1_0 l1_1).bind fun t409 => ((wireloomref05_Valid.f kj3 a1_0 l1_1).bind fun t410 => (if (t409 != t410) = true then (none) else ((digraph_Valid.f kj3 bt404.1 bt404.2).bind fun t411 => (if t411 = true then ((wireloomlaw05_order.f bt404.1 bt404.2).bind fun bt412 => ((wireloomref05_OrderIn.f kj3 bt404.1 bt404.2).bind fun bt416 => ((wireloomref05_Alike.f kj3 bt412.1 bt412.2 bt416.1 bt416.2).bind fun t420 => (if t420 = true then ((wireloomlaw05_cycle.f bt404.1 bt404.2).bind fun bt421 => ((wireloomref05_CycleIn.f kj3 bt404.1 bt404.2).bind fun bt425 => ((wireloomref05_Alike.f kj3 bt421.1 bt421.2 bt425.1 bt425.2).bind fun t429 => (if t429 = true then ((wireloomlaw05_depth.f bt404.1 bt404.2).bind fun bt430 => ((wireloomref05_DepthIn.f kj3 bt404.1 bt404.2).bind fun bt434 => ((wireloomref05_Alike.f kj3 bt430.1 bt430.2 bt434.1 bt434.2).bind fun t438 => (if t438 = true then ((digraph_Check.f bt404.1 bt404.2 l1_2).bind fun t439 => ((wireloomref05_Check.f kj3 bt404.1 bt404.2 l1_2).bind fun t440 => (if t439 = t440 then ((digraph_Reach.f bt404.1 bt404.2 a1_3).bind fun t441 => ((wireloomref05_Reach.f kj3 bt404.1 bt404.2 a1_3).bind fun t444 => ((wireloomref05_Same.f kj3 t441 t444).bind fun t447 => (if t447 = true then (if t403 = true then ((digraph_Components.f bt404.1 bt404.2).bind fun t448 => ((wireloomref05_Components.f kj3 bt404.1 bt404.2).bind fun t451 => ((wireloomref05_SameLists.f kj3 t448 t451).bind fun t454 => (some t454)))) else (none)) else (none))))) else (none)))) else (none))))) else (none))))) else (none))))) else (none))))))) = some r := by rw [if_neg (show ¬ (false = true) by decide)] at H; exact H
    clear H
    have H := H1
    clear H1
    replace H := Option.bind_eq_some_iff.mp H
    obtain ⟨⟨t404, t405⟩, A150, H⟩ := H
    replace H : ((digraph_Valid.f kj3 a1_0 l1_1).bind fun t409 => ((wireloomref05_Valid.f kj3 a1_0 l1_1).bind fun t410 => (if (t409 != t410) = true then (none) else ((digraph_Valid.f kj3 t404 t405).bind fun t411 => (if t411 = true then ((wireloomlaw05_order.f t404 t405).bind fun bt412 => ((wireloomref05_OrderIn.f kj3 t404 t405).bind fun bt416 => ((wireloomref05_Alike.f kj3 bt412.1 bt412.2 bt416.1 bt416.2).bind fun t420 => (if t420 = true then ((wireloomlaw05_cycle.f t404 t405).bind fun bt421 => ((wireloomref05_CycleIn.f kj3 t404 t405).bind fun bt425 => ((wireloomref05_Alike.f kj3 bt421.1 bt421.2 bt425.1 bt425.2).bind fun t429 => (if t429 = true then ((wireloomlaw05_depth.f t404 t405).bind fun bt430 => ((wireloomref05_DepthIn.f kj3 t404 t405).bind fun bt434 => ((wireloomref05_Alike.f kj3 bt430.1 bt430.2 bt434.1 bt434.2).bind fun t438 => (if t438 = true then ((digraph_Check.f t404 t405 l1_2).bind fun t439 => ((wireloomref05_Check.f kj3 t404 t405 l1_2).bind fun t440 => (if t439 = t440 then ((digraph_Reach.f t404 t405 a1_3).bind fun t441 => ((wireloomref05_Reach.f kj3 t404 t405 a1_3).bind fun t444 => ((wireloomref05_Same.f kj3 t441 t444).bind fun t447 => (if t447 = true then (if t403 = true then ((digraph_Components.f t404 t405).bind fun t448 => ((wireloomref05_Components.f kj3 t404 t405).bind fun t451 => ((wireloomref05_SameLists.f kj3 t448 t451).bind fun t454 => (some t454)))) else (none)) else (none))))) else (none)))) else (none))))) else (none))))) else (none))))) else (none)))))) = some r := H
    have A15 := Aside0.mk A150
    clear A150
    replace H := Option.bind_eq_some_iff.mp H
    obtain ⟨t409, A160, H⟩ := H
    replace H : ((wireloomref05_Valid.f kj3 a1_0 l1_1).bind fun t410 => (if (t409 != t410) = true then (none) else ((digraph_Valid.f kj3 t404 t405).bind fun t411 => (if t411 = true then ((wireloomlaw05_order.f t404 t405).bind fun bt412 => ((wireloomref05_OrderIn.f kj3 t404 t405).bind fun bt416 => ((wireloomref05_Alike.f kj3 bt412.1 bt412.2 bt416.1 bt416.2).bind fun t420 => (if t420 = true then ((wireloomlaw05_cycle.f t404 t405).bind fun bt421 => ((wireloomref05_CycleIn.f kj3 t404 t405).bind fun bt425 => ((wireloomref05_Alike.f kj3 bt421.1 bt421.2 bt425.1 bt425.2).bind fun t429 => (if t429 = true then ((wireloomlaw05_depth.f t404 t405).bind fun bt430 => ((wireloomref05_DepthIn.f kj3 t404 t405).bind fun bt434 => ((wireloomref05_Alike.f kj3 bt430.1 bt430.2 bt434.1 bt434.2).bind fun t438 => (if t438 = true then ((digraph_Check.f t404 t405 l1_2).bind fun t439 => ((wireloomref05_Check.f kj3 t404 t405 l1_2).bind fun t440 => (if t439 = t440 then ((digraph_Reach.f t404 t405 a1_3).bind fun t441 => ((wireloomref05_Reach.f kj3 t404 t405 a1_3).bind fun t444 => ((wireloomref05_Same.f kj3 t441 t444).bind fun t447 => (if t447 = true then (if t403 = true then ((digraph_Components.f t404 t405).bind fun t448 => ((wireloomref05_Components.f kj3 t404 t405).bind fun t451 => ((wireloomref05_SameLists.f kj3 t448 t451).bind fun t454 => (some t454)))) else (none)) else (none))))) else (none)))) else (none))))) else (none))))) else (none))))) else (none))))) = some r := H
    have A16 := Aside0.mk A160
    clear A160
    replace H := Option.bind_eq_some_iff.mp H
    obtain ⟨t410, A170, H⟩ := H
    replace H : (if (t409 != t410) = true then (none) else ((digraph_Valid.f kj3 t404 t405).bind fun t411 => (if t411 = true then ((wireloomlaw05_order.f t404 t405).bind fun bt412 => ((wireloomref05_OrderIn.f kj3 t404 t405).bind fun bt416 => ((wireloomref05_Alike.f kj3 bt412.1 bt412.2 bt416.1 bt416.2).bind fun t420 => (if t420 = true then ((wireloomlaw05_cycle.f t404 t405).bind fun bt421 => ((wireloomref05_CycleIn.f kj3 t404 t405).bind fun bt425 => ((wireloomref05_Alike.f kj3 bt421.1 bt421.2 bt425.1 bt425.2).bind fun t429 => (if t429 = true then ((wireloomlaw05_depth.f t404 t405).bind fun bt430 => ((wireloomref05_DepthIn.f kj3 t404 t405).bind fun bt434 => ((wireloomref05_Alike.f kj3 bt430.1 bt430.2 bt434.1 bt434.2).bind fun t438 => (if t438 = true then ((digraph_Check.f t404 t405 l1_2).bind fun t439 => ((wireloomref05_Check.f kj3 t404 t405 l1_2).bind fun t440 => (if t439 = t440 then ((digraph_Reach.f t404 t405 a1_3).bind fun t441 => ((wireloomref05_Reach.f kj3 t404 t405 a1_3).bind fun t444 => ((wireloomref05_Same.f kj3 t441 t444).bind fun t447 => (if t447 = true then (if t403 = true then ((digraph_Components.f t404 t405).bind fun t448 => ((wireloomref05_Components.f kj3 t404 t405).bind fun t451 => ((wireloomref05_SameLists.f kj3 t448 t451).bind fun t454 => (some t454)))) else (none)) else (none))))) else (none)))) else (none))))) else (none))))) else (none))))) else (none)))) = some r := H
    have A17 := Aside0.mk A170
    clear A170
    by_cases c18 : (t409 != t410) = true
    ·rw [if_pos c18] at H
     exact absurd H (by simp)
    ·rw [if_neg c18] at H
     have c18b0 : (t409 != t410) = false := by simpa using c18
     (try (have c18b1 : decide (t409 = t410) = true := by simpa using c18))
     (try (have c18b2 : (t409 == t410) = true := by simpa using c18))
     clear c18
     replace H := Option.bind_eq_some_iff.mp H
     obtain ⟨t411, A190, H⟩ := H
     replace H : (if t411 = true then ((wireloomlaw05_order.f t404 t405).bind fun bt412 => ((wireloomref05_OrderIn.f kj3 t404 t405).bind fun bt416 => ((wireloomref05_Alike.f kj3 bt412.1 bt412.2 bt416.1 bt416.2).bind fun t420 => (if t420 = true then ((wireloomlaw05_cycle.f t404 t405).bind fun bt421 => ((wireloomref05_CycleIn.f kj3 t404 t405).bind fun bt425 => ((wireloomref05_Alike.f kj3 bt421.1 bt421.2 bt425.1 bt425.2).bind fun t429 => (if t429 = true then ((wireloomlaw05_depth.f t404 t405).bind fun bt430 => ((wireloomref05_DepthIn.f kj3 t404 t405).bind fun bt434 => ((wireloomref05_Alike.f kj3 bt430.1 bt430.2 bt434.1 bt434.2).bind fun t438 => (if t438 = true then ((digraph_Check.f t404 t405 l1_2).bind fun t439 => ((wireloomref05_Check.f kj3 t404 t405 l1_2).bind fun t440 => (if t439 = t440 then ((digraph_Reach.f t404 t405 a1_3).bind fun t441 => ((wireloomref05_Reach.f kj3 t404 t405 a1_3).bind fun t444 => ((wireloomref05_Same.f kj3 t441 t444).bind fun t447 => (if t447 = true then (if t403 = true then ((digraph_Components.f t404 t405).bind fun t448 => ((wireloomref05_Components.f kj3 t404 t405).bind fun t451 => ((wireloomref05_SameLists.f kj3 t448 t451).bind fun t454 => (some t454)))) else (none)) else (none))))) else (none)))) else (none))))) else (none))))) else (none))))) else (none)) = some r := H
     have A19 := Aside0.mk A190
     clear A190
     by_cases c20 : t411 = true
     ·subst c20
      have H1 : ((wireloomlaw05_order.f t404 t405).bind fun bt412 => ((wireloomref05_OrderIn.f kj3 t404 t405).bind fun bt416 => ((wireloomref05_Alike.f kj3 bt412.1 bt412.2 bt416.1 bt416.2).bind fun t420 => (if t420 = true then ((wireloomlaw05_cycle.f t404 t405).bind fun bt421 => ((wireloomref05_CycleIn.f kj3 t404 t405).bind fun bt425 => ((wireloomref05_Alike.f kj3 bt421.1 bt421.2 bt425.1 bt425.2).bind fun t429 => (if t429 = true then ((wireloomlaw05_depth.f t404 t405).bind fun bt430 => ((wireloomref05_DepthIn.f kj3 t404 t405).bind fun bt434 => ((wireloomref05_Alike.f kj3 bt430.1 bt430.2 bt434.1 bt434.2).bind fun t438 => (if t438 = true then ((digraph_Check.f t404 t405 l1_2).bind fun t439 => ((wireloomref05_Check.f kj3 t404 t405 l1_2).bind fun t440 => (if t439 = t440 then ((digraph_Reach.f t404 t405 a1_3).bind fun t441 => ((wireloomref05_Reach.f kj3 t404 t405 a1_3).bind fun t444 => ((wireloomref05_Same.f kj3 t441 t444).bind fun t447 => (if t447 = true then (if t403 = true then ((digraph_Components.f t404 t405).bind fun t448 => ((wireloomref05_Components.f kj3 t404 t405).bind fun t451 => ((wireloomref05_SameLists.f kj3 t448 t451).bind fun t454 => (some t454)))) else (none)) else (none))))) else (none)))) else (none))))) else (none))))) else (none))))) = some r := by rw [if_pos rfl] at H; exact H
      clear H
      have H := H1
      clear H1
      replace H := Option.bind_eq_some_iff.mp H
      obtain ⟨⟨t412, t415⟩, A210, H⟩ := H
      replace H : ((wireloomref05_OrderIn.f kj3 t404 t405).bind fun bt416 => ((wireloomref05_Alike.f kj3 t412 t415 bt416.1 bt416.2).bind fun t420 => (if t420 = true then ((wireloomlaw05_cycle.f t404 t405).bind fun bt421 => ((wireloomref05_CycleIn.f kj3 t404 t405).bind fun bt425 => ((wireloomref05_Alike.f kj3 bt421.1 bt421.2 bt425.1 bt425.2).bind fun t429 => (if t429 = true then ((wireloomlaw05_depth.f t404 t405).bind fun bt430 => ((wireloomref05_DepthIn.f kj3 t404 t405).bind fun bt434 => ((wireloomref05_Alike.f kj3 bt430.1 bt430.2 bt434.1 bt434.2).bind fun t438 => (if t438 = true then ((digraph_Check.f t404 t405 l1_2).bind fun t439 => ((wireloomref05_Check.f kj3 t404 t405 l1_2).bind fun t440 => (if t439 = t440 then ((digraph_Reach.f t404 t405 a1_3).bind fun t441 => ((wireloomref05_Reach.f kj3 t404 t405 a1_3).bind fun t444 => ((wireloomref05_Same.f kj3 t441 t444).bind fun t447 => (if t447 = true then (if t403 = true then ((digraph_Components.f t404 t405).bind fun t448 => ((wireloomref05_Components.f kj3 t404 t405).bind fun t451 => ((wireloomref05_SameLists.f kj3 t448 t451).bind fun t454 => (some t454)))) else (none)) else (none))))) else (none)))) else (none))))) else (none))))) else (none)))) = some r := H
      have A21 := Aside0.mk A210
      clear A210
      replace H := Option.bind_eq_some_iff.mp H
      obtain ⟨⟨t416, t419⟩, A220, H⟩ := H
      replace H : ((wireloomref05_Alike.f kj3 t412 t415 t416 t419).bind fun t420 => (if t420 = true then ((wireloomlaw05_cycle.f t404 t405).bind fun bt421 => ((wireloomref05_CycleIn.f kj3 t404 t405).bind fun bt425 => ((wireloomref05_Alike.f kj3 bt421.1 bt421.2 bt425.1 bt425.2).bind fun t429 => (if t429 = true then ((wireloomlaw05_depth.f t404 t405).bind fun bt430 => ((wireloomref05_DepthIn.f kj3 t404 t405).bind fun bt434 => ((wireloomref05_Alike.f kj3 bt430.1 bt430.2 bt434.1 bt434.2).bind fun t438 => (if t438 = true then ((digraph_Check.f t404 t405 l1_2).bind fun t439 => ((wireloomref05_Check.f kj3 t404 t405 l1_2).bind fun t440 => (if t439 = t440 then ((digraph_Reach.f t404 t405 a1_3).bind fun t441 => ((wireloomref05_Reach.f kj3 t404 t405 a1_3).bind fun t444 => ((wireloomref05_Same.f kj3 t441 t444).bind fun t447 => (if t447 = true then (if t403 = true then ((digraph_Components.f t404 t405).bind fun t448 => ((wireloomref05_Components.f kj3 t404 t405).bind fun t451 => ((wireloomref05_SameLists.f kj3 t448 t451).bind fun t454 => (some t454)))) else (none)) else (none))))) else (none)))) else (none))))) else (none))))) else (none))) = some r := H
      have A22 := Aside0.mk A220
      clear A220
      replace H := Option.bind_eq_some_iff.mp H
      obtain ⟨t420, A230, H⟩ := H
      replace H : (if t420 = true then ((wireloomlaw05_cycle.f t404 t405).bind fun bt421 => ((wireloomref05_CycleIn.f kj3 t404 t405).bind fun bt425 => ((wireloomref05_Alike.f kj3 bt421.1 bt421.2 bt425.1 bt425.2).bind fun t429 => (if t429 = true then ((wireloomlaw05_depth.f t404 t405).bind fun bt430 => ((wireloomref05_DepthIn.f kj3 t404 t405).bind fun bt434 => ((wireloomref05_Alike.f kj3 bt430.1 bt430.2 bt434.1 bt434.2).bind fun t438 => (if t438 = true then ((digraph_Check.f t404 t405 l1_2).bind fun t439 => ((wireloomref05_Check.f kj3 t404 t405 l1_2).bind fun t440 => (if t439 = t440 then ((digraph_Reach.f t404 t405 a1_3).bind fun t441 => ((wireloomref05_Reach.f kj3 t404 t405 a1_3).bind fun t444 => ((wireloomref05_Same.f kj3 t441 t444).bind fun t447 => (if t447 = true then (if t403 = true then ((digraph_Components.f t404 t405).bind fun t448 => ((wireloomref05_Components.f kj3 t404 t405).bind fun t451 => ((wireloomref05_SameLists.f kj3 t448 t451).bind fun t454 => (some t454)))) else (none)) else (none))))) else (none)))) else (none))))) else (none))))) else (none)) = some r := H
      have A23 := Aside0.mk A230
      clear A230
      by_cases c24 : t420 = true
      ·subst c24
       have H1 : ((wireloomlaw05_cycle.f t404 t405).bind fun bt421 => ((wireloomref05_CycleIn.f kj3 t404 t405).bind fun bt425 => ((wireloomref05_Alike.f kj3 bt421.1 bt421.2 bt425.1 bt425.2).bind fun t429 => (if t429 = true then ((wireloomlaw05_depth.f t404 t405).bind fun bt430 => ((wireloomref05_DepthIn.f kj3 t404 t405).bind fun bt434 => ((wireloomref05_Alike.f kj3 bt430.1 bt430.2 bt434.1 bt434.2).bind fun t438 => (if t438 = true then ((digraph_Check.f t404 t405 l1_2).bind fun t439 => ((wireloomref05_Check.f kj3 t404 t405 l1_2).bind fun t440 => (if t439 = t440 then ((digraph_Reach.f t404 t405 a1_3).bind fun t441 => ((wireloomref05_Reach.f kj3 t404 t405 a1_3).bind fun t444 => ((wireloomref05_Same.f kj3 t441 t444).bind fun t447 => (if t447 = true then (if t403 = true then ((digraph_Components.f t404 t405).bind fun t448 => ((wireloomref05_Components.f kj3 t404 t405).bind fun t451 => ((wireloomref05_SameLists.f kj3 t448 t451).bind fun t454 => (some t454)))) else (none)) else (none))))) else (none)))) else (none))))) else (none))))) = some r := by rw [if_pos rfl] at H; exact H
       clear H
       have H := H1
       clear H1
       replace H := Option.bind_eq_some_iff.mp H
       obtain ⟨⟨t421, t424⟩, A250, H⟩ := H
       replace H : ((wireloomref05_CycleIn.f kj3 t404 t405).bind fun bt425 => ((wireloomref05_Alike.f kj3 t421 t424 bt425.1 bt425.2).bind fun t429 => (if t429 = true then ((wireloomlaw05_depth.f t404 t405).bind fun bt430 => ((wireloomref05_DepthIn.f kj3 t404 t405).bind fun bt434 => ((wireloomref05_Alike.f kj3 bt430.1 bt430.2 bt434.1 bt434.2).bind fun t438 => (if t438 = true then ((digraph_Check.f t404 t405 l1_2).bind fun t439 => ((wireloomref05_Check.f kj3 t404 t405 l1_2).bind fun t440 => (if t439 = t440 then ((digraph_Reach.f t404 t405 a1_3).bind fun t441 => ((wireloomref05_Reach.f kj3 t404 t405 a1_3).bind fun t444 => ((wireloomref05_Same.f kj3 t441 t444).bind fun t447 => (if t447 = true then (if t403 = true then ((digraph_Components.f t404 t405).bind fun t448 => ((wireloomref05_Components.f kj3 t404 t405).bind fun t451 => ((wireloomref05_SameLists.f kj3 t448 t451).bind fun t454 => (some t454)))) else (none)) else (none))))) else (none)))) else (none))))) else (none)))) = some r := H
       have A25 := Aside0.mk A250
       clear A250
       replace H := Option.bind_eq_some_iff.mp H
       obtain ⟨⟨t425, t428⟩, A260, H⟩ := H
       replace H : ((wireloomref05_Alike.f kj3 t421 t424 t425 t428).bind fun t429 => (if t429 = true then ((wireloomlaw05_depth.f t404 t405).bind fun bt430 => ((wireloomref05_DepthIn.f kj3 t404 t405).bind fun bt434 => ((wireloomref05_Alike.f kj3 bt430.1 bt430.2 bt434.1 bt434.2).bind fun t438 => (if t438 = true then ((digraph_Check.f t404 t405 l1_2).bind fun t439 => ((wireloomref05_Check.f kj3 t404 t405 l1_2).bind fun t440 => (if t439 = t440 then ((digraph_Reach.f t404 t405 a1_3).bind fun t441 => ((wireloomref05_Reach.f kj3 t404 t405 a1_3).bind fun t444 => ((wireloomref05_Same.f kj3 t441 t444).bind fun t447 => (if t447 = true then (if t403 = true then ((digraph_Components.f t404 t405).bind fun t448 => ((wireloomref05_Components.f kj3 t404 t405).bind fun t451 => ((wireloomref05_SameLists.f kj3 t448 t451).bind fun t454 => (some t454)))) else (none)) else (none))))) else (none)))) else (none))))) else (none))) = some r := H
       have A26 := Aside0.mk A260
       clear A260
       replace H := Option.bind_eq_some_iff.mp H
       obtain ⟨t429, A270, H⟩ := H
       replace H : (if t429 = true then ((wireloomlaw05_depth.f t404 t405).bind fun bt430 => ((wireloomref05_DepthIn.f kj3 t404 t405).bind fun bt434 => ((wireloomref05_Alike.f kj3 bt430.1 bt430.2 bt434.1 bt434.2).bind fun t438 => (if t438 = true then ((digraph_Check.f t404 t405 l1_2).bind fun t439 => ((wireloomref05_Check.f kj3 t404 t405 l1_2).bind fun t440 => (if t439 = t440 then ((digraph_Reach.f t404 t405 a1_3).bind fun t441 => ((wireloomref05_Reach.f kj3 t404 t405 a1_3).bind fun t444 => ((wireloomref05_Same.f kj3 t441 t444).bind fun t447 => (if t447 = true then (if t403 = true then ((digraph_Components.f t404 t405).bind fun t448 => ((wireloomref05_Components.f kj3 t404 t405).bind fun t451 => ((wireloomref05_SameLists.f kj3 t448 t451).bind fun t454 => (some t454)))) else (none)) else (none))))) else (none)))) else (none))))) else (none)) = some r := H
       have A27 := Aside0.mk A270
       clear A270
       by_cases c28 : t429 = true
       ·subst c28
        have H1 : ((wireloomlaw05_depth.f t404 t405).bind fun bt430 => ((wireloomref05_DepthIn.f kj3 t404 t405).bind fun bt434 => ((wireloomref05_Alike.f kj3 bt430.1 bt430.2 bt434.1 bt434.2).bind fun t438 => (if t438 = true then ((digraph_Check.f t404 t405 l1_2).bind fun t439 => ((wireloomref05_Check.f kj3 t404 t405 l1_2).bind fun t440 => (if t439 = t440 then ((digraph_Reach.f t404 t405 a1_3).bind fun t441 => ((wireloomref05_Reach.f kj3 t404 t405 a1_3).bind fun t444 => ((wireloomref05_Same.f kj3 t441 t444).bind fun t447 => (if t447 = true then (if t403 = true then ((digraph_Components.f t404 t405).bind fun t448 => ((wireloomref05_Components.f kj3 t404 t405).bind fun t451 => ((wireloomref05_SameLists.f kj3 t448 t451).bind fun t454 => (some t454)))) else (none)) else (none))))) else (none)))) else (none))))) = some r := by rw [if_pos rfl] at H; exact H
        clear H
        have H := H1
        clear H1
        replace H := Option.bind_eq_some_iff.mp H
        obtain ⟨⟨t430, t433⟩, A290, H⟩ := H
        replace H : ((wireloomref05_DepthIn.f kj3 t404 t405).bind fun bt434 => ((wireloomref05_Alike.f kj3 t430 t433 bt434.1 bt434.2).bind fun t438 => (if t438 = true then ((digraph_Check.f t404 t405 l1_2).bind fun t439 => ((wireloomref05_Check.f kj3 t404 t405 l1_2).bind fun t440 => (if t439 = t440 then ((digraph_Reach.f t404 t405 a1_3).bind fun t441 => ((wireloomref05_Reach.f kj3 t404 t405 a1_3).bind fun t444 => ((wireloomref05_Same.f kj3 t441 t444).bind fun t447 => (if t447 = true then (if t403 = true then ((digraph_Components.f t404 t405).bind fun t448 => ((wireloomref05_Components.f kj3 t404 t405).bind fun t451 => ((wireloomref05_SameLists.f kj3 t448 t451).bind fun t454 => (some t454)))) else (none)) else (none))))) else (none)))) else (none)))) = some r := H
        have A29 := Aside0.mk A290
        clear A290
        replace H := Option.bind_eq_some_iff.mp H
        obtain ⟨⟨t434, t437⟩, A300, H⟩ := H
        replace H : ((wireloomref05_Alike.f kj3 t430 t433 t434 t437).bind fun t438 => (if t438 = true then ((digraph_Check.f t404 t405 l1_2).bind fun t439 => ((wireloomref05_Check.f kj3 t404 t405 l1_2).bind fun t440 => (if t439 = t440 then ((digraph_Reach.f t404 t405 a1_3).bind fun t441 => ((wireloomref05_Reach.f kj3 t404 t405 a1_3).bind fun t444 => ((wireloomref05_Same.f kj3 t441 t444).bind fun t447 => (if t447 = true then (if t403 = true then ((digraph_Components.f t404 t405).bind fun t448 => ((wireloomref05_Components.f kj3 t404 t405).bind fun t451 => ((wireloomref05_SameLists.f kj3 t448 t451).bind fun t454 => (some t454)))) else (none)) else (none))))) else (none)))) else (none))) = some r := H
        have A30 := Aside0.mk A300
        clear A300
        replace H := Option.bind_eq_some_iff.mp H
        obtain ⟨t438, A310, H⟩ := H
        replace H : (if t438 = true then ((digraph_Check.f t404 t405 l1_2).bind fun t439 => ((wireloomref05_Check.f kj3 t404 t405 l1_2).bind fun t440 => (if t439 = t440 then ((digraph_Reach.f t404 t405 a1_3).bind fun t441 => ((wireloomref05_Reach.f kj3 t404 t405 a1_3).bind fun t444 => ((wireloomref05_Same.f kj3 t441 t444).bind fun t447 => (if t447 = true then (if t403 = true then ((digraph_Components.f t404 t405).bind fun t448 => ((wireloomref05_Components.f kj3 t404 t405).bind fun t451 => ((wireloomref05_SameLists.f kj3 t448 t451).bind fun t454 => (some t454)))) else (none)) else (none))))) else (none)))) else (none)) = some r := H
        have A31 := Aside0.mk A310
        clear A310
        by_cases c32 : t438 = true
        ·subst c32
         have H1 : ((digraph_Check.f t404 t405 l1_2).bind fun t439 => ((wireloomref05_Check.f kj3 t404 t405 l1_2).bind fun t440 => (if t439 = t440 then ((digraph_Reach.f t404 t405 a1_3).bind fun t441 => ((wireloomref05_Reach.f kj3 t404 t405 a1_3).bind fun t444 => ((wireloomref05_Same.f kj3 t441 t444).bind fun t447 => (if t447 = true then (if t403 = true then ((digraph_Components.f t404 t405).bind fun t448 => ((wireloomref05_Components.f kj3 t404 t405).bind fun t451 => ((wireloomref05_SameLists.f kj3 t448 t451).bind fun t454 => (some t454)))) else (none)) else (none))))) else (none)))) = some r := by rw [if_pos rfl] at H; exact H
         clear H
         have H := H1
         clear H1
         replace H := Option.bind_eq_some_iff.mp H
         obtain ⟨t439, A330, H⟩ := H
         replace H : ((wireloomref05_Check.f kj3 t404 t405 l1_2).bind fun t440 => (if t439 = t440 then ((digraph_Reach.f t404 t405 a1_3).bind fun t441 => ((wireloomref05_Reach.f kj3 t404 t405 a1_3).bind fun t444 => ((wireloomref05_Same.f kj3 t441 t444).bind fun t447 => (if t447 = true then (if t403 = true then ((digraph_Components.f t404 t405).bind fun t448 => ((wireloomref05_Components.f kj3 t404 t405).bind fun t451 => ((wireloomref05_SameLists.f kj3 t448 t451).bind fun t454 => (some t454)))) else (none)) else (none))))) else (none))) = some r := H
         have A33 := Aside0.mk A330
         clear A330
         replace H := Option.bind_eq_some_iff.mp H
         obtain ⟨t440, A340, H⟩ := H
         replace H : (if t439 = t440 then ((digraph_Reach.f t404 t405 a1_3).bind fun t441 => ((wireloomref05_Reach.f kj3 t404 t405 a1_3).bind fun t444 => ((wireloomref05_Same.f kj3 t441 t444).bind fun t447 => (if t447 = true then (if t403 = true then ((digraph_Components.f t404 t405).bind fun t448 => ((wireloomref05_Components.f kj3 t404 t405).bind fun t451 => ((wireloomref05_SameLists.f kj3 t448 t451).bind fun t454 => (some t454)))) else (none)) else (none))))) else (none)) = some r := H
         have A34 := Aside0.mk A340
         clear A340
         by_cases c35 : t439 = t440
         rotate_left
         ·rw [if_neg c35] at H
          exact absurd H (by simp)
         rw [if_pos c35] at H
         have c35b0 : (t439 == t440) = true := beq_iff_eq.mpr c35
         have c35b1 : (t439 != t440) = false := bne_eq_false_iff_eq.mpr c35
         clear c35
         replace H := Option.bind_eq_some_iff.mp H
         obtain ⟨t441, A360, H⟩ := H
         replace H : ((wireloomref05_Reach.f kj3 t404 t405 a1_3).bind fun t444 => ((wireloomref05_Same.f kj3 t441 t444).bind fun t447 => (if t447 = true then (if t403 = true then ((digraph_Components.f t404 t405).bind fun t448 => ((wireloomref05_Components.f kj3 t404 t405).bind fun t451 => ((wireloomref05_SameLists.f kj3 t448 t451).bind fun t454 => (some t454)))) else (none)) else (none)))) = some r := H
         have A36 := Aside0.mk A360
         clear A360
         replace H := Option.bind_eq_some_iff.mp H
         obtain ⟨t444, A370, H⟩ := H
         replace H : ((wireloomref05_Same.f kj3 t441 t444).bind fun t447 => (if t447 = true then (if t403 = true then ((digraph_Components.f t404 t405).bind fun t448 => ((wireloomref05_Components.f kj3 t404 t405).bind fun t451 => ((wireloomref05_SameLists.f kj3 t448 t451).bind fun t454 => (some t454)))) else (none)) else (none))) = some r := H
         have A37 := Aside0.mk A370
         clear A370
         replace H := Option.bind_eq_some_iff.mp H
         obtain ⟨t447, A380, H⟩ := H
         replace H : (if t447 = true then (if t403 = true then ((digraph_Components.f t404 t405).bind fun t448 => ((wireloomref05_Components.f kj3 t404 t405).bind fun t451 => ((wireloomref05_SameLists.f kj3 t448 t451).bind fun t454 => (some t454)))) else (none)) else (none)) = some r := H
         have A38 := Aside0.mk A380
         clear A380
         by_cases c39 : t447 = true
         ·subst c39
          have H1 : (if t403 = true then ((digraph_Components.f t404 t405).bind fun t448 => ((wireloomref05_Components.f kj3 t404 t405).bind fun t451 => ((wireloomref05_SameLists.f kj3 t448 t451).bind fun t454 => (some t454)))) else (none)) = some r := by rw [if_pos rfl] at H; exact H
          clear H
          have H := H1
          clear H1
          by_cases c40 : t403 = true
          ·subst c40
           have H1 : ((digraph_Components.f t404 t405).bind fun t448 => ((wireloomref05_Components.f kj3 t404 t405).bind fun t451 => ((wireloomref05_SameLists.f kj3 t448 t451).bind fun t454 => (some t454)))) = some r := by rw [if_pos rfl] at H; exact H
           clear H
           have H := H1
           clear H1
           replace H := Option.bind_eq_some_iff.mp H
           obtain ⟨t448, A410, H⟩ := H
           replace H : ((wireloomref05_Components.f kj3 t404 t405).bind fun t451 => ((wireloomref05_SameLists.f kj3 t448 t451).bind fun t454 => (some t454))) = some r := H
           have A41 := Aside0.mk A410
           clear A410
           replace H := Option.bind_eq_some_iff.mp H
           obtain ⟨t451, A420, H⟩ := H
           replace H : ((wireloomref05_SameLists.f kj3 t448 t451).bind fun t454 => (some t454)) = some r := H
           have A42 := Aside0.mk A420
           clear A420
           replace H := Option.bind_eq_some_iff.mp H
           obtain ⟨t454, A430, H⟩ := H
           replace H : (some t454) = some r := H
           have A43 := Aside0.mk A430
           clear A430
           obtain rfl := Option.some.inj H
           have hnb44 := NB401_402.out
           have hnc44 := NB402_401.out
           have hcz45_0 : wc.cell? ⟨gb401, 0, none⟩ = some (.int .u8 a0_0) := (blk_cell BK401.out 0).trans rfl
           have hcz45_1 : wc.cell? ⟨gb401, 1, none⟩ = some (.int .u8 a0_1) := (blk_cell BK401.out 1).trans rfl
           have hcz45_2 : wc.cell? ⟨gb401, 2, none⟩ = some (.slice A0_2 l0_2.length c0_2) := (blk_cell BK401.out 2).trans rfl
           have hfz45_0 := blk_frozen BK401.out 0
           have hfz45_1 := blk_frozen BK401.out 1
           have hfz45_2 := blk_frozen BK401.out 2
           try go_wp2_with (first | ((with_reducible refine gate_callee (f := 11) rfl ?_); refine goesL_ (some 24) rfl rfl Try.func11 (by kernel_rfl) rfl #[.agg #[.int .u8 a0_0, .int .u8 a0_1, .slice A0_2 l0_2.length c0_2]] rfl (by (try simp only [List.map_toArray, List.map_cons, List.map_nil]); first | done | rfl | (simp only [List.length_drop, List.length_take]; rfl)) ?_; (with_reducible refine (wireloomref05_Made.calls kj3 a0_0 a0_1 _ _ l0_2 t404 t405 _ ?side1 ?side2 A15.out).mono ?_); (case side1 => exact cA (Kd.C_below HR0_2.out HB.out)); (case side2 => exact HC0_2.out); rintro e w46 ⟨v406, rfl, ho0, hb⟩; refine ⟨_, rfl, ?_⟩; have HO407 := Aside0.mk (Kd.R_lower ho0 (below_size (wB2 HB.out GE401.out GE402.out))); replace BK401 := kC BK401 hb; replace BK402 := kC BK402 hb; replace HB := Aside0.mk (below_step (wB2 HB.out GE401.out GE402.out) hb); (try clear hb); (try clear hb2); (try clear hk); (try clear hi); (try clear ho0)) | ((with_reducible refine gate_dst (N := 6) rfl ?_); (try (refine gate_guard (by rfl) ?_; dsimp only)); refine box_event ?hg (N := 6) ?hd (cs := #[.int .i64 0, .slice none 0 0]) (t := 31) ?hr ?_; (case hd => rfl); (case hg => rfl); (case hr => first | (go_simp; done) | (go_simp; rfl)); intro gb408 hg w47 hbox hb; replace HO407 := Aside0.mk (Kd.R_below (rA HO407.out) hb); have BK408 := Aside0.mk (hbox); have GW408 := Aside0.mk ((by rw [hg]; exact (below_size (wB2 HB.out GE401.out GE402.out)) : w.heap.size ≤ gb408)); have GE408 := Aside0.mk ((by rw [hg]; exact (below_size (wB2 HB.out GE401.out GE402.out)) : w.heap.size ≤ gb408)); replace HB := Aside0.mk (below_step (wB2 HB.out GE401.out GE402.out) hb); have NB401_408 := Aside0.mk ((by rw [hg]; exact Nat.ne_of_lt (blk_lt (g := gb401) (o := .cells #[.int .u8 a0_0, .int .u8 a0_1, .slice A0_2 l0_2.length c0_2] 24 (0, 0)) (bA BK401.out)) : gb401 ≠ gb408)); have NB408_401 := Aside0.mk ((by rw [hg]; exact Nat.ne_of_gt (blk_lt (g := gb401) (o := .cells #[.int .u8 a0_0, .int .u8 a0_1, .slice A0_2 l0_2.length c0_2] 24 (0, 0)) (bA BK401.out)) : gb408 ≠ gb401)); replace BK401 := kC BK401 hb; have NB402_408 := Aside0.mk ((by rw [hg]; exact Nat.ne_of_lt (blk_lt (g := gb402) (o := .cells #[.int .i64 a1_0, .slice A1_1 l1_1.length c1_1, .slice A1_2 l1_2.length c1_2, .int .i64 a1_3] 28 (0, 0)) (bA BK402.out)) : gb402 ≠ gb408)); have NB408_402 := Aside0.mk ((by rw [hg]; exact Nat.ne_of_gt (blk_lt (g := gb402) (o := .cells #[.int .i64 a1_0, .slice A1_1 l1_1.length c1_1, .slice A1_2 l1_2.length c1_2, .int .i64 a1_3] 28 (0, 0)) (bA BK402.out)) : gb408 ≠ gb402)); replace BK402 := kC BK402 hb; clear hb hbox hg; have hnb48 := NB408_401.out; have hnc48 := NB401_408.out; have hnb49 := NB408_402.out; have hnc49 := NB402_408.out; have hcz50_0 : w47.cell? ⟨gb408, 0, none⟩ = some (.int .i64 0) := (blk_cell BK408.out 0).trans rfl; have hcz50_1 : w47.cell? ⟨gb408, 1, none⟩ = some (.slice none 0 0) := (blk_cell BK408.out 1).trans rfl; have hfz50_0 := blk_frozen BK408.out 0; have hfz50_1 := blk_frozen BK408.out 1; obtain ⟨Ao51, co51, eo51⟩ := Kd.R_slice HO407.out; subst eo51))
           have n0_ : Aside0 (Kd.R k55 55 ((w47.setCell ⟨gb408, 0, none⟩ (.int .i64 t404)).setCell ⟨gb408, 1, none⟩ (.slice Ao51 t405.length co51)) w.heap.size (fun _ => True) (.slice Ao51 t405.length co51) t405) := ⟨by (with_reducible repeat (first | apply Kd.R_alloc | apply Kd.R_drewN | apply Kd.R_drew)); exact Kd.R_mono (Kd.R_far (p := ⟨gb408, 1, none⟩) (Kd.R_far (p := ⟨gb408, 0, none⟩) (Kd.R_types HO407.out BK408.out (by decide)) (fun _ hk => hk.2) (.int .i64 t404)) (fun _ hk => hk.2) (.slice Ao51 t405.length co51)) (fun _ hk => trivial)⟩
           have n1_ : Aside0 (((w47.setCell ⟨gb408, 0, none⟩ (.int .i64 t404)).setCell ⟨gb408, 1, none⟩ (.slice Ao51 t405.length co51)).heap[gb401]? = some (.cells #[.int .u8 a0_0, .int .u8 a0_1, .slice A0_2 l0_2.length c0_2] 24 (0, 0))) := ⟨by (with_reducible repeat (first | refine blk_drewN ?_ _ | refine blk_drew ?_ | refine blk_alloc ?_ _)); refine blk_far ?_ NB401_408.out _; (with_reducible repeat (first | refine blk_drewN ?_ _ | refine blk_drew ?_ | refine blk_alloc ?_ _)); refine blk_far ?_ NB401_408.out _; (with_reducible repeat (first | refine blk_drewN ?_ _ | refine blk_drew ?_ | refine blk_alloc ?_ _)); exact BK401.out⟩
           have n2_ : Aside0 (((w47.setCell ⟨gb408, 0, none⟩ (.int .i64 t404)).setCell ⟨gb408, 1, none⟩ (.slice Ao51 t405.length co51)).heap[gb402]? = some (.cells #[.int .i64 a1_0, .slice A1_1 l1_1.length c1_1, .slice A1_2 l1_2.length c1_2, .int .i64 a1_3] 28 (0, 0))) := ⟨by (with_reducible repeat (first | refine blk_drewN ?_ _ | refine blk_drew ?_ | refine blk_alloc ?_ _)); refine blk_far ?_ NB402_408.out _; (with_reducible repeat (first | refine blk_drewN ?_ _ | refine blk_drew ?_ | refine blk_alloc ?_ _)); refine blk_far ?_ NB402_408.out _; (with_reducible repeat (first | refine blk_drewN ?_ _ | refine blk_drew ?_ | refine blk_alloc ?_ _)); exact BK402.out⟩
           have n3_ : Aside0 (((w47.setCell ⟨gb408, 0, none⟩ (.int .i64 t404)).setCell ⟨gb408, 1, none⟩ (.slice Ao51 t405.length co51)).heap[gb408]? = some (.cells #[.int .i64 t404, .slice Ao51 t405.length co51] 31 (0, 0))) := ⟨by (with_reducible repeat (first | refine blk_drewN ?_ _ | refine blk_drew ?_ | refine blk_alloc ?_ _)); refine blk_put (cs := #[.int .i64 t404, .slice none 0 0]) ?_ 1 _ rfl; (with_reducible repeat (first | refine blk_drewN ?_ _ | refine blk_drew ?_ | refine blk_alloc ?_ _)); refine blk_put (cs := #[.int .i64 0, .slice none 0 0]) ?_ 0 _ rfl; (with_reducible repeat (first | refine blk_drewN ?_ _ | refine blk_drew ?_ | refine blk_alloc ?_ _)); exact BK408.out⟩
           have n4_ : Aside0 (Below w.heap.size w ((w47.setCell ⟨gb408, 0, none⟩ (.int .i64 t404)).setCell ⟨gb408, 1, none⟩ (.slice Ao51 t405.length co51))) := ⟨wB3 HB.out GE401.out GE402.out GE408.out⟩
           (try clear HO407)
           (try clear BK401)
           (try clear BK402)
           (try clear BK408)
           (try clear HB)
           generalize ((w47.setCell ⟨gb408, 0, none⟩ (.int .i64 t404)).setCell ⟨gb408, 1, none⟩ (.slice Ao51 t405.length co51)) = w52 at n0_ n1_ n2_ n3_ n4_ ⊢
           have HO407 := n0_
           have BK401 := n1_
           have BK402 := n2_
           have BK408 := n3_
           have HB := n4_
           clear n0_ n1_ n2_ n3_ n4_
           replace HO407 := Aside0.mk (Kd.R_drew HO407.out)
           replace BK401 := Aside0.mk (blk_drew BK401.out)
           replace BK402 := Aside0.mk (blk_drew BK402.out)
           replace BK408 := Aside0.mk (blk_drew BK408.out)
           replace HB := Aside0.mk (below_drew1 HB.out)
           refine start_ (n := 52) (S := fun w' => w'.cell? ⟨gb402, 0, none⟩ = some (.int .i64 a1_0) ∧ w'.cell? ⟨gb402, 1, none⟩ = some (.slice A1_1 l1_1.length c1_1) ∧ w'.cell? ⟨gb402, 2, none⟩ = some (.slice A1_2 l1_2.length c1_2) ∧ w'.cell? ⟨gb402, 3, none⟩ = some (.int .i64 a1_3) ∧ w'.cell? ⟨gb408, 0, none⟩ = some (.int .i64 t404) ∧ w'.cell? ⟨gb408, 1, none⟩ = some (.slice Ao51 t405.length co51)) (ds := []) #[false, false, false, false, false, false, false, false, false, false, false, false, false, false, false, false, false, false, false, false, false, false, false, false, false, false, false, false, false, false, false, false, false, false, false, false, false, false, false, false, false, false, false, false, false, false, false, false, false, false, false, false] (by kernel_rfl) rfl rfl ⟨(blk_cell BK402.out 0).trans rfl, (blk_cell BK402.out 1).trans rfl, (blk_cell BK402.out 2).trans rfl, (blk_cell BK402.out 3).trans rfl, (blk_cell BK408.out 0).trans rfl, (blk_cell BK408.out 1).trans rfl⟩ (fun hHeld => ?_); refine with_tabW wireloomlaw05_DigraphMatchesReference.tab5 wireloomlaw05_DigraphMatchesReference.bits5 (fun HT_ HW_ => ?_)
           generalize w52.drew = w53 at HO407 BK401 BK402 BK408 HB hHeld ⊢
           refine pV 0 25 (bz 52 0x1) HT_.out ?_
           refine pV 2 27 (bz 52 0x5) HT_.out ?_
           refine pV 5 30 (bz 52 0x25) HT_.out ?_
           refine pV 7 32 (bz 52 0xa5) HT_.out ?_
           refine tV 1 26 (bz 52 0xa7) HT_.out HW_.out hHeld rfl rfl (by rintro w' ⟨s0, s1, s2, s3, s4, s5⟩; go_simp; with_reducible rfl) ?_
           refine tV 3 28 (bz 52 0xaf) HT_.out HW_.out hHeld rfl rfl (by rintro w' ⟨s0, s1, s2, s3, s4, s5⟩; go_simp; with_reducible rfl) ?_
           refine tV 6 31 (bz 52 0xef) HT_.out HW_.out hHeld rfl rfl (by rintro w' ⟨s0, s1, s2, s3, s4, s5⟩; go_simp; with_reducible rfl) ?_
           refine tV 8 33 (bz 52 0x1ef) HT_.out HW_.out hHeld rfl rfl (by rintro w' ⟨s0, s1, s2, s3, s4, s5⟩; go_simp; with_reducible rfl) ?_
           refine one_ (i := 4) (N := some 29) (bz 52 0x1ff) rfl rfl (one_of HT_.out (by kernel_rfl)) (by decide) (fun K hK => ?_)
           refine goes_ Try.func12 (by kernel_rfl) rfl #[.int .i64 a1_0, .slice A1_1 l1_1.length c1_1] (by rfl) rfl rfl (by (try simp only [List.map_toArray, List.map_cons, List.map_nil]); first | done | rfl | (simp only [List.length_drop, List.length_take]; rfl)) ?_
           with_reducible refine (digraph_Valid.calls kj3 a1_0 _ _ l1_1 t409 _ ?side1 ?side2 A16.out).mono ?_
           (case side1 => exact cA (Kd.C_below HR1_1.out HB.out))
           (case side2 => exact HC1_1.out)
           rintro e w54 ⟨rfl, hb⟩
           refine ⟨_, rfl, ?_⟩
           replace HO407 := Aside0.mk (Kd.R_below (rA HO407.out) hb)
           replace BK401 := kC BK401 hb
           replace BK402 := kC BK402 hb
           replace BK408 := kC BK408 hb
           replace HB := Aside0.mk (below_step (wB3 HB.out GE401.out GE402.out GE408.out) hb)
           (try clear hb)
           (try clear hb2)
           (try clear hk)
           (try clear hi)
           refine hK.out _ _ ⟨(blk_cell BK402.out 0).trans rfl, (blk_cell BK402.out 1).trans rfl, (blk_cell BK402.out 2).trans rfl, (blk_cell BK402.out 3).trans rfl, (blk_cell BK408.out 0).trans rfl, (blk_cell BK408.out 1).trans rfl⟩ (fun hHeld => ?_)
           clear hK K
           refine norm_ (a' := ?_) ?_ ?_
           rotate_left
           ·show Act.put _ (some 29) _ = _
            simp only [Act.put, List.setIfInBounds_toArray, List.set_cons_zero, List.set_cons_succ, i64_w, i32_w]
            rfl
           refine one_ (i := 9) (N := some 34) (bz 52 0x3ff) rfl rfl (one_of HT_.out (by kernel_rfl)) (by decide) (fun K hK => ?_)
           refine goes_ Try.func13 (by kernel_rfl) rfl #[.int .i64 a1_0, .slice A1_1 l1_1.length c1_1] (by rfl) rfl rfl (by (try simp only [List.map_toArray, List.map_cons, List.map_nil]); first | done | rfl | (simp only [List.length_drop, List.length_take]; rfl)) ?_
           with_reducible refine (wireloomref05_Valid.calls kj3 a1_0 _ _ l1_1 t410 _ ?side1 ?side2 A17.out).mono ?_
           (case side1 => exact cA (Kd.C_below HR1_1.out HB.out))
           (case side2 => exact HC1_1.out)
           rintro e w' ⟨rfl, ⟨nd, rfl⟩⟩
           refine ⟨_, rfl, ?_⟩
           refine hK.out _ _ ⟨(blk_cell BK402.out 0).trans rfl, (blk_cell BK402.out 1).trans rfl, (blk_cell BK402.out 2).trans rfl, (blk_cell BK402.out 3).trans rfl, (blk_cell BK408.out 0).trans rfl, (blk_cell BK408.out 1).trans rfl⟩ (fun hHeld => ?_)
           clear hK K
           refine norm_ (a' := ?_) ?_ ?_
           rotate_left
           ·show Act.put _ (some 34) _ = _
            simp only [Act.put, List.setIfInBounds_toArray, List.set_cons_zero, List.set_cons_succ, i64_w, i32_w]
            rfl
           refine pV 10 35 (bz 52 0x7ff) HT_.out ?_
           refine pV 11 36 (bz 52 0xfff) HT_.out ?_
           refine pV 12 37 (bz 52 0x1fff) HT_.out ?_
           refine pV 14 39 (bz 52 0x5fff) HT_.out ?_
           refine tV 13 38 (bz 52 0x7fff) HT_.out HW_.out hHeld rfl rfl (by rintro w' ⟨s0, s1, s2, s3, s4, s5⟩; go_simp; with_reducible rfl) ?_
           refine tV 15 40 (bz 52 0xffff) HT_.out HW_.out hHeld rfl rfl (by rintro w' ⟨s0, s1, s2, s3, s4, s5⟩; go_simp; with_reducible rfl) ?_
           refine one_ (i := 16) (N := some 41) (bz 52 0x1ffff) rfl rfl (one_of HT_.out (by kernel_rfl)) (by decide) (fun K hK => ?_)
           refine goes_ Try.func12 (by kernel_rfl) rfl #[.int .i64 t404, .slice Ao51 t405.length co51] (by rfl) rfl rfl (by (try simp only [List.map_toArray, List.map_cons, List.map_nil]); first | done | rfl | (simp only [List.length_drop, List.length_take]; rfl)) ?_
           with_reducible refine (digraph_Valid.calls kj3 t404 _ _ t405 true _ ?side1 ?side2 A19.out).mono ?_
           (case side1 => exact cA (Kd.R_reads' HO407.out).2.2)
           (case side2 => exact (Kd.R_reads' HO407.out).2.1)
           rintro e w55 ⟨rfl, hb⟩
           refine ⟨_, rfl, ?_⟩
           replace HO407 := Aside0.mk (Kd.R_below (rA HO407.out) hb)
           replace BK401 := kC BK401 hb
           replace BK402 := kC BK402 hb
           replace BK408 := kC BK408 hb
           replace HB := Aside0.mk (below_step (wB3 HB.out GE401.out GE402.out GE408.out) hb)
           (try clear hb)
           (try clear hb2)
           (try clear hk)
           (try clear hi)
           refine hK.out _ _ ⟨(blk_cell BK402.out 0).trans rfl, (blk_cell BK402.out 1).trans rfl, (blk_cell BK402.out 2).trans rfl, (blk_cell BK402.out 3).trans rfl, (blk_cell BK408.out 0).trans rfl, (blk_cell BK408.out 1).trans rfl⟩ (fun hHeld => ?_)
           clear hK K
           refine norm_ (a' := ?_) ?_ ?_
           rotate_left
           ·show Act.put _ (some 41) _ = _
            simp only [Act.put, List.setIfInBounds_toArray, List.set_cons_zero, List.set_cons_succ, i64_w, i32_w]
            rfl
           refine pV 17 42 (bz 52 0x3ffff) HT_.out ?_
           refine pV 18 43 (bz 52 0x7ffff) HT_.out ?_
           refine pV 19 44 (bz 52 0xfffff) HT_.out ?_
           refine pV 22 47 (bz 52 0x4fffff) HT_.out ?_
           refine pV 24 49 (bz 52 0x14fffff) HT_.out ?_
           refine tV 20 45 (bz 52 0x15fffff) HT_.out HW_.out hHeld rfl rfl (by rintro w' ⟨s0, s1, s2, s3, s4, s5⟩; go_simp; with_reducible rfl) ?_
           refine tV 23 48 (bz 52 0x1dfffff) HT_.out HW_.out hHeld rfl rfl (by rintro w' ⟨s0, s1, s2, s3, s4, s5⟩; go_simp; with_reducible rfl) ?_
           refine tV 25 50 (bz 52 0x3dfffff) HT_.out HW_.out hHeld rfl rfl (by rintro w' ⟨s0, s1, s2, s3, s4, s5⟩; go_simp; with_reducible rfl) ?_
           refine one_ (i := 21) (N := some 46) (bz 52 0x3ffffff) rfl rfl (one_of HT_.out (by kernel_rfl)) (by decide) (fun K hK => ?_)
           refine goes_ Try.func15 (by kernel_rfl) rfl #[.agg #[.int .i64 t404, .slice Ao51 t405.length co51]] (by rfl) rfl rfl (by (try simp only [List.map_toArray, List.map_cons, List.map_nil]); first | done | rfl | (simp only [List.length_drop, List.length_take]; rfl)) ?_
           with_reducible refine (wireloomlaw05_order.calls t404 _ _ t405 t412 t415 _ ?side1 ?side2 A21.out).mono ?_
           (case side1 => exact cA (Kd.R_reads' HO407.out).2.2)
           (case side2 => exact (Kd.R_reads' HO407.out).2.1)
           rintro e w56 ⟨v413, rfl, ho0, hb⟩
           refine ⟨_, rfl, ?_⟩
           replace HO407 := Aside0.mk (Kd.R_below (rA HO407.out) hb)
           have HO414 := Aside0.mk (Kd.R_lower ho0 (below_size (wB3 HB.out GE401.out GE402.out GE408.out)))
           replace BK401 := kC BK401 hb
           replace BK402 := kC BK402 hb
           replace BK408 := kC BK408 hb
           replace HB := Aside0.mk (below_step (wB3 HB.out GE401.out GE402.out GE408.out) hb)
           (try clear hb)
           (try clear hb2)
           (try clear hk)
           (try clear hi)
           (try clear ho0)
           refine hK.out _ _ ⟨(blk_cell BK402.out 0).trans rfl, (blk_cell BK402.out 1).trans rfl, (blk_cell BK402.out 2).trans rfl, (blk_cell BK402.out 3).trans rfl, (blk_cell BK408.out 0).trans rfl, (blk_cell BK408.out 1).trans rfl⟩ (fun hHeld => ?_)
           clear hK K
           refine norm_ (a' := ?_) ?_ ?_
           rotate_left
           ·show Act.put _ (some 46) _ = _
            simp only [Act.put, List.setIfInBounds_toArray, List.set_cons_zero, List.set_cons_succ, i64_w, i32_w]
            rfl
           refine one_ (i := 26) (N := some 51) (bz 52 0x7ffffff) rfl rfl (one_of HT_.out (by kernel_rfl)) (by decide) (fun K hK => ?_)
           refine goes_ Try.func16 (by kernel_rfl) rfl #[.int .i64 t404, .slice Ao51 t405.length co51] (by rfl) rfl rfl (by (try simp only [List.map_toArray, List.map_cons, List.map_nil]); first | done | rfl | (simp only [List.length_drop, List.length_take]; rfl)) ?_
           with_reducible refine (wireloomref05_OrderIn.calls kj3 t404 _ _ t405 t416 t419 _ ?side1 ?side2 A22.out).mono ?_
           (case side1 => exact cA (Kd.R_reads' HO407.out).2.2)
           (case side2 => exact (Kd.R_reads' HO407.out).2.1)
           rintro e w57 ⟨v417, rfl, ho0, hb⟩
           refine ⟨_, rfl, ?_⟩
           replace HO407 := Aside0.mk (Kd.R_below (rA HO407.out) hb)
           have HO418 := Aside0.mk (Kd.R_lower (Kd.R_new' ho0 (Kd.R_lt (rA HO414.out))) (below_size (wB3 HB.out GE401.out GE402.out GE408.out)))
           replace HO414 := Aside0.mk (Kd.R_elder' (rA HO414.out) (Kd.R_base ho0) hb)
           replace BK401 := kC BK401 hb
           replace BK402 := kC BK402 hb
           replace BK408 := kC BK408 hb
           replace HB := Aside0.mk (below_step (wB3 HB.out GE401.out GE402.out GE408.out) hb)
           (try clear hb)
           (try clear hb2)
           (try clear hk)
           (try clear hi)
           (try clear ho0)
           obtain ⟨Ao58, co58, eo58⟩ := Kd.R_slice HO414.out
           (first | subst eo58 | (injection eo58 with f1_ f2_ f3_; have f4_ := f1_.symm; have f5_ := f3_.symm; clear f1_ f2_ f3_; subst f4_; subst f5_))
           obtain ⟨Ao59, co59, eo59⟩ := Kd.R_slice HO418.out
           (first | subst eo59 | (injection eo59 with f1_ f2_ f3_; have f4_ := f1_.symm; have f5_ := f3_.symm; clear f1_ f2_ f3_; subst f4_; subst f5_))
           refine hK.out _ _ ⟨(blk_cell BK402.out 0).trans rfl, (blk_cell BK402.out 1).trans rfl, (blk_cell BK402.out 2).trans rfl, (blk_cell BK402.out 3).trans rfl, (blk_cell BK408.out 0).trans rfl, (blk_cell BK408.out 1).trans rfl⟩ (fun hHeld => ?_)
           clear hK K
           refine norm_ (a' := ?_) ?_ ?_
           rotate_left
           ·show Act.put _ (some 51) _ = _
            simp only [Act.put, List.setIfInBounds_toArray, List.set_cons_zero, List.set_cons_succ, i64_w, i32_w]
            rfl
           refine one_ (i := 27) (N := some 52) (bz 52 0xfffffff) rfl rfl (one_of HT_.out (by kernel_rfl)) (by decide) (fun K hK => ?_)
           refine goes_ Try.func14 (by kernel_rfl) rfl #[.agg #[.slice Ao58 t412.length co58, .int .i64 t415], .agg #[.slice Ao59 t416.length co59, .int .i64 t419]] (by rfl) rfl rfl (by (try simp only [List.map_toArray, List.map_cons, List.map_nil]); first | done | rfl | (simp only [List.length_drop, List.length_take]; rfl)) ?_
           with_reducible refine (wireloomref05_Alike.calls kj3 _ _ t412 t415 _ _ t416 t419 true _ ?side1 ?side2 ?side3 ?side4 A23.out).mono ?_
           (case side1 => exact cA (Kd.R_reads' HO414.out).2.2)
           (case side2 => exact (Kd.R_reads' HO414.out).2.1)
           (case side3 => exact cA (Kd.R_reads' HO418.out).2.2)
           (case side4 => exact (Kd.R_reads' HO418.out).2.1)
           rintro e w60 ⟨rfl, hb⟩
           refine ⟨_, rfl, ?_⟩
           replace HO407 := Aside0.mk (Kd.R_below (rA HO407.out) hb)
           replace HO414 := Aside0.mk (Kd.R_below (rA HO414.out) hb)
           replace HO418 := Aside0.mk (Kd.R_below (rA HO418.out) hb)
           replace BK401 := kC BK401 hb
           replace BK402 := kC BK402 hb
           replace BK408 := kC BK408 hb
           replace HB := Aside0.mk (below_step (wB3 HB.out GE401.out GE402.out GE408.out) hb)
           (try clear hb)
           (try clear hb2)
           (try clear hk)
           (try clear hi)
           refine hK.out _ _ ⟨(blk_cell BK402.out 0).trans rfl, (blk_cell BK402.out 1).trans rfl, (blk_cell BK402.out 2).trans rfl, (blk_cell BK402.out 3).trans rfl, (blk_cell BK408.out 0).trans rfl, (blk_cell BK408.out 1).trans rfl⟩ (fun hHeld => ?_)
           clear hK K
           refine norm_ (a' := ?_) ?_ ?_
           rotate_left
           ·show Act.put _ (some 52) _ = _
            simp only [Act.put, List.setIfInBounds_toArray, List.set_cons_zero, List.set_cons_succ, i64_w, i32_w]
            rfl
           refine pV 28 53 (bz 52 0x1fffffff) HT_.out ?_
           refine pV 29 54 (bz 52 0x3fffffff) HT_.out ?_
           refine pV 30 55 (bz 52 0x7fffffff) HT_.out ?_
           refine pV 33 58 (bz 52 0x27fffffff) HT_.out ?_
           refine pV 35 60 (bz 52 0xa7fffffff) HT_.out ?_
           refine tV 31 56 (bz 52 0xaffffffff) HT_.out HW_.out hHeld rfl rfl (by rintro w' ⟨s0, s1, s2, s3, s4, s5⟩; go_simp; with_reducible rfl) ?_
           refine tV 34 59 (bz 52 0xeffffffff) HT_.out HW_.out hHeld rfl rfl (by rintro w' ⟨s0, s1, s2, s3, s4, s5⟩; go_simp; with_reducible rfl) ?_
           refine tV 36 61 (bz 52 0x1effffffff) HT_.out HW_.out hHeld rfl rfl (by rintro w' ⟨s0, s1, s2, s3, s4, s5⟩; go_simp; with_reducible rfl) ?_
           refine one_ (i := 32) (N := some 57) (bz 52 0x1fffffffff) rfl rfl (one_of HT_.out (by kernel_rfl)) (by decide) (fun K hK => ?_)
           refine goes_ Try.func17 (by kernel_rfl) rfl #[.agg #[.int .i64 t404, .slice Ao51 t405.length co51]] (by rfl) rfl rfl (by (try simp only [List.map_toArray, List.map_cons, List.map_nil]); first | done | rfl | (simp only [List.length_drop, List.length_take]; rfl)) ?_
           with_reducible refine (wireloomlaw05_cycle.calls t404 _ _ t405 t421 t424 _ ?side1 ?side2 A25.out).mono ?_
           (case side1 => exact cA (Kd.R_reads' HO407.out).2.2)
           (case side2 => exact (Kd.R_reads' HO407.out).2.1)
           rintro e w61 ⟨v422, rfl, ho0, hb⟩
           refine ⟨_, rfl, ?_⟩
           replace HO407 := Aside0.mk (Kd.R_below (rA HO407.out) hb)
           have HO423 := Aside0.mk (Kd.R_lower (Kd.R_new' (Kd.R_new' ho0 (Kd.R_lt (rA HO414.out))) (Kd.R_lt (rA HO418.out))) (below_size (wB3 HB.out GE401.out GE402.out GE408.out)))
           replace HO414 := Aside0.mk (Kd.R_elder' (rA HO414.out) (Kd.R_base ho0) hb)
           replace HO418 := Aside0.mk (Kd.R_elder' (rA HO418.out) (Kd.R_base ho0) hb)
           replace BK401 := kC BK401 hb
           replace BK402 := kC BK402 hb
           replace BK408 := kC BK408 hb
           replace HB := Aside0.mk (below_step (wB3 HB.out GE401.out GE402.out GE408.out) hb)
           (try clear hb)
           (try clear hb2)
           (try clear hk)
           (try clear hi)
           (try clear ho0)
           refine hK.out _ _ ⟨(blk_cell BK402.out 0).trans rfl, (blk_cell BK402.out 1).trans rfl, (blk_cell BK402.out 2).trans rfl, (blk_cell BK402.out 3).trans rfl, (blk_cell BK408.out 0).trans rfl, (blk_cell BK408.out 1).trans rfl⟩ (fun hHeld => ?_)
           clear hK K
           refine norm_ (a' := ?_) ?_ ?_
           rotate_left
           ·show Act.put _ (some 57) _ = _
            simp only [Act.put, List.setIfInBounds_toArray, List.set_cons_zero, List.set_cons_succ, i64_w, i32_w]
            rfl
           refine one_ (i := 37) (N := some 62) (bz 52 0x3fffffffff) rfl rfl (one_of HT_.out (by kernel_rfl)) (by decide) (fun K hK => ?_)
           refine goes_ Try.func18 (by kernel_rfl) rfl #[.int .i64 t404, .slice Ao51 t405.length co51] (by rfl) rfl rfl (by (try simp only [List.map_toArray, List.map_cons, List.map_nil]); first | done | rfl | (simp only [List.length_drop, List.length_take]; rfl)) ?_
           with_reducible refine (wireloomref05_CycleIn.calls kj3 t404 _ _ t405 t425 t428 _ ?side1 ?side2 A26.out).mono ?_
           (case side1 => exact cA (Kd.R_reads' HO407.out).2.2)
           (case side2 => exact (Kd.R_reads' HO407.out).2.1)
           rintro e w62 ⟨v426, rfl, ho0, hb⟩
           refine ⟨_, rfl, ?_⟩
           replace HO407 := Aside0.mk (Kd.R_below (rA HO407.out) hb)
           have HO427 := Aside0.mk (Kd.R_lower (Kd.R_new' (Kd.R_new' (Kd.R_new' ho0 (Kd.R_lt (rA HO414.out))) (Kd.R_lt (rA HO418.out))) (Kd.R_lt (rA HO423.out))) (below_size (wB3 HB.out GE401.out GE402.out GE408.out)))
           replace HO414 := Aside0.mk (Kd.R_elder' (rA HO414.out) (Kd.R_base ho0) hb)
           replace HO418 := Aside0.mk (Kd.R_elder' (rA HO418.out) (Kd.R_base ho0) hb)
           replace HO423 := Aside0.mk (Kd.R_elder' (rA HO423.out) (Kd.R_base ho0) hb)
           replace BK401 := kC BK401 hb
           replace BK402 := kC BK402 hb
           replace BK408 := kC BK408 hb
           replace HB := Aside0.mk (below_step (wB3 HB.out GE401.out GE402.out GE408.out) hb)
           (try clear hb)
           (try clear hb2)
           (try clear hk)
           (try clear hi)
           (try clear ho0)
           obtain ⟨Ao63, co63, eo63⟩ := Kd.R_slice HO423.out
           (first | subst eo63 | (injection eo63 with f1_ f2_ f3_; have f4_ := f1_.symm; have f5_ := f3_.symm; clear f1_ f2_ f3_; subst f4_; subst f5_))
           obtain ⟨Ao64, co64, eo64⟩ := Kd.R_slice HO427.out
           (first | subst eo64 | (injection eo64 with f1_ f2_ f3_; have f4_ := f1_.symm; have f5_ := f3_.symm; clear f1_ f2_ f3_; subst f4_; subst f5_))
           refine hK.out _ _ ⟨(blk_cell BK402.out 0).trans rfl, (blk_cell BK402.out 1).trans rfl, (blk_cell BK402.out 2).trans rfl, (blk_cell BK402.out 3).trans rfl, (blk_cell BK408.out 0).trans rfl, (blk_cell BK408.out 1).trans rfl⟩ (fun hHeld => ?_)
           clear hK K
           refine norm_ (a' := ?_) ?_ ?_
           rotate_left
           ·show Act.put _ (some 62) _ = _
            simp only [Act.put, List.setIfInBounds_toArray, List.set_cons_zero, List.set_cons_succ, i64_w, i32_w]
            rfl
           refine one_ (i := 38) (N := some 63) (bz 52 0x7fffffffff) rfl rfl (one_of HT_.out (by kernel_rfl)) (by decide) (fun K hK => ?_)
           refine goes_ Try.func14 (by kernel_rfl) rfl #[.agg #[.slice Ao63 t421.length co63, .int .i64 t424], .agg #[.slice Ao64 t425.length co64, .int .i64 t428]] (by rfl) rfl rfl (by (try simp only [List.map_toArray, List.map_cons, List.map_nil]); first | done | rfl | (simp only [List.length_drop, List.length_take]; rfl)) ?_
           with_reducible refine (wireloomref05_Alike.calls kj3 _ _ t421 t424 _ _ t425 t428 true _ ?side1 ?side2 ?side3 ?side4 A27.out).mono ?_
           (case side1 => exact cA (Kd.R_reads' HO423.out).2.2)
           (case side2 => exact (Kd.R_reads' HO423.out).2.1)
           (case side3 => exact cA (Kd.R_reads' HO427.out).2.2)
           (case side4 => exact (Kd.R_reads' HO427.out).2.1)
           rintro e w65 ⟨rfl, hb⟩
           refine ⟨_, rfl, ?_⟩
           replace HO407 := Aside0.mk (Kd.R_below (rA HO407.out) hb)
           replace HO414 := Aside0.mk (Kd.R_below (rA HO414.out) hb)
           replace HO418 := Aside0.mk (Kd.R_below (rA HO418.out) hb)
           replace HO423 := Aside0.mk (Kd.R_below (rA HO423.out) hb)
           replace HO427 := Aside0.mk (Kd.R_below (rA HO427.out) hb)
           replace BK401 := kC BK401 hb
           replace BK402 := kC BK402 hb
           replace BK408 := kC BK408 hb
           replace HB := Aside0.mk (below_step (wB3 HB.out GE401.out GE402.out GE408.out) hb)
           (try clear hb)
           (try clear hb2)
           (try clear hk)
           (try clear hi)
           refine hK.out _ _ ⟨(blk_cell BK402.out 0).trans rfl, (blk_cell BK402.out 1).trans rfl, (blk_cell BK402.out 2).trans rfl, (blk_cell BK402.out 3).trans rfl, (blk_cell BK408.out 0).trans rfl, (blk_cell BK408.out 1).trans rfl⟩ (fun hHeld => ?_)
           clear hK K
           refine norm_ (a' := ?_) ?_ ?_
           rotate_left
           ·show Act.put _ (some 63) _ = _
            simp only [Act.put, List.setIfInBounds_toArray, List.set_cons_zero, List.set_cons_succ, i64_w, i32_w]
            rfl
           refine pV 39 64 (bz 52 0xffffffffff) HT_.out ?_
           refine pV 40 65 (bz 52 0x1ffffffffff) HT_.out ?_
           refine pV 41 66 (bz 52 0x3ffffffffff) HT_.out ?_
           refine pV 44 69 (bz 52 0x13ffffffffff) HT_.out ?_
           refine pV 46 71 (bz 52 0x53ffffffffff) HT_.out ?_
           refine tV 42 67 (bz 52 0x57ffffffffff) HT_.out HW_.out hHeld rfl rfl (by rintro w' ⟨s0, s1, s2, s3, s4, s5⟩; go_simp; with_reducible rfl) ?_
           refine tV 45 70 (bz 52 0x77ffffffffff) HT_.out HW_.out hHeld rfl rfl (by rintro w' ⟨s0, s1, s2, s3, s4, s5⟩; go_simp; with_reducible rfl) ?_
           refine tV 47 72 (bz 52 0xf7ffffffffff) HT_.out HW_.out hHeld rfl rfl (by rintro w' ⟨s0, s1, s2, s3, s4, s5⟩; go_simp; with_reducible rfl) ?_
           refine one_ (i := 43) (N := some 68) (bz 52 0xffffffffffff) rfl rfl (one_of HT_.out (by kernel_rfl)) (by decide) (fun K hK => ?_)
           refine goes_ Try.func19 (by kernel_rfl) rfl #[.agg #[.int .i64 t404, .slice Ao51 t405.length co51]] (by rfl) rfl rfl (by (try simp only [List.map_toArray, List.map_cons, List.map_nil]); first | done | rfl | (simp only [List.length_drop, List.length_take]; rfl)) ?_
           with_reducible refine (wireloomlaw05_depth.calls t404 _ _ t405 t430 t433 _ ?side1 ?side2 A29.out).mono ?_
           (case side1 => exact cA (Kd.R_reads' HO407.out).2.2)
           (case side2 => exact (Kd.R_reads' HO407.out).2.1)
           rintro e w66 ⟨v431, rfl, ho0, hb⟩
           refine ⟨_, rfl, ?_⟩
           replace HO407 := Aside0.mk (Kd.R_below (rA HO407.out) hb)
           have HO432 := Aside0.mk (Kd.R_lower (Kd.R_new' (Kd.R_new' (Kd.R_new' (Kd.R_new' ho0 (Kd.R_lt (rA HO414.out))) (Kd.R_lt (rA HO418.out))) (Kd.R_lt (rA HO423.out))) (Kd.R_lt (rA HO427.out))) (below_size (wB3 HB.out GE401.out GE402.out GE408.out)))
           replace HO414 := Aside0.mk (Kd.R_elder' (rA HO414.out) (Kd.R_base ho0) hb)
           replace HO418 := Aside0.mk (Kd.R_elder' (rA HO418.out) (Kd.R_base ho0) hb)
           replace HO423 := Aside0.mk (Kd.R_elder' (rA HO423.out) (Kd.R_base ho0) hb)
           replace HO427 := Aside0.mk (Kd.R_elder' (rA HO427.out) (Kd.R_base ho0) hb)
           replace BK401 := kC BK401 hb
           replace BK402 := kC BK402 hb
           replace BK408 := kC BK408 hb
           replace HB := Aside0.mk (below_step (wB3 HB.out GE401.out GE402.out GE408.out) hb)
           (try clear hb)
           (try clear hb2)
           (try clear hk)
           (try clear hi)
           (try clear ho0)
           refine hK.out _ _ ⟨(blk_cell BK402.out 0).trans rfl, (blk_cell BK402.out 1).trans rfl, (blk_cell BK402.out 2).trans rfl, (blk_cell BK402.out 3).trans rfl, (blk_cell BK408.out 0).trans rfl, (blk_cell BK408.out 1).trans rfl⟩ (fun hHeld => ?_)
           clear hK K
           refine norm_ (a' := ?_) ?_ ?_
           rotate_left
           ·show Act.put _ (some 68) _ = _
            simp only [Act.put, List.setIfInBounds_toArray, List.set_cons_zero, List.set_cons_succ, i64_w, i32_w]
            rfl
           refine one_ (i := 48) (N := some 73) (bz 52 0x1ffffffffffff) rfl rfl (one_of HT_.out (by kernel_rfl)) (by decide) (fun K hK => ?_)
           refine goes_ Try.func20 (by kernel_rfl) rfl #[.int .i64 t404, .slice Ao51 t405.length co51] (by rfl) rfl rfl (by (try simp only [List.map_toArray, List.map_cons, List.map_nil]); first | done | rfl | (simp only [List.length_drop, List.length_take]; rfl)) ?_
           with_reducible refine (wireloomref05_DepthIn.calls kj3 t404 _ _ t405 t434 t437 _ ?side1 ?side2 A30.out).mono ?_
           (case side1 => exact cA (Kd.R_reads' HO407.out).2.2)
           (case side2 => exact (Kd.R_reads' HO407.out).2.1)
           rintro e w67 ⟨v435, rfl, ho0, hb⟩
           refine ⟨_, rfl, ?_⟩
           replace HO407 := Aside0.mk (Kd.R_below (rA HO407.out) hb)
           have HO436 := Aside0.mk (Kd.R_lower (Kd.R_new' (Kd.R_new' (Kd.R_new' (Kd.R_new' (Kd.R_new' ho0 (Kd.R_lt (rA HO414.out))) (Kd.R_lt (rA HO418.out))) (Kd.R_lt (rA HO423.out))) (Kd.R_lt (rA HO427.out))) (Kd.R_lt (rA HO432.out))) (below_size (wB3 HB.out GE401.out GE402.out GE408.out)))
           replace HO414 := Aside0.mk (Kd.R_elder' (rA HO414.out) (Kd.R_base ho0) hb)
           replace HO418 := Aside0.mk (Kd.R_elder' (rA HO418.out) (Kd.R_base ho0) hb)
           replace HO423 := Aside0.mk (Kd.R_elder' (rA HO423.out) (Kd.R_base ho0) hb)
           replace HO427 := Aside0.mk (Kd.R_elder' (rA HO427.out) (Kd.R_base ho0) hb)
           replace HO432 := Aside0.mk (Kd.R_elder' (rA HO432.out) (Kd.R_base ho0) hb)
           replace BK401 := kC BK401 hb
           replace BK402 := kC BK402 hb
           replace BK408 := kC BK408 hb
           replace HB := Aside0.mk (below_step (wB3 HB.out GE401.out GE402.out GE408.out) hb)
           (try clear hb)
           (try clear hb2)
           (try clear hk)
           (try clear hi)
           (try clear ho0)
           obtain ⟨Ao68, co68, eo68⟩ := Kd.R_slice HO432.out
           (first | subst eo68 | (injection eo68 with f1_ f2_ f3_; have f4_ := f1_.symm; have f5_ := f3_.symm; clear f1_ f2_ f3_; subst f4_; subst f5_))
           obtain ⟨Ao69, co69, eo69⟩ := Kd.R_slice HO436.out
           (first | subst eo69 | (injection eo69 with f1_ f2_ f3_; have f4_ := f1_.symm; have f5_ := f3_.symm; clear f1_ f2_ f3_; subst f4_; subst f5_))
           refine hK.out _ _ ⟨(blk_cell BK402.out 0).trans rfl, (blk_cell BK402.out 1).trans rfl, (blk_cell BK402.out 2).trans rfl, (blk_cell BK402.out 3).trans rfl, (blk_cell BK408.out 0).trans rfl, (blk_cell BK408.out 1).trans rfl⟩ (fun hHeld => ?_)
           clear hK K
           refine norm_ (a' := ?_) ?_ ?_
           rotate_left
           ·show Act.put _ (some 73) _ = _
            simp only [Act.put, List.setIfInBounds_toArray, List.set_cons_zero, List.set_cons_succ, i64_w, i32_w]
            rfl
           refine one_ (i := 49) (N := some 74) (bz 52 0x3ffffffffffff) rfl rfl (one_of HT_.out (by kernel_rfl)) (by decide) (fun K hK => ?_)
           refine goes_ Try.func14 (by kernel_rfl) rfl #[.agg #[.slice Ao68 t430.length co68, .int .i64 t433], .agg #[.slice Ao69 t434.length co69, .int .i64 t437]] (by rfl) rfl rfl (by (try simp only [List.map_toArray, List.map_cons, List.map_nil]); first | done | rfl | (simp only [List.length_drop, List.length_take]; rfl)) ?_
           with_reducible refine (wireloomref05_Alike.calls kj3 _ _ t430 t433 _ _ t434 t437 true _ ?side1 ?side2 ?side3 ?side4 A31.out).mono ?_
           (case side1 => exact cA (Kd.R_reads' HO432.out).2.2)
           (case side2 => exact (Kd.R_reads' HO432.out).2.1)
           (case side3 => exact cA (Kd.R_reads' HO436.out).2.2)
           (case side4 => exact (Kd.R_reads' HO436.out).2.1)
           rintro e w70 ⟨rfl, hb⟩
           refine ⟨_, rfl, ?_⟩
           replace HO407 := Aside0.mk (Kd.R_below (rA HO407.out) hb)
           replace HO414 := Aside0.mk (Kd.R_below (rA HO414.out) hb)
           replace HO418 := Aside0.mk (Kd.R_below (rA HO418.out) hb)
           replace HO423 := Aside0.mk (Kd.R_below (rA HO423.out) hb)
           replace HO427 := Aside0.mk (Kd.R_below (rA HO427.out) hb)
           replace HO432 := Aside0.mk (Kd.R_below (rA HO432.out) hb)
           replace HO436 := Aside0.mk (Kd.R_below (rA HO436.out) hb)
           replace BK401 := kC BK401 hb
           replace BK402 := kC BK402 hb
           replace BK408 := kC BK408 hb
           replace HB := Aside0.mk (below_step (wB3 HB.out GE401.out GE402.out GE408.out) hb)
           (try clear hb)
           (try clear hb2)
           (try clear hk)
           (try clear hi)
           refine hK.out _ _ ⟨(blk_cell BK402.out 0).trans rfl, (blk_cell BK402.out 1).trans rfl, (blk_cell BK402.out 2).trans rfl, (blk_cell BK402.out 3).trans rfl, (blk_cell BK408.out 0).trans rfl, (blk_cell BK408.out 1).trans rfl⟩ (fun hHeld => ?_)
           clear hK K
           refine norm_ (a' := ?_) ?_ ?_
           rotate_left
           ·show Act.put _ (some 74) _ = _
            simp only [Act.put, List.setIfInBounds_toArray, List.set_cons_zero, List.set_cons_succ, i64_w, i32_w]
            rfl
           refine pV 50 75 (bz 52 0x7ffffffffffff) HT_.out ?_
           refine pV 51 76 (bz 52 0xfffffffffffff) HT_.out ?_
           refine done_ (done_of HT_.out (by kernel_rfl)) ?_
           try go_wp2
           replace HO407 := Aside0.mk (Kd.R_drew HO407.out)
           replace HO414 := Aside0.mk (Kd.R_drew HO414.out)
           replace HO418 := Aside0.mk (Kd.R_drew HO418.out)
           replace HO423 := Aside0.mk (Kd.R_drew HO423.out)
           replace HO427 := Aside0.mk (Kd.R_drew HO427.out)
           replace HO432 := Aside0.mk (Kd.R_drew HO432.out)
           replace HO436 := Aside0.mk (Kd.R_drew HO436.out)
           replace BK401 := Aside0.mk (blk_drew BK401.out)
           replace BK402 := Aside0.mk (blk_drew BK402.out)
           replace BK408 := Aside0.mk (blk_drew BK408.out)
           replace HB := Aside0.mk (below_drew1 HB.out)
           refine start_ (n := 33) (S := fun w' => w'.cell? ⟨gb408, 0, none⟩ = some (.int .i64 t404) ∧ w'.cell? ⟨gb408, 1, none⟩ = some (.slice Ao51 t405.length co51) ∧ w'.cell? ⟨gb402, 0, none⟩ = some (.int .i64 a1_0) ∧ w'.cell? ⟨gb402, 1, none⟩ = some (.slice A1_1 l1_1.length c1_1) ∧ w'.cell? ⟨gb402, 2, none⟩ = some (.slice A1_2 l1_2.length c1_2) ∧ w'.cell? ⟨gb402, 3, none⟩ = some (.int .i64 a1_3)) (ds := []) #[false, false, false, false, false, false, false, false, false, false, false, false, false, false, false, false, false, false, false, false, false, false, false, false, false, false, false, false, false, false, false, false, false] (by kernel_rfl) rfl rfl ⟨(blk_cell BK408.out 0).trans rfl, (blk_cell BK408.out 1).trans rfl, (blk_cell BK402.out 0).trans rfl, (blk_cell BK402.out 1).trans rfl, (blk_cell BK402.out 2).trans rfl, (blk_cell BK402.out 3).trans rfl⟩ (fun hHeld => ?_); refine with_tabW wireloomlaw05_DigraphMatchesReference.tab7 wireloomlaw05_DigraphMatchesReference.bits7 (fun HT_ HW_ => ?_)
           generalize w70.drew = w71 at HO407 HO414 HO418 HO423 HO427 HO432 HO436 BK401 BK402 BK408 HB hHeld ⊢
           refine pV 0 77 (bz 33 0x1) HT_.out ?_
           refine pV 2 79 (bz 33 0x5) HT_.out ?_
           refine pV 4 81 (bz 33 0x15) HT_.out ?_
           refine pV 7 84 (bz 33 0x95) HT_.out ?_
           refine pV 9 86 (bz 33 0x295) HT_.out ?_
           refine pV 11 88 (bz 33 0xa95) HT_.out ?_
           refine tV 1 78 (bz 33 0xa97) HT_.out HW_.out hHeld rfl rfl (by rintro w' ⟨s0, s1, s2, s3, s4, s5⟩; go_simp; with_reducible rfl) ?_
           refine tV 3 80 (bz 33 0xa9f) HT_.out HW_.out hHeld rfl rfl (by rintro w' ⟨s0, s1, s2, s3, s4, s5⟩; go_simp; with_reducible rfl) ?_
           refine tV 5 82 (bz 33 0xabf) HT_.out HW_.out hHeld rfl rfl (by rintro w' ⟨s0, s1, s2, s3, s4, s5⟩; go_simp; with_reducible rfl) ?_
           refine tV 8 85 (bz 33 0xbbf) HT_.out HW_.out hHeld rfl rfl (by rintro w' ⟨s0, s1, s2, s3, s4, s5⟩; go_simp; with_reducible rfl) ?_
           refine tV 10 87 (bz 33 0xfbf) HT_.out HW_.out hHeld rfl rfl (by rintro w' ⟨s0, s1, s2, s3, s4, s5⟩; go_simp; with_reducible rfl) ?_
           refine tV 12 89 (bz 33 0x1fbf) HT_.out HW_.out hHeld rfl rfl (by rintro w' ⟨s0, s1, s2, s3, s4, s5⟩; go_simp; with_reducible rfl) ?_
           refine one_ (i := 6) (N := some 83) (bz 33 0x1fff) rfl rfl (one_of HT_.out (by kernel_rfl)) (by decide) (fun K hK => ?_)
           refine goes_ Try.func21 (by kernel_rfl) rfl #[.int .i64 t404, .slice Ao51 t405.length co51, .slice A1_2 l1_2.length c1_2] (by rfl) rfl rfl (by (try simp only [List.map_toArray, List.map_cons, List.map_nil]); first | done | rfl | (simp only [List.length_drop, List.length_take]; rfl)) ?_
           with_reducible refine (digraph_Check.calls t404 _ _ t405 _ _ l1_2 t439 _ ?side1 ?side2 ?side3 ?side4 A33.out).mono ?_
           (case side1 => exact cA (Kd.R_reads' HO407.out).2.2)
           (case side2 => exact (Kd.R_reads' HO407.out).2.1)
           (case side3 => exact cA (Kd.C_below HR1_2.out HB.out))
           (case side4 => exact HC1_2.out)
           rintro e w72 ⟨rfl, hb⟩
           refine ⟨_, rfl, ?_⟩
           replace HO407 := Aside0.mk (Kd.R_below (rA HO407.out) hb)
           replace HO414 := Aside0.mk (Kd.R_below (rA HO414.out) hb)
           replace HO418 := Aside0.mk (Kd.R_below (rA HO418.out) hb)
           replace HO423 := Aside0.mk (Kd.R_below (rA HO423.out) hb)
           replace HO427 := Aside0.mk (Kd.R_below (rA HO427.out) hb)
           replace HO432 := Aside0.mk (Kd.R_below (rA HO432.out) hb)
           replace HO436 := Aside0.mk (Kd.R_below (rA HO436.out) hb)
           replace BK401 := kC BK401 hb
           replace BK402 := kC BK402 hb
           replace BK408 := kC BK408 hb
           replace HB := Aside0.mk (below_step (wB3 HB.out GE401.out GE402.out GE408.out) hb)
           (try clear hb)
           (try clear hb2)
           (try clear hk)
           (try clear hi)
           refine hK.out _ _ ⟨(blk_cell BK408.out 0).trans rfl, (blk_cell BK408.out 1).trans rfl, (blk_cell BK402.out 0).trans rfl, (blk_cell BK402.out 1).trans rfl, (blk_cell BK402.out 2).trans rfl, (blk_cell BK402.out 3).trans rfl⟩ (fun hHeld => ?_)
           clear hK K
           refine norm_ (a' := ?_) ?_ ?_
           rotate_left
           ·show Act.put _ (some 83) _ = _
            simp only [Act.put, List.setIfInBounds_toArray, List.set_cons_zero, List.set_cons_succ, i64_w, i32_w]
            rfl
           refine one_ (i := 13) (N := some 90) (bz 33 0x3fff) rfl rfl (one_of HT_.out (by kernel_rfl)) (by decide) (fun K hK => ?_)
           refine goes_ Try.func22 (by kernel_rfl) rfl #[.int .i64 t404, .slice Ao51 t405.length co51, .slice A1_2 l1_2.length c1_2] (by rfl) rfl rfl (by (try simp only [List.map_toArray, List.map_cons, List.map_nil]); first | done | rfl | (simp only [List.length_drop, List.length_take]; rfl)) ?_
           with_reducible refine (wireloomref05_Check.calls kj3 t404 _ _ t405 _ _ l1_2 t440 _ ?side1 ?side2 ?side3 ?side4 A34.out).mono ?_
           (case side1 => exact cA (Kd.R_reads' HO407.out).2.2)
           (case side2 => exact (Kd.R_reads' HO407.out).2.1)
           (case side3 => exact cA (Kd.C_below HR1_2.out HB.out))
           (case side4 => exact HC1_2.out)
           rintro e w73 ⟨rfl, hb⟩
           refine ⟨_, rfl, ?_⟩
           replace HO407 := Aside0.mk (Kd.R_below (rA HO407.out) hb)
           replace HO414 := Aside0.mk (Kd.R_below (rA HO414.out) hb)
           replace HO418 := Aside0.mk (Kd.R_below (rA HO418.out) hb)
           replace HO423 := Aside0.mk (Kd.R_below (rA HO423.out) hb)
           replace HO427 := Aside0.mk (Kd.R_below (rA HO427.out) hb)
           replace HO432 := Aside0.mk (Kd.R_below (rA HO432.out) hb)
           replace HO436 := Aside0.mk (Kd.R_below (rA HO436.out) hb)
           replace BK401 := kC BK401 hb
           replace BK402 := kC BK402 hb
           replace BK408 := kC BK408 hb
           replace HB := Aside0.mk (below_step (wB3 HB.out GE401.out GE402.out GE408.out) hb)
           (try clear hb)
           (try clear hb2)
           (try clear hk)
           (try clear hi)
           refine hK.out _ _ ⟨(blk_cell BK408.out 0).trans rfl, (blk_cell BK408.out 1).trans rfl, (blk_cell BK402.out 0).trans rfl, (blk_cell BK402.out 1).trans rfl, (blk_cell BK402.out 2).trans rfl, (blk_cell BK402.out 3).trans rfl⟩ (fun hHeld => ?_)
           clear hK K
           refine norm_ (a' := ?_) ?_ ?_
           rotate_left
           ·show Act.put _ (some 90) _ = _
            simp only [Act.put, List.setIfInBounds_toArray, List.set_cons_zero, List.set_cons_succ, i64_w, i32_w]
            rfl
           refine pV 14 91 (bz 33 0x7fff) HT_.out ?_
           refine pV 15 92 (bz 33 0xffff) HT_.out ?_
           refine pV 16 93 (bz 33 0x1ffff) HT_.out ?_
           refine pV 18 95 (bz 33 0x5ffff) HT_.out ?_
           refine pV 20 97 (bz 33 0x15ffff) HT_.out ?_
           refine pV 23 100 (bz 33 0x95ffff) HT_.out ?_
           refine pV 25 102 (bz 33 0x295ffff) HT_.out ?_
           refine pV 27 104 (bz 33 0xa95ffff) HT_.out ?_
           refine tV 17 94 (bz 33 0xa97ffff) HT_.out HW_.out hHeld rfl rfl (by rintro w' ⟨s0, s1, s2, s3, s4, s5⟩; go_simp; with_reducible rfl) ?_
           refine tV 19 96 (bz 33 0xa9fffff) HT_.out HW_.out hHeld rfl rfl (by rintro w' ⟨s0, s1, s2, s3, s4, s5⟩; go_simp; with_reducible rfl) ?_
           refine tV 21 98 (bz 33 0xabfffff) HT_.out HW_.out hHeld rfl rfl (by rintro w' ⟨s0, s1, s2, s3, s4, s5⟩; go_simp; with_reducible rfl) ?_
           refine tV 24 101 (bz 33 0xbbfffff) HT_.out HW_.out hHeld rfl rfl (by rintro w' ⟨s0, s1, s2, s3, s4, s5⟩; go_simp; with_reducible rfl) ?_
           refine tV 26 103 (bz 33 0xfbfffff) HT_.out HW_.out hHeld rfl rfl (by rintro w' ⟨s0, s1, s2, s3, s4, s5⟩; go_simp; with_reducible rfl) ?_
           refine tV 28 105 (bz 33 0x1fbfffff) HT_.out HW_.out hHeld rfl rfl (by rintro w' ⟨s0, s1, s2, s3, s4, s5⟩; go_simp; with_reducible rfl) ?_
           refine one_ (i := 22) (N := some 99) (bz 33 0x1fffffff) rfl rfl (one_of HT_.out (by kernel_rfl)) (by decide) (fun K hK => ?_)
           refine goes_ Try.func24 (by kernel_rfl) rfl #[.int .i64 t404, .slice Ao51 t405.length co51, .int .i64 a1_3] (by rfl) rfl rfl (by (try simp only [List.map_toArray, List.map_cons, List.map_nil]); first | done | rfl | (simp only [List.length_drop, List.length_take]; rfl)) ?_
           with_reducible refine (digraph_Reach.calls t404 _ _ t405 a1_3 t441 _ ?side1 ?side2 A36.out).mono ?_
           (case side1 => exact cA (Kd.R_reads' HO407.out).2.2)
           (case side2 => exact (Kd.R_reads' HO407.out).2.1)
           rintro e w74 ⟨v442, rfl, ho0, hb⟩
           refine ⟨_, rfl, ?_⟩
           replace HO407 := Aside0.mk (Kd.R_below (rA HO407.out) hb)
           have HO443 := Aside0.mk (Kd.R_lower (Kd.R_new' (Kd.R_new' (Kd.R_new' (Kd.R_new' (Kd.R_new' (Kd.R_new' ho0 (Kd.R_lt (rA HO414.out))) (Kd.R_lt (rA HO418.out))) (Kd.R_lt (rA HO423.out))) (Kd.R_lt (rA HO427.out))) (Kd.R_lt (rA HO432.out))) (Kd.R_lt (rA HO436.out))) (below_size (wB3 HB.out GE401.out GE402.out GE408.out)))
           replace HO414 := Aside0.mk (Kd.R_elder' (rA HO414.out) (Kd.R_base ho0) hb)
           replace HO418 := Aside0.mk (Kd.R_elder' (rA HO418.out) (Kd.R_base ho0) hb)
           replace HO423 := Aside0.mk (Kd.R_elder' (rA HO423.out) (Kd.R_base ho0) hb)
           replace HO427 := Aside0.mk (Kd.R_elder' (rA HO427.out) (Kd.R_base ho0) hb)
           replace HO432 := Aside0.mk (Kd.R_elder' (rA HO432.out) (Kd.R_base ho0) hb)
           replace HO436 := Aside0.mk (Kd.R_elder' (rA HO436.out) (Kd.R_base ho0) hb)
           replace BK401 := kC BK401 hb
           replace BK402 := kC BK402 hb
           replace BK408 := kC BK408 hb
           replace HB := Aside0.mk (below_step (wB3 HB.out GE401.out GE402.out GE408.out) hb)
           (try clear hb)
           (try clear hb2)
           (try clear hk)
           (try clear hi)
           (try clear ho0)
           refine hK.out _ _ ⟨(blk_cell BK408.out 0).trans rfl, (blk_cell BK408.out 1).trans rfl, (blk_cell BK402.out 0).trans rfl, (blk_cell BK402.out 1).trans rfl, (blk_cell BK402.out 2).trans rfl, (blk_cell BK402.out 3).trans rfl⟩ (fun hHeld => ?_)
           clear hK K
           refine norm_ (a' := ?_) ?_ ?_
           rotate_left
           ·show Act.put _ (some 99) _ = _
            simp only [Act.put, List.setIfInBounds_toArray, List.set_cons_zero, List.set_cons_succ, i64_w, i32_w]
            rfl
           refine one_ (i := 29) (N := some 106) (bz 33 0x3fffffff) rfl rfl (one_of HT_.out (by kernel_rfl)) (by decide) (fun K hK => ?_)
           refine goes_ Try.func25 (by kernel_rfl) rfl #[.int .i64 t404, .slice Ao51 t405.length co51, .int .i64 a1_3] (by rfl) rfl rfl (by (try simp only [List.map_toArray, List.map_cons, List.map_nil]); first | done | rfl | (simp only [List.length_drop, List.length_take]; rfl)) ?_
           with_reducible refine (wireloomref05_Reach.calls kj3 t404 _ _ t405 a1_3 t444 _ ?side1 ?side2 A37.out).mono ?_
           (case side1 => exact cA (Kd.R_reads' HO407.out).2.2)
           (case side2 => exact (Kd.R_reads' HO407.out).2.1)
           rintro e w75 ⟨v445, rfl, ho0, hb⟩
           refine ⟨_, rfl, ?_⟩
           replace HO407 := Aside0.mk (Kd.R_below (rA HO407.out) hb)
           have HO446 := Aside0.mk (Kd.R_lower (Kd.R_new' (Kd.R_new' (Kd.R_new' (Kd.R_new' (Kd.R_new' (Kd.R_new' (Kd.R_new' ho0 (Kd.R_lt (rA HO414.out))) (Kd.R_lt (rA HO418.out))) (Kd.R_lt (rA HO423.out))) (Kd.R_lt (rA HO427.out))) (Kd.R_lt (rA HO432.out))) (Kd.R_lt (rA HO436.out))) (Kd.R_lt (rA HO443.out))) (below_size (wB3 HB.out GE401.out GE402.out GE408.out)))
           replace HO414 := Aside0.mk (Kd.R_elder' (rA HO414.out) (Kd.R_base ho0) hb)
           replace HO418 := Aside0.mk (Kd.R_elder' (rA HO418.out) (Kd.R_base ho0) hb)
           replace HO423 := Aside0.mk (Kd.R_elder' (rA HO423.out) (Kd.R_base ho0) hb)
           replace HO427 := Aside0.mk (Kd.R_elder' (rA HO427.out) (Kd.R_base ho0) hb)
           replace HO432 := Aside0.mk (Kd.R_elder' (rA HO432.out) (Kd.R_base ho0) hb)
           replace HO436 := Aside0.mk (Kd.R_elder' (rA HO436.out) (Kd.R_base ho0) hb)
           replace HO443 := Aside0.mk (Kd.R_elder' (rA HO443.out) (Kd.R_base ho0) hb)
           replace BK401 := kC BK401 hb
           replace BK402 := kC BK402 hb
           replace BK408 := kC BK408 hb
           replace HB := Aside0.mk (below_step (wB3 HB.out GE401.out GE402.out GE408.out) hb)
           (try clear hb)
           (try clear hb2)
           (try clear hk)
           (try clear hi)
           (try clear ho0)
           obtain ⟨Ao76, co76, eo76⟩ := Kd.R_slice HO443.out
           (first | subst eo76 | (injection eo76 with f1_ f2_ f3_; have f4_ := f1_.symm; have f5_ := f3_.symm; clear f1_ f2_ f3_; subst f4_; subst f5_))
           obtain ⟨Ao77, co77, eo77⟩ := Kd.R_slice HO446.out
           (first | subst eo77 | (injection eo77 with f1_ f2_ f3_; have f4_ := f1_.symm; have f5_ := f3_.symm; clear f1_ f2_ f3_; subst f4_; subst f5_))
           refine hK.out _ _ ⟨(blk_cell BK408.out 0).trans rfl, (blk_cell BK408.out 1).trans rfl, (blk_cell BK402.out 0).trans rfl, (blk_cell BK402.out 1).trans rfl, (blk_cell BK402.out 2).trans rfl, (blk_cell BK402.out 3).trans rfl⟩ (fun hHeld => ?_)
           clear hK K
           refine norm_ (a' := ?_) ?_ ?_
           rotate_left
           ·show Act.put _ (some 106) _ = _
            simp only [Act.put, List.setIfInBounds_toArray, List.set_cons_zero, List.set_cons_succ, i64_w, i32_w]
            rfl
           refine one_ (i := 30) (N := some 107) (bz 33 0x7fffffff) rfl rfl (one_of HT_.out (by kernel_rfl)) (by decide) (fun K hK => ?_)
           refine goes_ Try.func23 (by kernel_rfl) rfl #[.slice Ao76 t441.length co76, .slice Ao77 t444.length co77] (by rfl) rfl rfl (by (try simp only [List.map_toArray, List.map_cons, List.map_nil]); first | done | rfl | (simp only [List.length_drop, List.length_take]; rfl)) ?_
           with_reducible refine (wireloomref05_Same.calls kj3 _ _ t441 _ _ t444 true _ ?side1 ?side2 ?side3 ?side4 A38.out).mono ?_
           (case side1 => exact cA (Kd.R_reads' HO443.out).2.2)
           (case side2 => exact (Kd.R_reads' HO443.out).2.1)
           (case side3 => exact cA (Kd.R_reads' HO446.out).2.2)
           (case side4 => exact (Kd.R_reads' HO446.out).2.1)
           rintro e w' ⟨rfl, ⟨nd, rfl⟩⟩
           refine ⟨_, rfl, ?_⟩
           refine hK.out _ _ ⟨(blk_cell BK408.out 0).trans rfl, (blk_cell BK408.out 1).trans rfl, (blk_cell BK402.out 0).trans rfl, (blk_cell BK402.out 1).trans rfl, (blk_cell BK402.out 2).trans rfl, (blk_cell BK402.out 3).trans rfl⟩ (fun hHeld => ?_)
           clear hK K
           refine norm_ (a' := ?_) ?_ ?_
           rotate_left
           ·show Act.put _ (some 107) _ = _
            simp only [Act.put, List.setIfInBounds_toArray, List.set_cons_zero, List.set_cons_succ, i64_w, i32_w]
            rfl
           refine pV 31 108 (bz 33 0xffffffff) HT_.out ?_
           refine pV 32 109 (bz 33 0x1ffffffff) HT_.out ?_
           refine done_ (done_of HT_.out (by kernel_rfl)) ?_
           try go_wp2
           (try (rw [drewN_self w75]; generalize hq_ : World.drewN w75 _ = w75; have n0_ : Aside0 (Kd.R k55 55 w75 w.heap.size (fun _ => True) (.slice Ao51 t405.length co51) t405) := ⟨by rw [← hq_]; exact (rA HO407.out)⟩; have n1_ : Aside0 (Kd.R (Kd.int .i64) 3 w75 w.heap.size (fun k_ => some k_ ≠ (.slice Ao59 t416.length co59 : Value).ownBlock ∧ some k_ ≠ (.slice Ao63 t421.length co63 : Value).ownBlock ∧ some k_ ≠ (.slice Ao64 t425.length co64 : Value).ownBlock ∧ some k_ ≠ (.slice Ao68 t430.length co68 : Value).ownBlock ∧ some k_ ≠ (.slice Ao69 t434.length co69 : Value).ownBlock ∧ some k_ ≠ (.slice Ao76 t441.length co76 : Value).ownBlock ∧ some k_ ≠ (.slice Ao77 t444.length co77 : Value).ownBlock) (.slice Ao58 t412.length co58) t412) := ⟨by rw [← hq_]; exact (by (with_reducible repeat (first | apply Kd.R_alloc | apply Kd.R_drewN | apply Kd.R_drew)); exact Kd.R_mono HO414.out (fun _ hk => ⟨hk.1.1.1.1.1.1.2, ⟨hk.1.1.1.1.1.2, ⟨hk.1.1.1.1.2, ⟨hk.1.1.1.2, ⟨hk.1.1.2, ⟨hk.1.2, hk.2⟩⟩⟩⟩⟩⟩))⟩; have n2_ : Aside0 (Kd.R (Kd.int .i64) 3 w75 w.heap.size (fun k_ => some k_ ≠ (.slice Ao58 t412.length co58 : Value).ownBlock ∧ some k_ ≠ (.slice Ao63 t421.length co63 : Value).ownBlock ∧ some k_ ≠ (.slice Ao64 t425.length co64 : Value).ownBlock ∧ some k_ ≠ (.slice Ao68 t430.length co68 : Value).ownBlock ∧ some k_ ≠ (.slice Ao69 t434.length co69 : Value).ownBlock ∧ some k_ ≠ (.slice Ao76 t441.length co76 : Value).ownBlock ∧ some k_ ≠ (.slice Ao77 t444.length co77 : Value).ownBlock) (.slice Ao59 t416.length co59) t416) := ⟨by rw [← hq_]; exact (by (with_reducible repeat (first | apply Kd.R_alloc | apply Kd.R_drewN | apply Kd.R_drew)); exact Kd.R_mono HO418.out (fun _ hk => ⟨hk.1.1.1.1.1.1.2, ⟨hk.1.1.1.1.1.2, ⟨hk.1.1.1.1.2, ⟨hk.1.1.1.2, ⟨hk.1.1.2, ⟨hk.1.2, hk.2⟩⟩⟩⟩⟩⟩))⟩; have n3_ : Aside0 (Kd.R (Kd.int .i64) 3 w75 w.heap.size (fun k_ => some k_ ≠ (.slice Ao58 t412.length co58 : Value).ownBlock ∧ some k_ ≠ (.slice Ao59 t416.length co59 : Value).ownBlock ∧ some k_ ≠ (.slice Ao64 t425.length co64 : Value).ownBlock ∧ some k_ ≠ (.slice Ao68 t430.length co68 : Value).ownBlock ∧ some k_ ≠ (.slice Ao69 t434.length co69 : Value).ownBlock ∧ some k_ ≠ (.slice Ao76 t441.length co76 : Value).ownBlock ∧ some k_ ≠ (.slice Ao77 t444.length co77 : Value).ownBlock) (.slice Ao63 t421.length co63) t421) := ⟨by rw [← hq_]; exact (by (with_reducible repeat (first | apply Kd.R_alloc | apply Kd.R_drewN | apply Kd.R_drew)); exact Kd.R_mono HO423.out (fun _ hk => ⟨hk.1.1.1.1.1.1.2, ⟨hk.1.1.1.1.1.2, ⟨hk.1.1.1.1.2, ⟨hk.1.1.1.2, ⟨hk.1.1.2, ⟨hk.1.2, hk.2⟩⟩⟩⟩⟩⟩))⟩; have n4_ : Aside0 (Kd.R (Kd.int .i64) 3 w75 w.heap.size (fun k_ => some k_ ≠ (.slice Ao58 t412.length co58 : Value).ownBlock ∧ some k_ ≠ (.slice Ao59 t416.length co59 : Value).ownBlock ∧ some k_ ≠ (.slice Ao63 t421.length co63 : Value).ownBlock ∧ some k_ ≠ (.slice Ao68 t430.length co68 : Value).ownBlock ∧ some k_ ≠ (.slice Ao69 t434.length co69 : Value).ownBlock ∧ some k_ ≠ (.slice Ao76 t441.length co76 : Value).ownBlock ∧ some k_ ≠ (.slice Ao77 t444.length co77 : Value).ownBlock) (.slice Ao64 t425.length co64) t425) := ⟨by rw [← hq_]; exact (by (with_reducible repeat (first | apply Kd.R_alloc | apply Kd.R_drewN | apply Kd.R_drew)); exact Kd.R_mono HO427.out (fun _ hk => ⟨hk.1.1.1.1.1.1.2, ⟨hk.1.1.1.1.1.2, ⟨hk.1.1.1.1.2, ⟨hk.1.1.1.2, ⟨hk.1.1.2, ⟨hk.1.2, hk.2⟩⟩⟩⟩⟩⟩))⟩; have n5_ : Aside0 (Kd.R (Kd.int .i64) 3 w75 w.heap.size (fun k_ => some k_ ≠ (.slice Ao58 t412.length co58 : Value).ownBlock ∧ some k_ ≠ (.slice Ao59 t416.length co59 : Value).ownBlock ∧ some k_ ≠ (.slice Ao63 t421.length co63 : Value).ownBlock ∧ some k_ ≠ (.slice Ao64 t425.length co64 : Value).ownBlock ∧ some k_ ≠ (.slice Ao69 t434.length co69 : Value).ownBlock ∧ some k_ ≠ (.slice Ao76 t441.length co76 : Value).ownBlock ∧ some k_ ≠ (.slice Ao77 t444.length co77 : Value).ownBlock) (.slice Ao68 t430.length co68) t430) := ⟨by rw [← hq_]; exact (by (with_reducible repeat (first | apply Kd.R_alloc | apply Kd.R_drewN | apply Kd.R_drew)); exact Kd.R_mono HO432.out (fun _ hk => ⟨hk.1.1.1.1.1.1.2, ⟨hk.1.1.1.1.1.2, ⟨hk.1.1.1.1.2, ⟨hk.1.1.1.2, ⟨hk.1.1.2, ⟨hk.1.2, hk.2⟩⟩⟩⟩⟩⟩))⟩; have n6_ : Aside0 (Kd.R (Kd.int .i64) 3 w75 w.heap.size (fun k_ => some k_ ≠ (.slice Ao58 t412.length co58 : Value).ownBlock ∧ some k_ ≠ (.slice Ao59 t416.length co59 : Value).ownBlock ∧ some k_ ≠ (.slice Ao63 t421.length co63 : Value).ownBlock ∧ some k_ ≠ (.slice Ao64 t425.length co64 : Value).ownBlock ∧ some k_ ≠ (.slice Ao68 t430.length co68 : Value).ownBlock ∧ some k_ ≠ (.slice Ao76 t441.length co76 : Value).ownBlock ∧ some k_ ≠ (.slice Ao77 t444.length co77 : Value).ownBlock) (.slice Ao69 t434.length co69) t434) := ⟨by rw [← hq_]; exact (by (with_reducible repeat (first | apply Kd.R_alloc | apply Kd.R_drewN | apply Kd.R_drew)); exact Kd.R_mono HO436.out (fun _ hk => ⟨hk.1.1.1.1.1.1.2, ⟨hk.1.1.1.1.1.2, ⟨hk.1.1.1.1.2, ⟨hk.1.1.1.2, ⟨hk.1.1.2, ⟨hk.1.2, hk.2⟩⟩⟩⟩⟩⟩))⟩; have n7_ : Aside0 (Kd.R (Kd.int .i64) 3 w75 w.heap.size (fun k_ => some k_ ≠ (.slice Ao58 t412.length co58 : Value).ownBlock ∧ some k_ ≠ (.slice Ao59 t416.length co59 : Value).ownBlock ∧ some k_ ≠ (.slice Ao63 t421.length co63 : Value).ownBlock ∧ some k_ ≠ (.slice Ao64 t425.length co64 : Value).ownBlock ∧ some k_ ≠ (.slice Ao68 t430.length co68 : Value).ownBlock ∧ some k_ ≠ (.slice Ao69 t434.length co69 : Value).ownBlock ∧ some k_ ≠ (.slice Ao77 t444.length co77 : Value).ownBlock) (.slice Ao76 t441.length co76) t441) := ⟨by rw [← hq_]; exact (by (with_reducible repeat (first | apply Kd.R_alloc | apply Kd.R_drewN | apply Kd.R_drew)); exact Kd.R_mono HO443.out (fun _ hk => ⟨hk.1.1.1.1.1.1.2, ⟨hk.1.1.1.1.1.2, ⟨hk.1.1.1.1.2, ⟨hk.1.1.1.2, ⟨hk.1.1.2, ⟨hk.1.2, hk.2⟩⟩⟩⟩⟩⟩))⟩; have n8_ : Aside0 (Kd.R (Kd.int .i64) 3 w75 w.heap.size (fun k_ => some k_ ≠ (.slice Ao58 t412.length co58 : Value).ownBlock ∧ some k_ ≠ (.slice Ao59 t416.length co59 : Value).ownBlock ∧ some k_ ≠ (.slice Ao63 t421.length co63 : Value).ownBlock ∧ some k_ ≠ (.slice Ao64 t425.length co64 : Value).ownBlock ∧ some k_ ≠ (.slice Ao68 t430.length co68 : Value).ownBlock ∧ some k_ ≠ (.slice Ao69 t434.length co69 : Value).ownBlock ∧ some k_ ≠ (.slice Ao76 t441.length co76 : Value).ownBlock) (.slice Ao77 t444.length co77) t444) := ⟨by rw [← hq_]; exact (by (with_reducible repeat (first | apply Kd.R_alloc | apply Kd.R_drewN | apply Kd.R_drew)); exact Kd.R_mono HO446.out (fun _ hk => ⟨hk.1.1.1.1.1.1.2, ⟨hk.1.1.1.1.1.2, ⟨hk.1.1.1.1.2, ⟨hk.1.1.1.2, ⟨hk.1.1.2, ⟨hk.1.2, hk.2⟩⟩⟩⟩⟩⟩))⟩; have n9_ : Aside0 (w75.heap[gb401]? = some (.cells #[.int .u8 a0_0, .int .u8 a0_1, .slice A0_2 l0_2.length c0_2] 24 (0, 0))) := ⟨by rw [← hq_]; exact (bA BK401.out)⟩; have n10_ : Aside0 (w75.heap[gb402]? = some (.cells #[.int .i64 a1_0, .slice A1_1 l1_1.length c1_1, .slice A1_2 l1_2.length c1_2, .int .i64 a1_3] 28 (0, 0))) := ⟨by rw [← hq_]; exact (bA BK402.out)⟩; have n11_ : Aside0 (w75.heap[gb408]? = some (.cells #[.int .i64 t404, .slice Ao51 t405.length co51] 31 (0, 0))) := ⟨by rw [← hq_]; exact (bA BK408.out)⟩; have n12_ : Aside0 (Below w.heap.size w w75) := ⟨by rw [← hq_]; exact (wB3 HB.out GE401.out GE402.out GE408.out)⟩; clear HO407 HO414 HO418 HO423 HO427 HO432 HO436 HO443 HO446 BK401 BK402 BK408 HB hq_; have HO407 := n0_; have HO414 := n1_; have HO418 := n2_; have HO423 := n3_; have HO427 := n4_; have HO432 := n5_; have HO436 := n6_; have HO443 := n7_; have HO446 := n8_; have BK401 := n9_; have BK402 := n10_; have BK408 := n11_; have HB := n12_; clear n0_ n1_ n2_ n3_ n4_ n5_ n6_ n7_ n8_ n9_ n10_ n11_ n12_))
           replace HO407 := Aside0.mk (Kd.R_drew HO407.out)
           replace HO414 := Aside0.mk (Kd.R_drew HO414.out)
           replace HO418 := Aside0.mk (Kd.R_drew HO418.out)
           replace HO423 := Aside0.mk (Kd.R_drew HO423.out)
           replace HO427 := Aside0.mk (Kd.R_drew HO427.out)
           replace HO432 := Aside0.mk (Kd.R_drew HO432.out)
           replace HO436 := Aside0.mk (Kd.R_drew HO436.out)
           replace HO443 := Aside0.mk (Kd.R_drew HO443.out)
           replace HO446 := Aside0.mk (Kd.R_drew HO446.out)
           replace BK401 := Aside0.mk (blk_drew BK401.out)
           replace BK402 := Aside0.mk (blk_drew BK402.out)
           replace BK408 := Aside0.mk (blk_drew BK408.out)
           replace HB := Aside0.mk (below_drew1 HB.out)
           refine start_ (n := 15) (S := fun w' => w'.cell? ⟨gb408, 0, none⟩ = some (.int .i64 t404) ∧ w'.cell? ⟨gb408, 1, none⟩ = some (.slice Ao51 t405.length co51)) (ds := []) #[false, false, false, false, false, false, false, false, false, false, false, false, false, false, false] (by kernel_rfl) rfl rfl ⟨(blk_cell BK408.out 0).trans rfl, (blk_cell BK408.out 1).trans rfl⟩ (fun hHeld => ?_); refine with_tabW wireloomlaw05_DigraphMatchesReference.tab9 wireloomlaw05_DigraphMatchesReference.bits9 (fun HT_ HW_ => ?_)
           generalize w75.drew = w78 at HO407 HO414 HO418 HO423 HO427 HO432 HO436 HO443 HO446 BK401 BK402 BK408 HB hHeld ⊢
           refine pV 0 110 (bz 15 0x1) HT_.out ?_
           refine pV 1 111 (bz 15 0x3) HT_.out ?_
           refine pV 2 112 (bz 15 0x7) HT_.out ?_
           refine pV 4 114 (bz 15 0x17) HT_.out ?_
           refine pV 7 117 (bz 15 0x97) HT_.out ?_
           refine pV 9 119 (bz 15 0x297) HT_.out ?_
           refine tV 3 113 (bz 15 0x29f) HT_.out HW_.out hHeld rfl rfl (by rintro w' ⟨s0, s1⟩; go_simp; with_reducible rfl) ?_
           refine tV 5 115 (bz 15 0x2bf) HT_.out HW_.out hHeld rfl rfl (by rintro w' ⟨s0, s1⟩; go_simp; with_reducible rfl) ?_
           refine tV 8 118 (bz 15 0x3bf) HT_.out HW_.out hHeld rfl rfl (by rintro w' ⟨s0, s1⟩; go_simp; with_reducible rfl) ?_
           refine tV 10 120 (bz 15 0x7bf) HT_.out HW_.out hHeld rfl rfl (by rintro w' ⟨s0, s1⟩; go_simp; with_reducible rfl) ?_
           refine one_ (i := 6) (N := some 116) (bz 15 0x7ff) rfl rfl (one_of HT_.out (by kernel_rfl)) (by decide) (fun K hK => ?_)
           refine goes_ Try.func27 (by kernel_rfl) rfl #[.int .i64 t404, .slice Ao51 t405.length co51] (by rfl) rfl rfl (by (try simp only [List.map_toArray, List.map_cons, List.map_nil]); first | done | rfl | (simp only [List.length_drop, List.length_take]; rfl)) ?_
           with_reducible refine (digraph_Components.calls t404 _ _ t405 t448 _ ?side1 ?side2 A41.out).mono ?_
           (case side1 => exact cA (Kd.R_reads' HO407.out).2.2)
           (case side2 => exact (Kd.R_reads' HO407.out).2.1)
           rintro e w79 ⟨v449, rfl, ho0, hb⟩
           refine ⟨_, rfl, ?_⟩
           replace HO407 := Aside0.mk (Kd.R_below (rA HO407.out) hb)
           have HO450 := Aside0.mk (Kd.S_lower (Kd.S_new' (Kd.S_new' (Kd.S_new' (Kd.S_new' (Kd.S_new' (Kd.S_new' (Kd.S_new' (Kd.S_new' ho0 (Kd.R_lt (rA HO414.out))) (Kd.R_lt (rA HO418.out))) (Kd.R_lt (rA HO423.out))) (Kd.R_lt (rA HO427.out))) (Kd.R_lt (rA HO432.out))) (Kd.R_lt (rA HO436.out))) (Kd.R_lt (rA HO443.out))) (Kd.R_lt (rA HO446.out))) (below_size (wB3 HB.out GE401.out GE402.out GE408.out)))
           replace HO414 := Aside0.mk (Kd.R_below (rA HO414.out) hb)
           replace HO418 := Aside0.mk (Kd.R_below (rA HO418.out) hb)
           replace HO423 := Aside0.mk (Kd.R_below (rA HO423.out) hb)
           replace HO427 := Aside0.mk (Kd.R_below (rA HO427.out) hb)
           replace HO432 := Aside0.mk (Kd.R_below (rA HO432.out) hb)
           replace HO436 := Aside0.mk (Kd.R_below (rA HO436.out) hb)
           replace HO443 := Aside0.mk (Kd.R_below (rA HO443.out) hb)
           replace HO446 := Aside0.mk (Kd.R_below (rA HO446.out) hb)
           replace BK401 := kC BK401 hb
           replace BK402 := kC BK402 hb
           replace BK408 := kC BK408 hb
           replace HB := Aside0.mk (below_step (wB3 HB.out GE401.out GE402.out GE408.out) hb)
           (try clear hb)
           (try clear hb2)
           (try clear hk)
           (try clear hi)
           (try clear ho0)
           refine hK.out _ _ ⟨(blk_cell BK408.out 0).trans rfl, (blk_cell BK408.out 1).trans rfl⟩ (fun hHeld => ?_)
           clear hK K
           refine norm_ (a' := ?_) ?_ ?_
           rotate_left
           ·show Act.put _ (some 116) _ = _
            simp only [Act.put, List.setIfInBounds_toArray, List.set_cons_zero, List.set_cons_succ, i64_w, i32_w]
            rfl
           refine one_ (i := 11) (N := some 121) (bz 15 0xfff) rfl rfl (one_of HT_.out (by kernel_rfl)) (by decide) (fun K hK => ?_)
           refine goes_ Try.func28 (by kernel_rfl) rfl #[.int .i64 t404, .slice Ao51 t405.length co51] (by rfl) rfl rfl (by (try simp only [List.map_toArray, List.map_cons, List.map_nil]); first | done | rfl | (simp only [List.length_drop, List.length_take]; rfl)) ?_
           with_reducible refine (wireloomref05_Components.calls kj3 t404 _ _ t405 t451 _ ?side1 ?side2 A42.out).mono ?_
           (case side1 => exact cA (Kd.R_reads' HO407.out).2.2)
           (case side2 => exact (Kd.R_reads' HO407.out).2.1)
           rintro e w80 ⟨v452, rfl, ho0, hb⟩
           refine ⟨_, rfl, ?_⟩
           replace HO407 := Aside0.mk (Kd.R_below (rA HO407.out) hb)
           have HO453 := Aside0.mk (Kd.S_lower (Kd.S_new' (Kd.S_new' (Kd.S_new' (Kd.S_new' (Kd.S_new' (Kd.S_new' (Kd.S_new' (Kd.S_new' (Kd.S_new' ho0 (Kd.R_lt (rA HO414.out))) (Kd.R_lt (rA HO418.out))) (Kd.R_lt (rA HO423.out))) (Kd.R_lt (rA HO427.out))) (Kd.R_lt (rA HO432.out))) (Kd.R_lt (rA HO436.out))) (Kd.R_lt (rA HO443.out))) (Kd.R_lt (rA HO446.out))) (Kd.S_lt (sA HO450.out))) (below_size (wB3 HB.out GE401.out GE402.out GE408.out)))
           replace HO414 := Aside0.mk (Kd.R_below (rA HO414.out) hb)
           replace HO418 := Aside0.mk (Kd.R_below (rA HO418.out) hb)
           replace HO423 := Aside0.mk (Kd.R_below (rA HO423.out) hb)
           replace HO427 := Aside0.mk (Kd.R_below (rA HO427.out) hb)
           replace HO432 := Aside0.mk (Kd.R_below (rA HO432.out) hb)
           replace HO436 := Aside0.mk (Kd.R_below (rA HO436.out) hb)
           replace HO443 := Aside0.mk (Kd.R_below (rA HO443.out) hb)
           replace HO446 := Aside0.mk (Kd.R_below (rA HO446.out) hb)
           replace HO450 := Aside0.mk (Kd.S_elder' (sA HO450.out) (Kd.S_base ho0) hb)
           replace BK401 := kC BK401 hb
           replace BK402 := kC BK402 hb
           replace BK408 := kC BK408 hb
           replace HB := Aside0.mk (below_step (wB3 HB.out GE401.out GE402.out GE408.out) hb)
           (try clear hb)
           (try clear hb2)
           (try clear hk)
           (try clear hi)
           (try clear ho0)
           obtain ⟨Ao81, co81, eo81⟩ := Kd.S_slice HO450.out
           (first | subst eo81 | (injection eo81 with f1_ f2_ f3_; have f4_ := f1_.symm; have f5_ := f3_.symm; clear f1_ f2_ f3_; subst f4_; subst f5_))
           obtain ⟨Ao82, co82, eo82⟩ := Kd.S_slice HO453.out
           (first | subst eo82 | (injection eo82 with f1_ f2_ f3_; have f4_ := f1_.symm; have f5_ := f3_.symm; clear f1_ f2_ f3_; subst f4_; subst f5_))
           refine hK.out _ _ ⟨(blk_cell BK408.out 0).trans rfl, (blk_cell BK408.out 1).trans rfl⟩ (fun hHeld => ?_)
           clear hK K
           refine norm_ (a' := ?_) ?_ ?_
           rotate_left
           ·show Act.put _ (some 121) _ = _
            simp only [Act.put, List.setIfInBounds_toArray, List.set_cons_zero, List.set_cons_succ, i64_w, i32_w]
            rfl
           refine one_ (i := 12) (N := some 122) (bz 15 0x1fff) rfl rfl (one_of HT_.out (by kernel_rfl)) (by decide) (fun K hK => ?_)
           refine goes_ Try.func26 (by kernel_rfl) rfl #[.slice Ao81 t448.length co81, .slice Ao82 t451.length co82] (by rfl) rfl rfl (by (try simp only [List.map_toArray, List.map_cons, List.map_nil]); first | done | rfl | (simp only [List.length_drop, List.length_take]; rfl)) ?_
           with_reducible refine (wireloomref05_SameLists.calls kj3 _ _ t448 _ _ t451 t454 _ ?side1 ?side2 ?side3 ?side4 A43.out).mono ?_
           (case side1 => exact cA (Kd.S_reads' HO450.out).2.2)
           (case side2 => exact (Kd.S_reads' HO450.out).2.1)
           (case side3 => exact cA (Kd.S_reads' HO453.out).2.2)
           (case side4 => exact (Kd.S_reads' HO453.out).2.1)
           rintro e w' ⟨rfl, ⟨nd, rfl⟩⟩
           refine ⟨_, rfl, ?_⟩
           refine hK.out _ _ ⟨(blk_cell BK408.out 0).trans rfl, (blk_cell BK408.out 1).trans rfl⟩ (fun hHeld => ?_)
           clear hK K
           refine norm_ (a' := ?_) ?_ ?_
           rotate_left
           ·show Act.put _ (some 122) _ = _
            simp only [Act.put, List.setIfInBounds_toArray, List.set_cons_zero, List.set_cons_succ, i64_w, i32_w]
            rfl
           refine pV 13 123 (bz 15 0x3fff) HT_.out ?_
           refine pV 14 4 (bz 15 0x7fff) HT_.out ?_
           refine done_ (done_of HT_.out (by kernel_rfl)) ?_
           try go_wp2
           go_ret
           exact ⟨eS, by repeat (first | (with_reducible first | exact HB.out | apply below_alloc | apply pw_below_drewN | apply below_drew1 | refine below_set ?_ GE401.out | refine below_set ?_ GE402.out | refine below_set ?_ GE408.out) | exact HB.out)⟩
          ·replace c40 := Bool.eq_false_iff.mpr c40
           subst c40
           have H1 : (none) = some r := by rw [if_neg (show ¬ (false = true) by decide)] at H; exact H
           clear H
           have H := H1
           clear H1
           exact absurd H (by simp)
         ·replace c39 := Bool.eq_false_iff.mpr c39
          subst c39
          have H1 : (none) = some r := by rw [if_neg (show ¬ (false = true) by decide)] at H; exact H
          clear H
          have H := H1
          clear H1
          exact absurd H (by simp)
        ·replace c32 := Bool.eq_false_iff.mpr c32
         subst c32
         have H1 : (none) = some r := by rw [if_neg (show ¬ (false = true) by decide)] at H; exact H
         clear H
         have H := H1
         clear H1
         exact absurd H (by simp)
       ·replace c28 := Bool.eq_false_iff.mpr c28
        subst c28
        have H1 : (none) = some r := by rw [if_neg (show ¬ (false = true) by decide)] at H; exact H
        clear H
        have H := H1
        clear H1
        exact absurd H (by simp)
      ·replace c24 := Bool.eq_false_iff.mpr c24
       subst c24
       have H1 : (none) = some r := by rw [if_neg (show ¬ (false = true) by decide)] at H; exact H
       clear H
       have H := H1
       clear H1
       exact absurd H (by simp)
     ·replace c20 := Bool.eq_false_iff.mpr c20
      subst c20
      have H1 : (none) = some r := by rw [if_neg (show ¬ (false = true) by decide)] at H; exact H
      clear H
      have H := H1
      clear H1
      exact absurd H (by simp)
end Go.Proofs.Ytlldjinejckbaaa.PD

end
section
namespace Go.Proofs.Ytlldjinejckbaaa.Pg
open Go Go.RowKit Go.Proofs.YtlldjinejckbaaaW.PrintWords Go.Proofs.Ytlldjinejckbaaa.Mod Go.Proofs.Ytlldjinejckbaaa.Gs Go.Proofs.Ytlldjinejckbaaa.Lb Go.Proofs.Ytlldjinejckbaaa.Ng Go.Proofs.Ytlldjinejckbaaa.Rc Go.Proofs.Ytlldjinejckbaaa.PD
def E (l : List S55) (u v : Int) : Prop := ∃ e ∈ l, e.f0 = u ∧ e.f1 = v
def Ok (n : Nat) (l : List S55) : Prop := ∀ e ∈ l, 0 ≤ e.f0 ∧ e.f0 < n ∧ 0 ≤ e.f1 ∧ e.f1 < n
theorem E.ok {n : Nat} {l : List S55} (h : Ok n l) {u v : Int} (e : E l u v) : 0 ≤ u ∧ u < n ∧ 0 ≤ v ∧ v < n := by
 obtain ⟨x, hx, rfl, rfl⟩ := e
 exact h x hx
theorem compactUpTo_strict (d : Array Int) (hs : d.toList.Pairwise (· ≤ ·)) : ∀ m, m ≤ d.size → (Lib.compactUpTo d m).Pairwise (· < ·) ∧ (∀ x, x ∈ Lib.compactUpTo d m ↔ ∃ j, j < m ∧ d[j]! = x) := by
 have hle : ∀ i j, i ≤ j → j < d.size → d[i]! ≤ d[j]! := fun i j hij hj => by
  rw [getElem!_pos d i (by omega), getElem!_pos d j hj]
  rcases Nat.lt_or_eq_of_le hij with h | h
  ·have := List.pairwise_iff_getElem.1 hs i j (by simp; omega) (by simpa using hj) h
   simpa using this
  ·subst h; exact Int.le_refl _
 intro m
 induction m with
 | zero => intro _; simp [Lib.compactUpTo]
 | succ m ih =>
  intro hm
  obtain ⟨h1, h2⟩ := ih (by omega)
  rw [Lib.compactUpTo_succ]
  by_cases hk : Lib.keeps d m = true
  ·rw [if_pos hk]
   refine ⟨?_, fun x => ?_⟩
   ·rw [List.pairwise_append]
    refine ⟨h1, by simp, fun a ha b hb => ?_⟩
    rw [List.mem_singleton] at hb
    subst hb
    obtain ⟨j, hj, rfl⟩ := (h2 a).1 ha
    unfold Lib.keeps at hk
    rw [decide_eq_true_eq] at hk
    rcases hk with hk | hk
    ·omega
    ·have h3 := hle j (m - 1) (by omega) (by omega)
     have h4 := hle (m - 1) m (by omega) (by omega)
     omega
   ·rw [List.mem_append, List.mem_singleton, h2]
    constructor
    ·rintro (⟨j, hj, e⟩ | e)
     ·exact ⟨j, by omega, e⟩
     ·exact ⟨m, by omega, e.symm⟩
    ·rintro ⟨j, hj, e⟩
     rcases Nat.lt_or_eq_of_le (Nat.le_of_lt_succ hj) with h | h
     ·exact .inl ⟨j, h, e⟩
     ·subst h; exact .inr e.symm
  ·rw [if_neg hk, List.append_nil]
   refine ⟨h1, fun x => ?_⟩
   rw [h2]
   constructor
   ·rintro ⟨j, hj, e⟩; exact ⟨j, by omega, e⟩
   ·rintro ⟨j, hj, e⟩
    rcases Nat.lt_or_eq_of_le (Nat.le_of_lt_succ hj) with h | h
    ·exact ⟨j, h, e⟩
    ·subst h
     unfold Lib.keeps at hk
     rw [decide_eq_true_eq] at hk
     have h5 : ¬ j = 0 := fun h => hk (.inl h)
     have h6 : d[j]! = d[j - 1]! := Classical.byContradiction fun h => hk (.inr h)
     exact ⟨j - 1, by omega, by rw [← h6]; exact e⟩
theorem sortI_sorted (xs : List Int) : (sortI xs).Pairwise (· ≤ ·) := by
 unfold sortI
 have := List.pairwise_mergeSort (le := fun x y : Int => decide (x ≤ y)) (fun a b c h1 h2 => by simp at *; omega) (fun a b => by simp; omega) xs
 exact this.imp (fun h => by simpa using h)
theorem tidyRow (xs : List Int) : (Lib.compact (sortI xs)).Pairwise (· < ·) ∧ ∀ x, x ∈ Lib.compact (sortI xs) ↔ x ∈ xs := by
 unfold Lib.compact
 obtain ⟨h1, h2⟩ := compactUpTo_strict (sortI xs).toArray (by simpa using sortI_sorted xs) (sortI xs).length (by simp)
 refine ⟨h1, fun x => ?_⟩
 rw [h2, ← mem_sortI (r := xs)]
 constructor
 ·rintro ⟨j, hj, rfl⟩
  rw [getElem!_pos (sortI xs).toArray j (by simpa using hj)]
  simp
 ·intro h
  obtain ⟨j, hj, rfl⟩ := List.mem_iff_getElem.1 h
  exact ⟨j, hj, by rw [getElem!_pos (sortI xs).toArray j (by simpa using hj)]; simp⟩
theorem row_tidy (rows : List (List Int)) (v : Int) : row (tidy rows) v = Lib.compact (sortI (row rows v)) := by
 unfold row tidy
 rw [List.getD_eq_getElem?_getD, List.getD_eq_getElem?_getD, List.getElem?_map]
 cases h : rows[v.toNat]? with
 | none => simp [sortI, Lib.compact, Lib.compactUpTo]
 | some r => rfl
theorem row_built {n : Nat} : ∀ (l : List S55), Ok n l → ∀ (v x : Int), 0 ≤ v → v < n → ((x ∈ row (built n l true) v ↔ E l v x) ∧ (x ∈ row (built n l false) v ↔ E l x v)) := by
 have key : ∀ (l : List S55) (R : Bool → List (List Int)), Ok n l → (∀ b, (R b).length = n) → ∀ (b : Bool) (v x : Int), 0 ≤ v → v < n → (x ∈ row (l.foldl addE R b) v ↔ x ∈ row (R b) v ∨ (if b then E l v x else E l x v)) := by
  intro l
  induction l with
  | nil => intro R _ _ b v x _ _; cases b <;> simp [E]
  | cons e l ih =>
   intro R hok hR b v x h0 h1
   obtain ⟨e0, e1, e2, e3⟩ := hok e (by simp)
   rw [List.foldl_cons, ih (addE R e) (fun z hz => hok z (by simp [hz])) (fun b => by rw [addE_length]; exact hR b) b v x h0 h1]
   have hrow : x ∈ row (addE R e b) v ↔ x ∈ row (R b) v ∨ (if b then e.f0 = v ∧ e.f1 = x else e.f0 = x ∧ e.f1 = v) := by
    unfold addE
    cases b with
    | true =>
     rw [upd_other _ _ _ (by decide), upd_same]
     unfold row
     rw [List.getD_eq_getElem?_getD, List.getElem?_set]
     by_cases hv : e.f0 = v
     ·rw [if_pos (by omega), if_pos (by rw [hR]; omega)]
      subst hv
      simp [List.getD_eq_getElem?_getD, eq_comm]
     ·rw [if_neg (by omega), ← List.getD_eq_getElem?_getD]
      simp [hv]
    | false =>
     rw [upd_same, upd_other _ _ _ (by decide)]
     unfold row
     rw [List.getD_eq_getElem?_getD, List.getElem?_set]
     by_cases hv : e.f1 = v
     ·rw [if_pos (by omega), if_pos (by rw [hR]; omega)]
      subst hv
      simp [List.getD_eq_getElem?_getD, eq_comm]
     ·rw [if_neg (by omega), ← List.getD_eq_getElem?_getD]
      simp [hv]
   rw [hrow]
   have hE : ∀ a c, E (e :: l) a c ↔ (e.f0 = a ∧ e.f1 = c) ∨ E l a c := fun a c => by
    unfold E
    simp
   cases b with
   | true => simp only [if_true]; rw [hE]; exact or_assoc
   | false => simp only [Bool.false_eq_true, if_false]; rw [hE]; exact or_assoc
 intro l hok v x h0 h1
 have e : ∀ b : Bool, x ∈ row ((fun _ => List.replicate n ([] : List Int)) b) v ↔ False := fun b => by
  unfold row
  simp only [List.getD_eq_getElem?_getD, List.getElem?_replicate]
  split <;> simp
 have h1' := key l (fun _ => List.replicate n []) hok (fun _ => by simp) true v x h0 h1
 have h2' := key l (fun _ => List.replicate n []) hok (fun _ => by simp) false v x h0 h1
 rw [e true] at h1'
 rw [e false] at h2'
 exact ⟨by unfold built; rw [h1']; simp, by unfold built; rw [h2']; simp⟩
abbrev nx (n : Nat) (l : List S55) : List (List Int) := tidy (built n l true)
abbrev pv (n : Nat) (l : List S55) : List (List Int) := tidy (built n l false)
theorem mem_nx {n : Nat} {l : List S55} (h : Ok n l) {v : Int} (x : Int) (h0 : 0 ≤ v) (h1 : v < n) : x ∈ row (nx n l) v ↔ E l v x := by
 rw [row_tidy, (tidyRow _).2]; exact (row_built l h v x h0 h1).1
theorem mem_pv {n : Nat} {l : List S55} (h : Ok n l) {v : Int} (x : Int) (h0 : 0 ≤ v) (h1 : v < n) : x ∈ row (pv n l) v ↔ E l x v := by
 rw [row_tidy, (tidyRow _).2]; exact (row_built l h v x h0 h1).2
theorem row_strict (rows : List (List Int)) (v : Int) : (row (tidy rows) v).Pairwise (· < ·) := by rw [row_tidy]; exact (tidyRow _).1
theorem row_nodup (rows : List (List Int)) (v : Int) : (row (tidy rows) v).Nodup := (row_strict rows v).imp (fun h => by omega)
theorem len_nx (n : Nat) (l : List S55) : (nx n l).length = n := by unfold nx; rw [tidy_length, built_length]
theorem len_pv (n : Nat) (l : List S55) : (pv n l).length = n := by unfold pv; rw [tidy_length, built_length]
theorem strict_ext {a b : List Int} (ha : a.Pairwise (· < ·)) (hb : b.Pairwise (· < ·)) (h : ∀ x, x ∈ a ↔ x ∈ b) : a = b := by
 have na : a.Nodup := ha.imp (fun h => by omega)
 have nb : b.Nodup := hb.imp (fun h => by omega)
 have hp : a.Perm b := (List.perm_ext_iff_of_nodup na nb).2 h
 exact List.Perm.eq_of_pairwise (le := fun x y : Int => x < y) (fun x y _ _ h1 h2 => by omega) ha hb hp
theorem nodup_len {n : Nat} {a : List Int} (hn : a.Nodup) (h : ∀ x ∈ a, 0 ≤ x ∧ x < (n : Int)) : a.length ≤ n := by
 have hs : a ⊆ (List.range n).map (fun k : Nat => (k : Int)) := fun x hx => by
  obtain ⟨h0, h1⟩ := h x hx
  exact List.mem_map.2 ⟨x.toNat, List.mem_range.2 (by omega), by omega⟩
 have := hn.length_le_of_subset hs
 simpa using this
theorem nodup_all {n : Nat} {a : List Int} (hn : a.Nodup) (h : ∀ x ∈ a, 0 ≤ x ∧ x < (n : Int)) (hl : a.length = n) : ∀ x : Int, 0 ≤ x → x < n → x ∈ a := by
 have hs : a ⊆ (List.range n).map (fun k : Nat => (k : Int)) := fun x hx => by
  obtain ⟨h0, h1⟩ := h x hx
  exact List.mem_map.2 ⟨x.toNat, List.mem_range.2 (by omega), by omega⟩
 intro x h0 h1
 refine Classical.byContradiction fun hx => ?_
 have hs2 : (x :: a) ⊆ (List.range n).map (fun k : Nat => (k : Int)) := fun y hy => by
  rcases List.mem_cons.1 hy with hy | hy
  ·subst hy; exact List.mem_map.2 ⟨y.toNat, List.mem_range.2 (by omega), by omega⟩
  ·exact hs hy
 have := (List.nodup_cons.2 ⟨hx, hn⟩).length_le_of_subset hs2
 simp at this
 omega
end Go.Proofs.Ytlldjinejckbaaa.Pg

end
section
namespace Go.Proofs.Ytlldjinejckbaaa.Po
open Go Go.RowKit Go.Proofs.YtlldjinejckbaaaW.PrintWords Go.Proofs.Ytlldjinejckbaaa.Mod Go.Proofs.Ytlldjinejckbaaa.Lb Go.Proofs.Ytlldjinejckbaaa.Ng Go.Proofs.Ytlldjinejckbaaa.Rc Go.Proofs.Ytlldjinejckbaaa.PD Go.Proofs.Ytlldjinejckbaaa.Pg Go.Proofs.Ytlldjinejckbaaa.Od Go.Proofs.Ytlldjinejckbaaa.Ins
def Avail (n : Nat) (l : List S55) (out : List Int) (v : Int) : Prop := 0 ≤ v ∧ v < n ∧ v ∉ out ∧ ∀ u, E l u v → u ∈ out
def Greedy (n : Nat) (l : List S55) (out : List Int) : Prop := ∀ k : Nat, k < out.length → Avail n l (out.take k) (rd out k) ∧ ∀ u, Avail n l (out.take k) u → rd out k ≤ u
theorem rd_get {l : List Int} {k : Nat} (h : k < l.length) : rd l (k : Int) = l[k] := by
 unfold rd
 rw [Int.toNat_natCast, List.getD_eq_getElem?_getD, List.getElem?_eq_getElem h]
 rfl
theorem Greedy.nil (n : Nat) (l : List S55) : Greedy n l [] := fun k hk => absurd hk (Nat.not_lt_zero k)
theorem Greedy.snoc {n : Nat} {l : List S55} {out : List Int} (h : Greedy n l out) {v : Int} (ha : Avail n l out v) (hm : ∀ u, Avail n l out u → v ≤ u) : Greedy n l (out ++ [v]) := by
 intro k hk
 rw [List.length_append, List.length_singleton] at hk
 rcases Nat.lt_or_eq_of_le (Nat.le_of_lt_succ hk) with hk | hk
 ·have e1 : (out ++ [v]).take k = out.take k := by rw [List.take_append_of_le_length (Nat.le_of_lt hk)]
  have e2 : rd (out ++ [v]) (k : Int) = rd out (k : Int) := by rw [rd_get hk, rd_get (by simp; omega), List.getElem_append_left hk]
  rw [e1, e2]; exact h k hk
 ·subst hk
  have e1 : (out ++ [v]).take out.length = out := by simp
  have e2 : rd (out ++ [v]) (out.length : Int) = v := by rw [rd_get (by simp)]; simp
  rw [e1, e2]; exact ⟨ha, hm⟩
theorem Greedy.range {n : Nat} {l : List S55} {out : List Int} (h : Greedy n l out) : ∀ v ∈ out, 0 ≤ v ∧ v < (n : Int) := by
 intro v hv
 obtain ⟨k, hk, rfl⟩ := List.mem_iff_getElem.1 hv
 have := (h k hk).1
 rw [rd_get hk] at this
 exact ⟨this.1, this.2.1⟩
theorem Greedy.nodup {n : Nat} {l : List S55} {out : List Int} (h : Greedy n l out) : out.Nodup := by
 rw [List.nodup_iff_pairwise_ne, List.pairwise_iff_getElem]
 intro i j hi hj hij e
 have h2 := (h j hj).1.2.2.1
 rw [rd_get hj] at h2
 apply h2
 rw [List.mem_iff_getElem]
 exact ⟨i, by rw [List.length_take]; omega, by rw [List.getElem_take]; exact e⟩
theorem Greedy.before {n : Nat} {l : List S55} {out : List Int} (h : Greedy n l out) {k : Nat} (hk : k < out.length) {u : Int} (he : E l u (rd out k)) : u ∈ out.take k := (h k hk).1.2.2.2 u he
theorem Greedy.closed {n : Nat} {l : List S55} {out : List Int} (h : Greedy n l out) {u v : Int} (hv : v ∈ out) (he : E l u v) : u ∈ out := by
 obtain ⟨k, hk, rfl⟩ := List.mem_iff_getElem.1 hv
 rw [← rd_get hk] at he
 exact List.mem_of_mem_take (h.before hk he)
theorem Greedy.len {n : Nat} {l : List S55} {out : List Int} (h : Greedy n l out) : out.length ≤ n := nodup_len h.nodup h.range
theorem start1_spec (prevs : List (List Int)) (n : Nat) : ∀ k, k ≤ n → (start1 prevs n k).1.length = n ∧ (∀ v : Int, 0 ≤ v → v < k → rd (start1 prevs n k).1 v = ((row prevs v).length : Int)) ∧
  (start1 prevs n k).2.Pairwise (· < ·) ∧ (∀ v, v ∈ (start1 prevs n k).2 ↔ 0 ≤ v ∧ v < (k : Int) ∧ row prevs v = []) := by
 intro k
 induction k with
 | zero => intro _; refine ⟨by simp [start1], fun v h0 h1 => by omega, by simp [start1], fun v => ?_⟩; simp [start1]; intro h0 h1; omega
 | succ k ih =>
  intro hk
  obtain ⟨h1, h2, h3, h4⟩ := ih (by omega)
  rw [start1_succ]
  refine ⟨by simp [h1], fun v hv0 hv1 => ?_, ?_, fun v => ?_⟩
  ·by_cases e : v = (k : Int)
   ·subst e
    have := rd_set_same (start1 prevs n k).1 (k : Int) ((row prevs k).length : Int) hv0 (by rw [h1]; omega)
    rw [Int.toNat_natCast] at this
    exact this
   ·have := rd_set_other (start1 prevs n k).1 v (k : Int) ((row prevs k).length : Int) hv0 (by omega) e
    rw [Int.toNat_natCast] at this
    rw [this]
    exact h2 v hv0 (by omega)
  ·split
   ·rw [List.pairwise_append]
    refine ⟨h3, by simp, fun a ha b hb => ?_⟩
    rw [List.mem_singleton] at hb
    have := ((h4 a).1 ha).2.1
    omega
   ·exact h3
  ·split
   ·rename_i hz
    have hz2 : row prevs (k : Int) = [] := List.length_eq_zero_iff.1 (by omega)
    rw [List.mem_append, List.mem_singleton, h4]
    constructor
    ·rintro (⟨a, b, c⟩ | rfl)
     ·exact ⟨a, by omega, c⟩
     ·exact ⟨by omega, by omega, hz2⟩
    ·rintro ⟨a, b, c⟩
     by_cases e : v = (k : Int)
     ·exact .inr e
     ·exact .inl ⟨a, by omega, c⟩
   ·rename_i hz
    rw [h4]
    constructor
    ·rintro ⟨a, b, c⟩; exact ⟨a, by omega, c⟩
    ·rintro ⟨a, b, c⟩
     by_cases e : v = (k : Int)
     ·subst e; rw [c] at hz; simp at hz
     ·exact ⟨a, by omega, c⟩
theorem insert_strict (r : List Int) (x : Int) (h : r.Pairwise (· < ·)) (hx : x ∉ r) : (insertAt r (r.countP (· < x)) x).Pairwise (· < ·) ∧ ∀ y, y ∈ insertAt r (r.countP (· < x)) x ↔ y = x ∨ y ∈ r := by
 have hle := insert_sorted r x (h.imp (fun h => by omega))
 have hp : (insertAt r (r.countP (· < x)) x).Perm (x :: r) := by
  unfold insertAt
  have := List.perm_middle (a := x) (l₁ := r.take (r.countP (· < x))) (l₂ := r.drop (r.countP (· < x)))
  rwa [List.take_append_drop] at this
 have hn : (insertAt r (r.countP (· < x)) x).Nodup := hp.nodup_iff.2 (List.nodup_cons.2 ⟨hx, h.imp (fun h => by omega)⟩)
 refine ⟨?_, fun y => by rw [hp.mem_iff, List.mem_cons]⟩
 rw [List.pairwise_iff_getElem] at hle ⊢
 intro i j hi hj hij
 have h1 := hle i j hi hj hij
 have h2 := List.pairwise_iff_getElem.1 (List.nodup_iff_pairwise_ne.1 hn) i j hi hj hij
 omega
theorem wrap_small {x : Int} (h0 : -1000000 ≤ x) (h1 : x ≤ 1000000) : wrap64 x = x := by unfold wrap64; omega
theorem takeRow_spec : ∀ (xs w r : List Int), xs.Nodup → (∀ y ∈ xs, 0 ≤ y ∧ y < (w.length : Int)) → (∀ y ∈ xs, 1 ≤ rd w y ∧ rd w y ≤ 100000) → r.Pairwise (· < ·) → (∀ y ∈ xs, y ∉ r) →
  (takeRow xs w r).1.length = w.length ∧ (∀ y : Int, 0 ≤ y → rd (takeRow xs w r).1 y = rd w y - (if y ∈ xs then 1 else 0)) ∧ (takeRow xs w r).2.Pairwise (· < ·) ∧ ∀ y, y ∈ (takeRow xs w r).2 ↔ y ∈ r ∨ (y ∈ xs ∧ rd w y = 1)
 | [], w, r, _, _, _, hr, _ => ⟨rfl, fun y _ => by simp [takeRow], hr, fun y => by simp [takeRow]⟩
 | x :: xs, w, r, hn, hx, hb, hr, hnr => by
  obtain ⟨hx0, hx1⟩ := hx x (by simp)
  obtain ⟨hb0, hb1⟩ := hb x (by simp)
  rw [List.nodup_cons] at hn
  have hw : wrap64 (rd w x - 1) = rd w x - 1 := wrap_small (by omega) (by omega)
  have hset : ∀ y, 0 ≤ y → rd (w.set x.toNat (rd w x - 1)) y = if y = x then rd w x - 1 else rd w y := fun y hy => by
   by_cases e : y = x
   ·subst e; rw [if_pos rfl, rd_set_same _ _ _ hx0 hx1]
   ·rw [if_neg e, rd_set_other _ _ _ _ hy hx0 e]
  have hxs : ∀ y ∈ xs, y ≠ x := fun y hy e => hn.1 (by rw [← e]; exact hy)
  have h1 : ∀ y ∈ xs, 0 ≤ y ∧ y < ((w.set x.toNat (rd w x - 1)).length : Int) := fun y hy => by rw [List.length_set]; exact hx y (List.mem_cons_of_mem _ hy)
  have h2 : ∀ y ∈ xs, 1 ≤ rd (w.set x.toNat (rd w x - 1)) y ∧ rd (w.set x.toNat (rd w x - 1)) y ≤ 100000 := fun y hy => by
   rw [hset y (hx y (List.mem_cons_of_mem _ hy)).1, if_neg (hxs y hy)]; exact hb y (List.mem_cons_of_mem _ hy)
  have fin : ∀ (r' : List Int), r'.Pairwise (· < ·) → (∀ y ∈ xs, y ∉ r') → (∀ y, y ∈ r' ↔ y ∈ r ∨ (y = x ∧ rd w x = 1)) →
    (takeRow xs (w.set x.toNat (rd w x - 1)) r').1.length = w.length ∧ (∀ y : Int, 0 ≤ y → rd (takeRow xs (w.set x.toNat (rd w x - 1)) r').1 y = rd w y - (if y ∈ x :: xs then 1 else 0)) ∧
    (takeRow xs (w.set x.toNat (rd w x - 1)) r').2.Pairwise (· < ·) ∧ ∀ y, y ∈ (takeRow xs (w.set x.toNat (rd w x - 1)) r').2 ↔ y ∈ r ∨ (y ∈ x :: xs ∧ rd w y = 1) := by
   intro r' hr' hnr' hm
   obtain ⟨a, b, c, d⟩ := takeRow_spec xs (w.set x.toNat (rd w x - 1)) r' hn.2 h1 h2 hr' hnr'
   refine ⟨by rw [a, List.length_set], fun y hy => ?_, c, fun y => ?_⟩
   ·rw [b y hy, hset y hy]
    by_cases e : y = x
    ·subst e; rw [if_pos rfl, if_neg hn.1, if_pos (by simp)]; omega
    ·rw [if_neg e]
     by_cases hyx : y ∈ xs
     ·rw [if_pos hyx, if_pos (by simp [hyx])]
     ·rw [if_neg hyx, if_neg (by simp [hyx, e])]
   ·rw [d, hm]
    constructor
    ·rintro ((h | ⟨e, h⟩) | ⟨h, h'⟩)
     ·exact .inl h
     ·subst e; exact .inr ⟨by simp, h⟩
     ·rw [hset y (hx y (List.mem_cons_of_mem _ h)).1, if_neg (hxs y h)] at h'
      exact .inr ⟨by simp [h], h'⟩
    ·rintro (h | ⟨h, h'⟩)
     ·exact .inl (.inl h)
     ·rcases List.mem_cons.1 h with e | h
      ·subst e; exact .inl (.inr ⟨rfl, h'⟩)
      ·exact .inr ⟨h, by rw [hset y (hx y (List.mem_cons_of_mem _ h)).1, if_neg (hxs y h)]; exact h'⟩
  unfold takeRow
  rw [hw]
  by_cases hz : rd w x - 1 = 0
  ·rw [if_pos hz]
   obtain ⟨i1, i2⟩ := insert_strict r x hr (hnr x (by simp))
   exact fin _ i1 (fun y hy => by rw [i2]; rintro (e | e); exact hxs y hy e; exact hnr y (by simp [hy]) e) (fun y => by rw [i2]; constructor; (rintro (e | e); exact .inr ⟨e, by omega⟩; exact .inl e); (rintro (e | e); exact .inr e; exact .inl e.1))
  ·rw [if_neg hz]
   exact fin r hr (fun y hy => hnr y (by simp [hy])) (fun y => ⟨fun h => .inl h, fun h => h.elim id (fun h => absurd h.2 (by omega))⟩)
theorem countP_out (L : List Int) (hn : L.Nodup) (out : List Int) (v : Int) (hv : v ∉ out) : L.countP (fun u => decide (u ∉ out ++ [v])) + (if v ∈ L then 1 else 0) = L.countP (fun u => decide (u ∉ out)) := by
 induction L with
 | nil => simp
 | cons a L ih =>
  rw [List.nodup_cons] at hn
  have ih := ih hn.2
  rw [List.countP_cons, List.countP_cons]
  by_cases e : a = v
  ·subst e
   rw [if_neg hn.1] at ih
   simp [hv] at ih ⊢
   omega
  ·have e1 : (decide (a ∉ out ++ [v])) = decide (a ∉ out) := by simp [e]
   rw [e1]
   have e2 : (v ∈ a :: L) ↔ v ∈ L := by simp [Ne.symm e]
   by_cases hL : v ∈ L
   ·rw [if_pos hL] at ih; rw [if_pos (e2.2 hL)]; omega
   ·rw [if_neg hL] at ih; rw [if_neg (fun h => hL (e2.1 h))]; omega
structure KInv (n : Nat) (l : List S55) (w r out : List Int) : Prop where
 wl : w.length = n
 g : Greedy n l out
 cnt : ∀ v : Int, 0 ≤ v → v < n → v ∉ out → rd w v = ((row (pv n l) v).countP (fun u => decide (u ∉ out)) : Nat)
 rs : r.Pairwise (· < ·)
 rm : ∀ v, v ∈ r ↔ Avail n l out v
theorem KInv.step {n : Nat} (hn : n ≤ 1000) {l : List S55} (hl : Ok n l) {w q out : List Int} {v : Int} (h : KInv n l w (v :: q) out) : KInv n l (takeRow (row (nx n l) v) w q).1 (takeRow (row (nx n l) v) w q).2 (out ++ [v]) := by
 have hv : Avail n l out v := (h.rm v).1 (by simp)
 obtain ⟨hv0, hv1, hvo, hvp⟩ := hv
 have hrow : ∀ y, y ∈ row (nx n l) v ↔ E l v y := fun y => mem_nx hl y hv0 hv1
 have hq := List.pairwise_cons.1 h.rs
 have hs : ∀ y ∈ row (nx n l) v, 0 ≤ y ∧ y < (n : Int) ∧ y ∉ out ∧ y ≠ v := fun y hy => by
  have he := (hrow y).1 hy
  obtain ⟨_, _, y0, y1⟩ := he.ok hl
  exact ⟨y0, y1, fun hyo => hvo (h.g.closed hyo he), fun e => by subst e; exact hvo (hvp _ he)⟩
 have hb : ∀ y ∈ row (nx n l) v, 1 ≤ rd w y ∧ rd w y ≤ 100000 := fun y hy => by
  obtain ⟨y0, y1, y2, y3⟩ := hs y hy
  rw [h.cnt y y0 y1 y2]
  have h1 : 0 < (row (pv n l) y).countP (fun u => decide (u ∉ out)) := List.countP_pos_iff.2 ⟨v, (mem_pv hl v y0 y1).2 ((hrow y).1 hy), by simpa using hvo⟩
  have h2 : (row (pv n l) y).countP (fun u => decide (u ∉ out)) ≤ (row (pv n l) y).length := List.countP_le_length
  have h3 : (row (pv n l) y).length ≤ n := nodup_len (row_nodup _ _) (fun u hu => by have := ((mem_pv hl u y0 y1).1 hu).ok hl; exact ⟨this.1, this.2.1⟩)
  omega
 obtain ⟨t1, t2, t3, t4⟩ := takeRow_spec (row (nx n l) v) w q (row_nodup _ _) (fun y hy => by rw [h.wl]; exact ⟨(hs y hy).1, (hs y hy).2.1⟩) hb hq.2 (fun y hy hyq => hvo (((h.rm y).1 (by simp [hyq])).2.2.2 v ((hrow y).1 hy)))
 have hcnt : ∀ y : Int, 0 ≤ y → y < n → y ∉ out ++ [v] → rd (takeRow (row (nx n l) v) w q).1 y = ((row (pv n l) y).countP (fun u => decide (u ∉ out ++ [v])) : Nat) := fun y y0 y1 hy => by
  have hyo : y ∉ out := fun h => hy (by simp [h])
  have hc := countP_out (row (pv n l) y) (row_nodup _ _) out v hvo
  rw [t2 y y0, h.cnt y y0 y1 hyo]
  by_cases he : y ∈ row (nx n l) v
  ·rw [if_pos he]
   rw [if_pos ((mem_pv hl v y0 y1).2 ((hrow y).1 he))] at hc
   omega
  ·rw [if_neg he]
   rw [if_neg (fun h => he ((hrow y).2 ((mem_pv hl v y0 y1).1 h)))] at hc
   omega
 refine ⟨by rw [t1, h.wl], h.g.snoc ⟨hv0, hv1, hvo, hvp⟩ (fun u hu => ?_), hcnt, t3, fun y => ?_⟩
 ·have hur := (h.rm u).2 hu
  rcases List.mem_cons.1 hur with e | hur
  ·omega
  ·have := hq.1 u hur; omega
 ·rw [t4]
  have hcz : ∀ (o : List Int), 0 ≤ y → y < n → ((row (pv n l) y).countP (fun u => decide (u ∉ o)) = 0 ↔ ∀ u, E l u y → u ∈ o) := fun o y0 y1 => by
   rw [List.countP_eq_zero]
   constructor
   ·intro h u hu
    have := h u ((mem_pv hl u y0 y1).2 hu)
    simpa using this
   ·intro h u hu
    have := h u ((mem_pv hl u y0 y1).1 hu)
    simpa using this
  constructor
  ·rintro (hyq | ⟨hyr, hy1⟩)
   ·obtain ⟨y0, y1, y2, y3⟩ := (h.rm y).1 (by simp [hyq])
    have := hq.1 y hyq
    exact ⟨y0, y1, by simp [y2]; omega, fun u hu => by simp [y3 u hu]⟩
   ·obtain ⟨y0, y1, y2, y3⟩ := hs y hyr
    refine ⟨y0, y1, by simp [y2, y3], (hcz _ y0 y1).1 ?_⟩
    have hc := countP_out (row (pv n l) y) (row_nodup _ _) out v hvo
    rw [if_pos ((mem_pv hl v y0 y1).2 ((hrow y).1 hyr))] at hc
    rw [h.cnt y y0 y1 y2] at hy1
    omega
  ·rintro ⟨y0, y1, y2, y3⟩
   have hyo : y ∉ out := fun h => y2 (by simp [h])
   have hyv : y ≠ v := fun h => y2 (by simp [h])
   by_cases hall : ∀ u, E l u y → u ∈ out
   ·have := (h.rm y).2 ⟨y0, y1, hyo, hall⟩
    rcases List.mem_cons.1 this with e | hyq
    ·exact absurd e hyv
    ·exact .inl hyq
   ·have hev : E l v y := Classical.byContradiction fun hne => hall fun u hu => by
     have := y3 u hu
     rcases List.mem_append.1 this with h | h
     ·exact h
     ·rw [List.mem_singleton] at h; subst h; exact absurd hu hne
    refine .inr ⟨(hrow y).2 hev, ?_⟩
    have hc := countP_out (row (pv n l) y) (row_nodup _ _) out v hvo
    rw [if_pos ((mem_pv hl v y0 y1).2 hev), (hcz _ y0 y1).2 y3] at hc
    rw [h.cnt y y0 y1 hyo]
    omega
theorem ordGo_spec {n : Nat} (hn : n ≤ 1000) {l : List S55} (hl : Ok n l) : ∀ (k : Nat) (w r out : List Int), KInv n l w r out → out.length + k = n + 1 → ∃ o, ordGo (nx n l) k w r out = some o ∧ Greedy n l o ∧ ∀ v, ¬ Avail n l o v
 | 0, w, r, out, h, hk => by have := h.g.len; omega
 | k + 1, w, [], out, h, hk => ⟨out, rfl, h.g, fun v hv => by have := (h.rm v).2 hv; simp at this⟩
 | k + 1, w, v :: q, out, h, hk => by
  have hq := List.pairwise_cons.1 h.rs
  have hql : q.length ≤ n := nodup_len (hq.2.imp (fun h => by omega)) (fun u hu => by have := (h.rm u).1 (by simp [hu]); exact ⟨this.1, this.2.1⟩)
  unfold ordGo
  rw [if_neg (by omega)]
  exact ordGo_spec hn hl k _ _ _ (h.step hn hl) (by rw [List.length_append, List.length_singleton]; omega)
theorem order_spec {n : Nat} (hn : n ≤ 1000) {l : List S55} (hl : Ok n l) : ∃ o, orderOf n l = some (if o.length < n then ([], 50) else (o, 0)) ∧ Greedy n l o ∧ ∀ v, ¬ Avail n l o v := by
 obtain ⟨s1, s2, s3, s4⟩ := start1_spec (pv n l) n n (Nat.le_refl _)
 have h0 : KInv n l (start1 (pv n l) n n).1 (start1 (pv n l) n n).2 [] := by
  refine ⟨s1, Greedy.nil n l, fun v h0 h1 _ => ?_, s3, fun v => ?_⟩
  ·rw [s2 v h0 h1]
   congr 1
   rw [List.countP_eq_length.2 (fun u _ => by simp)]
  ·rw [s4]
   constructor
   ·rintro ⟨a, b, c⟩
    exact ⟨a, b, by simp, fun u hu => by have := (mem_pv hl u a b).2 hu; rw [c] at this; simp at this⟩
   ·rintro ⟨a, b, _, c⟩
    refine ⟨a, b, List.eq_nil_iff_forall_not_mem.2 fun u hu => ?_⟩
    have := c u ((mem_pv hl u a b).1 hu)
    simp at this
 obtain ⟨o, ho, hg, ha⟩ := ordGo_spec hn hl (n + 1) _ _ _ h0 (by simp)
 exact ⟨o, by unfold orderOf; rw [ho]; rfl, hg, ha⟩
end Go.Proofs.Ytlldjinejckbaaa.Po

end
section
namespace Go.Proofs.Ytlldjinejckbaaa.Pd
open Go Go.RowKit Go.Proofs.YtlldjinejckbaaaW.PrintWords Go.Proofs.Ytlldjinejckbaaa.Mod Go.Proofs.Ytlldjinejckbaaa.Lb Go.Proofs.Ytlldjinejckbaaa.Ng Go.Proofs.Ytlldjinejckbaaa.Rc Go.Proofs.Ytlldjinejckbaaa.PD Go.Proofs.Ytlldjinejckbaaa.Pg Go.Proofs.Ytlldjinejckbaaa.Od Go.Proofs.Ytlldjinejckbaaa.Po Go.Proofs.Ytlldjinejckbaaa.Dp
theorem stepD_fold (v : Int) (hv : 0 ≤ v) : ∀ (xs cur : List Int), xs.Nodup → v ∉ xs → (∀ y ∈ xs, 0 ≤ y ∧ y < (cur.length : Int)) → -1000 ≤ rd cur v → rd cur v ≤ 100000 →
  (xs.foldl (stepD v) cur).length = cur.length ∧ ∀ y : Int, 0 ≤ y → rd (xs.foldl (stepD v) cur) y = if y ∈ xs then max (rd cur y) (rd cur v + 1) else rd cur y
 | [], cur, _, _, _, _, _ => ⟨rfl, fun y _ => by simp⟩
 | x :: xs, cur, hn, hvx, hx, hb0, hb1 => by
  rw [List.nodup_cons] at hn
  obtain ⟨hx0, hx1⟩ := hx x (by simp)
  have hw : wrap64 (rd cur v + 1) = rd cur v + 1 := Po.wrap_small (by omega) (by omega)
  have hne : v ≠ x := fun e => hvx (by simp [e])
  have hset : ∀ y, 0 ≤ y → rd (stepD v cur x) y = if y = x then max (rd cur x) (rd cur v + 1) else rd cur y := fun y hy => by
   unfold stepD
   rw [hw]
   by_cases e : y = x
   ·subst e; rw [if_pos rfl, rd_set_same _ _ _ hx0 hx1]
   ·rw [if_neg e, rd_set_other _ _ _ _ hy hx0 e]
  have hvv : rd (stepD v cur x) v = rd cur v := by rw [hset v hv, if_neg hne]
  obtain ⟨a, b⟩ := stepD_fold v hv xs (stepD v cur x) hn.2 (fun h => hvx (by simp [h])) (fun y hy => by rw [stepD_len]; exact hx y (by simp [hy])) (by rw [hvv]; exact hb0) (by rw [hvv]; exact hb1)
  rw [List.foldl_cons]
  refine ⟨by rw [a, stepD_len], fun y hy => ?_⟩
  rw [b y hy, hset y hy, hvv]
  by_cases e : y = x
  ·subst e; rw [if_neg hn.1, if_pos rfl, if_pos (by simp)]
  ·rw [if_neg e]
   by_cases h : y ∈ xs
   ·rw [if_pos h, if_pos (by simp [h])]
   ·rw [if_neg h, if_neg (by simp [h, e])]
structure DInv (n : Nat) (l : List S55) (P cur : List Int) : Prop where
 len : cur.length = n
 lo : ∀ w : Int, 0 ≤ w → w < n → 0 ≤ rd cur w ∧ rd cur w ≤ (P.length : Int)
 ge : ∀ u w : Int, u ∈ P → E l u w → rd cur u + 1 ≤ rd cur w
 inP : ∀ u ∈ P, rd cur u < (P.length : Int)
 at_ : ∀ w : Int, 0 ≤ w → w < n → rd cur w = 0 ∨ ∃ u, u ∈ P ∧ E l u w ∧ rd cur w = rd cur u + 1
theorem DInv.step {n : Nat} {l : List S55} (hl : Ok n l) {P cur : List Int} {v : Int} (h : DInv n l P cur) (hP : P.length ≤ 1000) (hv0 : 0 ≤ v) (hv1 : v < n) (hvs : ¬ E l v v) (hvP : ∀ u ∈ P, ¬ E l v u) (hP0 : ∀ u ∈ P, 0 ≤ u) :
  DInv n l (P ++ [v]) ((row (nx n l) v).foldl (stepD v) cur) := by
 have hrow : ∀ y, y ∈ row (nx n l) v ↔ E l v y := fun y => mem_nx hl y hv0 hv1
 obtain ⟨b0, b1⟩ := h.lo v hv0 hv1
 obtain ⟨s1, s2⟩ := stepD_fold v hv0 (row (nx n l) v) cur (row_nodup _ _) (fun hm => hvs ((hrow v).1 hm)) (fun y hy => by rw [h.len]; have := ((hrow y).1 hy).ok hl; exact ⟨this.2.2.1, this.2.2.2⟩) (by omega) (by omega)
 have hold : ∀ u, 0 ≤ u → (u ∈ P ∨ u = v) → rd ((row (nx n l) v).foldl (stepD v) cur) u = rd cur u := fun u hu hm => by
  rw [s2 u hu, if_neg]
  intro hr
  have he := (hrow u).1 hr
  rcases hm with hm | hm
  ·exact hvP u hm he
  ·subst hm; exact hvs he
 refine ⟨by rw [s1, h.len], fun w w0 w1 => ?_, fun u w hu he => ?_, fun u hu => ?_, fun w w0 w1 => ?_⟩
 ·obtain ⟨c0, c1⟩ := h.lo w w0 w1
  rw [s2 w w0, List.length_append, List.length_singleton]
  split <;> omega
 ·obtain ⟨u0, u1, w0, w1⟩ := he.ok hl
  have hu' : u ∈ P ∨ u = v := by rcases List.mem_append.1 hu with h | h; exact .inl h; exact .inr (by simpa using h)
  rw [hold u u0 hu', s2 w w0]
  rcases hu' with hu' | hu'
  ·have := h.ge u w hu' he
   split <;> omega
  ·subst hu'
   rw [if_pos ((hrow w).2 he)]
   omega
 ·rw [List.length_append, List.length_singleton]
  rcases List.mem_append.1 hu with hu | hu
  ·have h1 := h.inP u hu
   rw [hold u (hP0 u hu) (.inl hu)]
   omega
  ·rw [List.mem_singleton] at hu
   subst hu
   rw [hold u hv0 (.inr rfl)]
   omega
 ·rw [s2 w w0]
  by_cases hm : w ∈ row (nx n l) v
  ·rw [if_pos hm]
   by_cases hc : rd cur w ≤ rd cur v + 1
   ·right
    refine ⟨v, by simp, (hrow w).1 hm, ?_⟩
    rw [hold v hv0 (.inr rfl)]
    omega
   ·rcases h.at_ w w0 w1 with e | ⟨u, hu, he, e⟩
    ·left; omega
    ·right
     refine ⟨u, by simp [hu], he, ?_⟩
     rw [hold u (he.ok hl).1 (.inl hu)]
     omega
  ·rw [if_neg hm]
   rcases h.at_ w w0 w1 with e | ⟨u, hu, he, e⟩
   ·exact .inl e
   ·exact .inr ⟨u, by simp [hu], he, by rw [hold u (he.ok hl).1 (.inl hu)]; exact e⟩
theorem depthGo_spec {n : Nat} (hn : n ≤ 1000) {l : List S55} (hl : Ok n l) {o : List Int} (hg : Greedy n l o) : DInv n l o (depthGo (nx n l) o (List.replicate n 0)) := by
 have key : ∀ k, k ≤ o.length → DInv n l (o.take k) (depthGo (nx n l) (o.take k) (List.replicate n 0)) := by
  intro k
  induction k with
  | zero =>
   intro _
   have hr : ∀ x : Int, rd (List.replicate n 0) x = 0 := fun x => by
    unfold rd
    rw [List.getD_eq_getElem?_getD, List.getElem?_replicate]
    split <;> rfl
   refine ⟨by simp [depthGo], fun w _ _ => ?_, fun u w hu _ => by simp at hu, fun u hu => by simp at hu, fun w _ _ => ?_⟩
   ·simp [depthGo, hr]
   ·simp [depthGo, hr]
  | succ k ih =>
   intro hk
   have h := ih (by omega)
   have e : o.take (k + 1) = o.take k ++ [rd o (k : Int)] := by rw [rd_get (by omega), List.take_succ_eq_append_getElem (by omega)]
   have e2 : depthGo (nx n l) (o.take (k + 1)) (List.replicate n 0) = (row (nx n l) (rd o (k : Int))).foldl (stepD (rd o (k : Int))) (depthGo (nx n l) (o.take k) (List.replicate n 0)) := by
    unfold depthGo
    rw [e, List.foldl_append]
    rfl
   rw [e2, e]
   obtain ⟨v0, v1, v2, v3⟩ := (hg k (by omega)).1
   have hlen := hg.len
   exact h.step hl (by rw [List.length_take]; omega) v0 v1 (fun he => v2 (v3 _ he)) (fun u hu he => by
    obtain ⟨j, hj, rfl⟩ := List.mem_iff_getElem.1 hu
    rw [List.length_take] at hj
    rw [List.getElem_take] at he
    have hj' : j < o.length := by omega
    rw [← rd_get hj'] at he
    have hb := hg.before hj' he
    have e3 : o.take j = (o.take k).take j := by rw [List.take_take, Nat.min_eq_left (by omega)]
    rw [e3] at hb
    exact v2 (List.mem_of_mem_take hb)) (fun u hu => (hg.range u (List.mem_of_mem_take hu)).1)
 have := key o.length (Nat.le_refl _)
 rwa [List.take_length] at this
end Go.Proofs.Ytlldjinejckbaaa.Pd

end
section
namespace Go.Proofs.Ytlldjinejckbaaa.Pe
open Go Go.RowKit Go.Proofs.YtlldjinejckbaaaW.PrintWords Go.Proofs.Ytlldjinejckbaaa.Mod Go.Proofs.Ytlldjinejckbaaa.Lb Go.Proofs.Ytlldjinejckbaaa.Ng Go.Proofs.Ytlldjinejckbaaa.Rc Go.Proofs.Ytlldjinejckbaaa.PD Go.Proofs.Ytlldjinejckbaaa.Pg Go.Proofs.Ytlldjinejckbaaa.Tj
def uins (x : Int) : List Int → List Int
 | [] => [x]
 | y :: ys => if x < y then x :: y :: ys else if x = y then y :: ys else y :: uins x ys
def usort (xs : List Int) : List Int := xs.foldr uins []
theorem mem_uins (x z : Int) : ∀ ys, z ∈ uins x ys ↔ z = x ∨ z ∈ ys
 | [] => by simp [uins]
 | y :: ys => by
  unfold uins
  split
  ·simp
  ·split
   ·rename_i h; subst h; simp
   ·rw [List.mem_cons, mem_uins x z ys, List.mem_cons]
    constructor
    ·rintro (h | h | h); exact .inr (.inl h); exact .inl h; exact .inr (.inr h)
    ·rintro (h | h | h); exact .inr (.inl h); exact .inl h; exact .inr (.inr h)
theorem uins_strict (x : Int) : ∀ ys, ys.Pairwise (· < ·) → (uins x ys).Pairwise (· < ·)
 | [], _ => by simp [uins]
 | y :: ys, h => by
  rw [List.pairwise_cons] at h
  unfold uins
  split
  ·rename_i hx
   rw [List.pairwise_cons]
   refine ⟨fun z hz => ?_, List.pairwise_cons.2 h⟩
   rcases List.mem_cons.1 hz with hz | hz
   ·omega
   ·have := h.1 z hz; omega
  ·split
   ·exact List.pairwise_cons.2 h
   ·rw [List.pairwise_cons]
    refine ⟨fun z hz => ?_, uins_strict x ys h.2⟩
    rcases (mem_uins x z ys).1 hz with hz | hz
    ·omega
    ·exact h.1 z hz
theorem usort_spec : ∀ xs : List Int, (usort xs).Pairwise (· < ·) ∧ ∀ z, z ∈ usort xs ↔ z ∈ xs
 | [] => by simp [usort]
 | x :: xs => by
  obtain ⟨h1, h2⟩ := usort_spec xs
  exact ⟨uins_strict x _ h1, fun z => by show z ∈ uins x (usort xs) ↔ _; rw [mem_uins, h2, List.mem_cons]⟩
theorem compact_sort (xs : List Int) : Lib.compact (sortI xs) = usort xs := strict_ext (tidyRow xs).1 (usort_spec xs).1 (fun z => by rw [(tidyRow xs).2, (usort_spec xs).2])
theorem tidy_eval (rows : List (List Int)) : tidy rows = rows.map usort := by
 unfold tidy
 exact List.map_congr_left (fun r _ => compact_sort r)
def ins1 (x : Int) : List Int → List Int
 | [] => [x]
 | y :: ys => if x ≤ y then x :: y :: ys else y :: ins1 x ys
def isort (xs : List Int) : List Int := xs.foldr ins1 []
theorem ins1_perm (x : Int) : ∀ ys, (ins1 x ys).Perm (x :: ys)
 | [] => .refl _
 | y :: ys => by
  unfold ins1
  split
  ·exact .refl _
  ·exact ((ins1_perm x ys).cons y).trans (List.Perm.swap x y ys)
theorem ins1_sorted (x : Int) : ∀ ys, ys.Pairwise (· ≤ ·) → (ins1 x ys).Pairwise (· ≤ ·)
 | [], _ => by simp [ins1]
 | y :: ys, h => by
  rw [List.pairwise_cons] at h
  unfold ins1
  split
  ·rename_i hx
   rw [List.pairwise_cons]
   refine ⟨fun z hz => ?_, List.pairwise_cons.2 h⟩
   rcases List.mem_cons.1 hz with hz | hz
   ·omega
   ·have := h.1 z hz; omega
  ·rw [List.pairwise_cons]
   refine ⟨fun z hz => ?_, ins1_sorted x ys h.2⟩
   rcases List.mem_cons.1 ((ins1_perm x ys).mem_iff.1 hz) with hz | hz
   ·omega
   ·exact h.1 z hz
theorem isort_spec : ∀ xs : List Int, (isort xs).Pairwise (· ≤ ·) ∧ (isort xs).Perm xs
 | [] => by simp [isort]
 | x :: xs => by
  obtain ⟨h1, h2⟩ := isort_spec xs
  exact ⟨ins1_sorted x _ h1, (ins1_perm x _).trans (h2.cons x)⟩
theorem sortA_eq : sortA = isort := by
 funext xs
 have h1 : (sortA xs).Pairwise (· ≤ ·) := sortI_sorted xs
 have h2 : (sortA xs).Perm xs := List.mergeSort_perm _ _
 exact List.Perm.eq_of_pairwise (le := fun x y : Int => x ≤ y) (fun x y _ _ h1 h2 => by omega) h1 (isort_spec xs).1 (h2.trans (isort_spec xs).2.symm)
def shutE (s : TS) (k : Nat) : TS :=
 { s with stack := s.stack.take k, opn := (s.stack.drop k).foldl (fun o x => o.set x.toNat false) s.opn, out := s.out ++ [isort (s.stack.drop k)] }
def visitE (rows : List (List Int)) : Nat → Int → TS → Option TS
 | 0, _, _ => none
 | f + 1, v, s => if 50000 < s.stack.length then none else match visitRow (visitE rows f) v (row rows v) (s.meet v) with
  | none => none
  | some s2 => if rd s2.low v < rd s2.num v then some s2 else if 50000 < s2.stack.length ∨ 50000 < s2.out.length then none else (match s2.stack.findIdx? (· == v) with
   | some k => some (shutE s2 k)
   | none => none)
theorem visit_eq (rows : List (List Int)) : ∀ f, visit rows f = visitE rows f
 | 0 => by funext v s; rfl
 | f + 1 => by
  funext v s
  unfold visit visitE
  rw [visit_eq rows f]
  have e : ∀ (s : TS) k, s.shut k = shutE s k := fun s k => by unfold TS.shut shutE; rw [sortA_eq]
  simp only [e]
  rfl
def visitAllE (rows : List (List Int)) (n : Nat) : Nat → TS → Option TS
 | 0, s => some s
 | k + 1, s => if rd s.num ((n - (k + 1) : Nat) : Int) = 0 then (match visitE rows (n + 1) ((n - (k + 1) : Nat) : Int) s with
   | some s' => visitAllE rows n k s'
   | none => none) else visitAllE rows n k s
theorem visitAll_eq (rows : List (List Int)) (n : Nat) : ∀ k s, visitAll rows n k s = visitAllE rows n k s
 | 0, s => rfl
 | k + 1, s => by
  unfold visitAll visitAllE
  rw [visit_eq]
  split
  ·split
   ·rename_i s' h; rw [h]; exact visitAll_eq rows n k s'
   ·rename_i h; rw [h]
  ·exact visitAll_eq rows n k s
abbrev g1 : List S55 := [⟨2, 0⟩, ⟨0, 3⟩, ⟨1, 3⟩]
abbrev g2 : List S55 := [⟨2, 0⟩, ⟨0, 3⟩, ⟨1, 3⟩, ⟨3, 2⟩]
abbrev g3 : List S55 := [⟨2, 0⟩, ⟨0, 3⟩, ⟨1, 3⟩, ⟨1, 1⟩]
theorem t1 : tidy (built 4 g1 true) = [[3], [3], [0], []] := by rw [tidy_eval]; decide +kernel
theorem t1p : tidy (built 4 g1 false) = [[2], [], [], [0, 1]] := by rw [tidy_eval]; decide +kernel
theorem t2 : tidy (built 4 g2 true) = [[3], [3], [0], [2]] := by rw [tidy_eval]; decide +kernel
theorem t2p : tidy (built 4 g2 false) = [[2], [], [3], [0, 1]] := by rw [tidy_eval]; decide +kernel
theorem t3 : tidy (built 4 g3 true) = [[3], [1, 3], [0], []] := by rw [tidy_eval]; decide +kernel
theorem t3p : tidy (built 4 g3 false) = [[2], [1], [], [0, 1]] := by rw [tidy_eval]; decide +kernel
theorem o1 : Od.orderOf 4 g1 = some ([1, 2, 0, 3], 0) := by unfold Od.orderOf; rw [t1, t1p]; decide +kernel
theorem o2 : Od.orderOf 4 g2 = some ([], 50) := by unfold Od.orderOf; rw [t2, t2p]; decide +kernel
theorem d1 : Dp.depthOf 4 g1 = some ([1, 0, 0, 2], 0) := by unfold Dp.depthOf; rw [o1, t1]; decide +kernel
theorem d2 : Dp.depthOf 4 g2 = some ([], 50) := by unfold Dp.depthOf; rw [o2]; rfl
theorem c1 : Cy.cycleOf 4 g1 = some ([], 4) := by unfold Cy.cycleOf; rw [t1, t1p]; decide +kernel
theorem c2 : Cy.cycleOf 4 g2 = some ([0, 3, 2], 0) := by unfold Cy.cycleOf; rw [t2, t2p]; decide +kernel
theorem c3 : Cy.cycleOf 4 g3 = some ([1], 0) := by unfold Cy.cycleOf; rw [t3, t3p]; decide +kernel
theorem k1 : Tj.compsOf (tidy (built 4 g2 true)) 4 = some [[0, 2, 3], [1]] := by
 unfold Tj.compsOf
 rw [t2, visitAll_eq]
 have e : visitAllE [[3], [3], [0], [2]] 4 4 (Tj.start 4) = some { count := 4, num := [1, 4, 3, 2], low := [1, 4, 1, 1], opn := [false, false, false, false], stack := [], out := [[0, 2, 3], [1]] } := by kernel_rfl
 rw [e]
 have hf : Tj.fine [[0, 2, 3], [1]] = true := by decide +kernel
 simp only
 rw [if_pos hf, List.mergeSort_of_pairwise (by decide +kernel)]
theorem ch1 : Ck.checkOf 4 g1 [2, 0, 1, 3] = 0 := by decide +kernel
theorem ch2 : Ck.checkOf 4 g1 [0, 1, 2, 3] = 6 := by decide +kernel
theorem o0 : Od.orderOf 0 [] = some ([], 0) := by unfold Od.orderOf; rw [tidy_eval, tidy_eval]; decide +kernel
theorem sortI_eq : sortI = isort := sortA_eq
theorem r1 : Rc.reachOf 4 g1 2 = [0, 2, 3] := by unfold Rc.reachOf; rw [t1, sortI_eq]; decide +kernel
theorem r2 : Rc.reachOf 4 g1 4 = [] := by decide +kernel
end Go.Proofs.Ytlldjinejckbaaa.Pe

end
section
namespace Go.Proofs.Ytlldjinejckbaaa.PD
open Go Go.RowKit Go.Proofs.YtlldjinejckbaaaW.PrintWords Go.Proofs.YtlldjinejckbaaaW.PrintLast Go.Proofs.YtlldjinejckbaaaW.PrintMore
open Go.Proofs.Ytlldjinejckbaaa.Pg Go.Proofs.Ytlldjinejckbaaa.Pe
theorem ex_order1 : wireloomlaw05_order.f 4 g1 = some ([1, 2, 0, 3], 0) := by unfold wireloomlaw05_order.f digraph_Order.f; rw [if_pos (by decide), show (4 : Int).toNat = 4 from rfl, o1]; rfl
theorem ex_order2 : wireloomlaw05_order.f 4 g2 = some ([], 50) := by unfold wireloomlaw05_order.f digraph_Order.f; rw [if_pos (by decide), show (4 : Int).toNat = 4 from rfl, o2]; rfl
theorem ex_order0 : wireloomlaw05_order.f 0 [] = some ([], 0) := by unfold wireloomlaw05_order.f digraph_Order.f; rw [if_pos (by decide), show (0 : Int).toNat = 0 from rfl, o0]; rfl
theorem ex_depth1 : wireloomlaw05_depth.f 4 g1 = some ([1, 0, 0, 2], 0) := by unfold wireloomlaw05_depth.f digraph_Depth.f; rw [if_pos (by decide), show (4 : Int).toNat = 4 from rfl, d1]; rfl
theorem ex_depth2 : wireloomlaw05_depth.f 4 g2 = some ([], 50) := by unfold wireloomlaw05_depth.f digraph_Depth.f; rw [if_pos (by decide), show (4 : Int).toNat = 4 from rfl, d2]; rfl
theorem ex_cycle1 : wireloomlaw05_cycle.f 4 g1 = some ([], 4) := by unfold wireloomlaw05_cycle.f digraph_Cycle.f; rw [if_pos (by decide), show (4 : Int).toNat = 4 from rfl, c1]; rfl
theorem ex_cycle2 : wireloomlaw05_cycle.f 4 g2 = some ([0, 3, 2], 0) := by unfold wireloomlaw05_cycle.f digraph_Cycle.f; rw [if_pos (by decide), show (4 : Int).toNat = 4 from rfl, c2]; rfl
theorem ex_cycle3 : wireloomlaw05_cycle.f 4 g3 = some ([1], 0) := by unfold wireloomlaw05_cycle.f digraph_Cycle.f; rw [if_pos (by decide), show (4 : Int).toNat = 4 from rfl, c3]; rfl
theorem ex_reach1 : digraph_Reach.f 4 g1 2 = some [0, 2, 3] := by unfold digraph_Reach.f; rw [if_pos (by decide), show (4 : Int).toNat = 4 from rfl, r1]
theorem ex_reach2 : digraph_Reach.f 4 g1 4 = some [] := by unfold digraph_Reach.f; rw [if_pos (by decide), show (4 : Int).toNat = 4 from rfl, r2]
theorem ex_comps : digraph_Components.f 4 g2 = some [[0, 2, 3], [1]] := by unfold digraph_Components.f; rw [if_pos (by decide), show (4 : Int).toNat = 4 from rfl, k1]
theorem ex_check1 : digraph_Check.f 4 g1 [2, 0, 1, 3] = some 0 := by unfold digraph_Check.f; rw [if_pos (by decide), show (4 : Int).toNat = 4 from rfl, ch1]
theorem ex_check2 : digraph_Check.f 4 g1 [0, 1, 2, 3] = some 6 := by unfold digraph_Check.f; rw [if_pos (by decide), show (4 : Int).toNat = 4 from rfl, ch2]
theorem ex_with1 : wireloomref05_With.f 4 g1 3 2 = some (4, g2) := by kernel_rfl
theorem ex_with2 : wireloomref05_With.f 4 g1 1 1 = some (4, g3) := by kernel_rfl
theorem ex_valid1 : digraph_Valid.f 20 4 g1 = some true := by kernel_rfl
theorem ex_valid2 : digraph_Valid.f 20 3 g1 = some false := by kernel_rfl
theorem examples_at : wireloomlaw05_examples.f 22 = some true := by
 unfold wireloomlaw05_examples.f
 simp only [Option.bind_some]
 rw [ex_with1, Option.bind_some, ex_with2, Option.bind_some, ex_order1, Option.bind_some]
 rw [show wireloomref05_Alike.f 22 [1, 2, 0, 3] 0 [1, 2, 0, 3] 0 = some true from by kernel_rfl, Option.bind_some, if_pos rfl, ex_depth1, Option.bind_some]
 rw [show wireloomref05_Alike.f 22 [1, 0, 0, 2] 0 [1, 0, 0, 2] 0 = some true from by kernel_rfl, Option.bind_some, if_pos rfl, ex_reach1, Option.bind_some]
 rw [show wireloomref05_Same.f 22 [0, 2, 3] [0, 2, 3] = some true from by kernel_rfl, Option.bind_some, if_pos rfl, ex_cycle1, Option.bind_some]
 show wireloomlaw05_examples.j0 (21 + 1) false 4 g1 4 g2 4 g3 = some true
 simp only [wireloomlaw05_examples.j0]
 rw [if_neg (by decide), ex_order2, Option.bind_some, if_pos rfl, ex_depth2, Option.bind_some, if_pos rfl, ex_cycle2, Option.bind_some]
 rw [show wireloomref05_Alike.f 21 [0, 3, 2] 0 [0, 3, 2] 0 = some true from by kernel_rfl, Option.bind_some, if_pos rfl, ex_cycle3, Option.bind_some]
 rw [show wireloomref05_Alike.f 21 [1] 0 [1] 0 = some true from by kernel_rfl, Option.bind_some, if_pos rfl, ex_comps, Option.bind_some]
 rw [show wireloomref05_SameLists.f 21 [[0, 2, 3], [1]] [[0, 2, 3], [1]] = some true from by kernel_rfl, Option.bind_some]
 show wireloomlaw05_examples.j1 (20 + 1) false 4 g1 = some true
 simp only [wireloomlaw05_examples.j1]
 rw [if_neg (by decide), ex_valid1, Option.bind_some, if_pos rfl, ex_valid2, Option.bind_some, if_neg (by decide), ex_check1, Option.bind_some, if_pos rfl, ex_check2, Option.bind_some, if_pos rfl, ex_order0, Option.bind_some, if_pos rfl, ex_reach2, Option.bind_some]
 rfl
theorem examples_ev : Ev (fun k => wireloomlaw05_examples.f k) true := Ev.of wireloomlaw05_examples.mono examples_at
theorem wrap_ok {x : Int} (h0 : -1000000 ≤ x) (h1 : x ≤ 1000000) : wrap64 x = x := by unfold wrap64; omega
theorem rd_bound {B : List Int} (hB : ∀ x ∈ B, 0 ≤ x ∧ x ≤ 255) {i : Int} (h0 : 0 ≤ i) (h1 : i < (B.length : Int)) : 0 ≤ rd B i ∧ rd B i ≤ 255 := by
 apply hB
 unfold rd
 rw [List.getD_eq_getElem?_getD, List.getElem?_eq_getElem (by omega)]
 exact List.getElem_mem _
theorem ok_add {n : Nat} {l : List S55} (h : Ok n l) {u v : Int} (h0 : 0 ≤ u) (h1 : u < n) (h2 : 0 ≤ v) (h3 : v < n) : Ok n (l ++ [⟨u, v⟩]) := fun e he => by
 rcases List.mem_append.1 he with he | he
 ·exact h e he
 ·rw [List.mem_singleton] at he; subst he; exact ⟨h0, h1, h2, h3⟩
theorem made_loop {n : Nat} (hn : n ≤ 12) (a b : Int) (hb0 : 0 ≤ b) {B : List Int} (hB : ∀ x ∈ B, 0 ≤ x ∧ x ≤ 255) : ∀ (d j : Nat) (l : List S55), j + d = 30 → l.length ≤ j → Ok n l →
  ∃ lf, Ev (fun k => wireloomref05_Made.l0 k n (2 * (j : Int)) a b B n l) ((n : Int), lf) ∧ Ok n lf ∧ lf.length ≤ 30 := by
 intro d
 induction d with
 | zero =>
  intro j l hj hl hok
  refine ⟨l, ?_, hok, by omega⟩
  obtain rfl : j = 30 := by omega
  have hend : Ev (fun k => wireloomref05_Made.j1 k n (2 * ((30 : Nat) : Int)) false a b B n l) ((n : Int), l) := Ev.step (f := fun _ => some ((n : Int), l)) (fun k => by simp only [wireloomref05_Made.j1]; rw [if_neg (by decide)]) (Ev.now _)
  refine Ev.step (f := fun k => wireloomref05_Made.j1 k n (2 * ((30 : Nat) : Int)) false a b B n l) (fun k => ?_) hend
  simp only [wireloomref05_Made.l0]
  split
  ·rw [if_neg (by omega)]
  ·rfl
 | succ d ih =>
  intro j l hj hl hok
  have hi : (0 : Int) ≤ 2 * (j : Int) ∧ 2 * (j : Int) ≤ 58 := by omega
  have w1 : wrap64 (2 * (j : Int) + 1) = 2 * (j : Int) + 1 := wrap_ok (by omega) (by omega)
  have w2 : wrap64 (2 * (j : Int) + 2) = 2 * ((j + 1 : Nat) : Int) := by rw [wrap_ok (by omega) (by omega)]; omega
  have hend : Ev (fun k => wireloomref05_Made.j1 k n (2 * (j : Int)) false a b B n l) ((n : Int), l) := Ev.step (f := fun _ => some ((n : Int), l)) (fun k => by simp only [wireloomref05_Made.j1]; rw [if_neg (by decide)]) (Ev.now _)
  by_cases hc : 2 * (j : Int) + 1 < (B.length : Int) ∧ 0 < n
  ·obtain ⟨hc1, hc2⟩ := hc
   obtain ⟨r0, r1⟩ := rd_bound hB (i := 2 * (j : Int)) (by omega) (by omega)
   obtain ⟨s0, s1⟩ := rd_bound hB (i := 2 * (j : Int) + 1) (by omega) (by omega)
   have wr : wrap64 (rd B (2 * (j : Int))) = rd B (2 * (j : Int)) := wrap_ok (by omega) (by omega)
   have ws : wrap64 (rd B (2 * (j : Int) + 1)) = rd B (2 * (j : Int) + 1) := wrap_ok (by omega) (by omega)
   obtain ⟨v, hv⟩ : ∃ v, v = Int.tmod (rd B (2 * (j : Int))) n := ⟨_, rfl⟩
   obtain ⟨u, hu⟩ : ∃ u, u = Int.tmod (rd B (2 * (j : Int) + 1)) n := ⟨_, rfl⟩
   have v0 : 0 ≤ v := by rw [hv]; exact Int.tmod_nonneg _ r0
   have v1 : v < n := by rw [hv]; exact Int.tmod_lt_of_pos _ (by omega)
   have u0 : 0 ≤ u := by rw [hu]; exact Int.tmod_nonneg _ s0
   have u1 : u < n := by rw [hu]; exact Int.tmod_lt_of_pos _ (by omega)
   have hlt : l.length < 8796093022208 := by omega
   have next : ∀ l', l'.length ≤ j + 1 → Ok n l' → ∃ lf, Ev (fun k => wireloomref05_Made.l0 k n (wrap64 (2 * (j : Int) + 2)) a b B n l') ((n : Int), lf) ∧ Ok n lf ∧ lf.length ≤ 30 := fun l' h1 h2 => by
    rw [w2]; exact ih (j + 1) l' (by omega) h1 h2
   have swapped : ∀ x y : Int, 0 ≤ x → x < n → 0 ≤ y → y < n → ∃ lf, Ev (fun k => wireloomref05_Made.j2 k n (2 * (j : Int)) x y a b B n l) ((n : Int), lf) ∧ Ok n lf ∧ lf.length ≤ 30 := fun x y x0 x1 y0 y1 => by
    by_cases h4 : Int.tmod b 4 = 2
    ·by_cases h5 : Int.tmod (n : Int) 5 = 0
     ·obtain ⟨lf, e, o, q⟩ := next l (by omega) hok
      refine ⟨lf, Ev.step (fun k => ?_) e, o, q⟩
      simp only [wireloomref05_Made.j2]
      rw [if_pos h4, if_neg (by omega), if_pos h5]
     ·have wx : wrap64 (wrap64 (5 * x) + 3) = 5 * x + 3 := by rw [wrap_ok (x := 5 * x) (by omega) (by omega), wrap_ok (by omega) (by omega)]
      have wy : wrap64 (wrap64 (5 * y) + 3) = 5 * y + 3 := by rw [wrap_ok (x := 5 * y) (by omega) (by omega), wrap_ok (by omega) (by omega)]
      obtain ⟨lf, e, o, q⟩ := next (l ++ [⟨Int.tmod (5 * x + 3) n, Int.tmod (5 * y + 3) n⟩]) (by simp; omega) (ok_add hok (Int.tmod_nonneg _ (by omega)) (Int.tmod_lt_of_pos _ (by omega)) (Int.tmod_nonneg _ (by omega)) (Int.tmod_lt_of_pos _ (by omega)))
      refine ⟨lf, Ev.step (fun k => ?_) e, o, q⟩
      simp only [wireloomref05_Made.j2]
      rw [if_pos h4, if_neg (by omega), if_neg h5, if_pos hlt, wx, wy]
    ·obtain ⟨lf, e, o, q⟩ := next (l ++ [⟨x, y⟩]) (by simp; omega) (ok_add hok x0 x1 y0 y1)
     refine ⟨lf, Ev.step (fun k => ?_) e, o, q⟩
     simp only [wireloomref05_Made.j2]
     rw [if_neg h4]
     split <;> first | rfl | rw [if_pos hlt]
   have body : ∃ lf, Ev (fun k => wireloomref05_Made.j1 k n (2 * (j : Int)) true a b B n l) ((n : Int), lf) ∧ Ok n lf ∧ lf.length ≤ 30 := by
    have e0 : ∀ k, wireloomref05_Made.j1 (k + 1) n (2 * (j : Int)) true a b B n l = (if (Int.tmod b 2) = 0 then (if v = u then (wireloomref05_Made.l0 k n (wrap64 (2 * (j : Int) + 2)) a b B n l) else (if v > u then (wireloomref05_Made.j2 k n (2 * (j : Int)) u v a b B n l) else (wireloomref05_Made.j2 k n (2 * (j : Int)) v u a b B n l))) else (wireloomref05_Made.l0 k n (wrap64 (2 * (j : Int) + 2)) a b B n (l ++ [⟨v, u⟩]))) := fun k => by
     simp only [wireloomref05_Made.j1]
     rw [if_pos (by first | rfl | trivial), if_pos (by omega), if_pos (by omega), if_neg (by omega), w1, if_pos (by omega), if_pos (by omega), if_pos hlt, wr, ws, ← hv, ← hu]
    by_cases h2 : Int.tmod b 2 = 0
    ·by_cases hvu : v = u
     ·obtain ⟨lf, e, o, q⟩ := next l (by omega) hok
      exact ⟨lf, Ev.step (fun k => by rw [e0, if_pos h2, if_pos hvu]) e, o, q⟩
     ·by_cases hgt : v > u
      ·obtain ⟨lf, e, o, q⟩ := swapped u v u0 u1 v0 v1
       exact ⟨lf, Ev.step (fun k => by rw [e0, if_pos h2, if_neg hvu, if_pos hgt]) e, o, q⟩
      ·obtain ⟨lf, e, o, q⟩ := swapped v u v0 v1 u0 u1
       exact ⟨lf, Ev.step (fun k => by rw [e0, if_pos h2, if_neg hvu, if_neg hgt]) e, o, q⟩
    ·obtain ⟨lf, e, o, q⟩ := next (l ++ [⟨v, u⟩]) (by simp; omega) (ok_add hok v0 v1 u0 u1)
     exact ⟨lf, Ev.step (fun k => by rw [e0, if_neg h2]) e, o, q⟩
   obtain ⟨lf, e, o, q⟩ := body
   refine ⟨lf, Ev.step (fun k => ?_) e, o, q⟩
   simp only [wireloomref05_Made.l0]
   rw [w1, if_pos hc1, if_pos (by omega), decide_eq_true (by omega)]
  ·refine ⟨l, Ev.step (fun k => ?_) hend, hok, by omega⟩
   simp only [wireloomref05_Made.l0]
   rw [w1]
   by_cases h1 : 2 * (j : Int) + 1 < (B.length : Int)
   ·rw [if_pos h1, if_pos (by omega), decide_eq_false (by omega)]
   ·rw [if_neg h1]
theorem made_spec (a b : Int) (ha : 0 ≤ a) (hb : 0 ≤ b) {B : List Int} (hB : ∀ x ∈ B, 0 ≤ x ∧ x ≤ 255) : ∃ (n : Nat) (l : List S55), Ev (fun k => wireloomref05_Made.f k a b B) ((n : Int), l) ∧ n ≤ 12 ∧ Ok n l ∧ l.length ≤ 30 := by
 obtain ⟨n, hn⟩ : ∃ n : Nat, Int.tmod a 13 = n := ⟨(Int.tmod a 13).toNat, by have := Int.tmod_nonneg 13 ha; omega⟩
 have hn2 : n ≤ 12 := by have := Int.tmod_lt_of_pos a (b := 13) (by omega); omega
 have w : wrap64 (Int.tmod a 13) = n := by rw [hn]; exact wrap_ok (by omega) (by omega)
 obtain ⟨lf, e, o, q⟩ := made_loop hn2 a b hb hB 30 0 [] (by omega) (by simp) (fun e he => by simp at he)
 refine ⟨n, lf, Ev.congr (fun k => ?_) e, hn2, o, q⟩
 unfold wireloomref05_Made.f
 rw [w]
 rfl
end Go.Proofs.Ytlldjinejckbaaa.PD

end
section
namespace Go.Proofs.Ytlldjinejckbaaa.Pb
open Go Go.RowKit Go.Proofs.YtlldjinejckbaaaW.PrintWords Go.Proofs.Ytlldjinejckbaaa.Mod Go.Proofs.Ytlldjinejckbaaa.Pg
def Pa (R : Int → Int → Prop) : Nat → Int → Int → Prop
 | 0, u, v => u = v
 | k + 1, u, v => ∃ m, Pa R k u m ∧ R m v
def Dist (R : Int → Int → Prop) (u v : Int) (d : Nat) : Prop := Pa R d u v ∧ ∀ k, k < d → ¬ Pa R k u v
theorem Dist.le {R : Int → Int → Prop} {u v : Int} {d k : Nat} (h : Dist R u v d) (hp : Pa R k u v) : d ≤ k := Classical.byContradiction fun hn => h.2 k (by omega) hp
theorem Dist.eq {R : Int → Int → Prop} {u v : Int} {d e : Nat} (h : Dist R u v d) (h' : Dist R u v e) : d = e := by have := h.le h'.1; have := h'.le h.1; omega
theorem Pa.add {R : Int → Int → Prop} {u v : Int} {j : Nat} (h : Pa R j u v) : ∀ {k : Nat} {w : Int}, Pa R k v w → Pa R (j + k) u w
 | 0, w, hk => by cases hk; exact h
 | k + 1, w, ⟨m, hm, hr⟩ => ⟨m, Pa.add h hm, hr⟩
theorem Pa.one {R : Int → Int → Prop} {u v : Int} (h : R u v) : Pa R 1 u v := ⟨u, rfl, h⟩
theorem Pa.split {R : Int → Int → Prop} {u : Int} : ∀ {j k : Nat} {w : Int}, Pa R (j + k) u w → ∃ v, Pa R j u v ∧ Pa R k v w
 | j, 0, w, h => ⟨w, h, rfl⟩
 | j, k + 1, w, ⟨m, hm, hr⟩ => by
  obtain ⟨v, h1, h2⟩ := Pa.split (j := j) (k := k) hm
  exact ⟨v, h1, m, h2, hr⟩
theorem Pa.flip {R : Int → Int → Prop} {u : Int} : ∀ {k : Nat} {v : Int}, Pa R k u v → Pa (fun a b => R b a) k v u
 | 0, v, h => h.symm
 | k + 1, v, ⟨m, hm, hr⟩ => by
  have h1 := Pa.flip hm
  have h2 : Pa (fun a b => R b a) 1 v m := ⟨v, rfl, hr⟩
  rw [Nat.add_comm]
  exact h2.add h1
theorem Dist.flip {R : Int → Int → Prop} {u v : Int} {d : Nat} (h : Dist R u v d) : Dist (fun a b => R b a) v u d := ⟨h.1.flip, fun k hk hp => h.2 k hk hp.flip⟩
theorem Dist.prev {R : Int → Int → Prop} {u v : Int} {d : Nat} (h : Dist R u v (d + 1)) : ∃ m, Dist R u m d ∧ R m v := by
 obtain ⟨⟨m, hm, hr⟩, hn⟩ := h
 exact ⟨m, ⟨hm, fun k hk hp => hn (k + 1) (by omega) ⟨m, hp, hr⟩⟩, hr⟩
theorem Dist.next {R : Int → Int → Prop} {u v : Int} {d : Nat} (h : Dist R u v (d + 1)) : ∃ m, R u m ∧ Dist R m v d := by
 obtain ⟨m, h1, h2⟩ := h.flip.prev
 exact ⟨m, h2, h1.flip⟩
structure Tells (n : Nat) (rows : List (List Int)) (R : Int → Int → Prop) : Prop where
 len : rows.length = n
 row : ∀ v x : Int, 0 ≤ v → v < n → (x ∈ row rows v ↔ R v x)
 nd : ∀ v : Int, (Mod.row rows v).Nodup
 ok : ∀ v x : Int, R v x → 0 ≤ v ∧ v < n ∧ 0 ≤ x ∧ x < n
theorem tells_nx {n : Nat} {l : List PD.S55} (h : Ok n l) : Tells n (nx n l) (E l) := ⟨len_nx n l, fun v x h0 h1 => mem_nx h x h0 h1, fun v => row_nodup _ v, fun v x he => he.ok h⟩
theorem tells_pv {n : Nat} {l : List PD.S55} (h : Ok n l) : Tells n (pv n l) (fun a b => E l b a) := ⟨len_pv n l, fun v x h0 h1 => mem_pv h x h0 h1, fun v => row_nodup _ v, fun v x he => by have := he.ok h; exact ⟨this.2.2.1, this.2.2.2, this.1, this.2.1⟩⟩
theorem relax_spec (v : Int) : ∀ (xs far q : List Int), xs.Nodup → (∀ y ∈ xs, 0 ≤ y ∧ y < (far.length : Int)) → 0 ≤ v → 1 ≤ rd far v → rd far v ≤ 100000 →
  (relax v xs far q).1.length = far.length ∧ (relax v xs far q).2 = q ++ xs.filter (fun x => decide (rd far x = 0)) ∧ ∀ y : Int, 0 ≤ y → rd (relax v xs far q).1 y = if y ∈ xs ∧ rd far y = 0 then rd far v + 1 else rd far y
 | [], far, q, _, _, _, _, _ => ⟨rfl, by simp [relax], fun y _ => by simp [relax]⟩
 | x :: xs, far, q, hn, hx, hv, h1, h2 => by
  rw [List.nodup_cons] at hn
  obtain ⟨x0, x1⟩ := hx x (by simp)
  have hw : wrap64 (rd far v + 1) = rd far v + 1 := Po.wrap_small (by omega) (by omega)
  unfold relax
  by_cases hz : rd far x = 0
  ·have hxv : v ≠ x := fun e => by subst e; omega
   have hvv : rd (far.set x.toNat (rd far v + 1)) v = rd far v := rd_set_other _ _ _ _ hv x0 hxv
   obtain ⟨a, b, c⟩ := relax_spec v xs (far.set x.toNat (rd far v + 1)) (q ++ [x]) hn.2 (fun y hy => by rw [List.length_set]; exact hx y (by simp [hy])) hv (by rw [hvv]; exact h1) (by rw [hvv]; exact h2)
   have hset : ∀ y, 0 ≤ y → rd (far.set x.toNat (rd far v + 1)) y = if y = x then rd far v + 1 else rd far y := fun y hy => by
    by_cases e : y = x
    ·subst e; rw [if_pos rfl, rd_set_same _ _ _ x0 x1]
    ·rw [if_neg e, rd_set_other _ _ _ _ hy x0 e]
   rw [if_pos hz, hw]
   refine ⟨by rw [a, List.length_set], ?_, fun y hy => ?_⟩
   ·rw [b, List.filter_cons, if_pos (by simpa using hz), List.append_assoc]
    congr 1
    show x :: _ = _
    congr 1
    apply List.filter_congr
    intro y hy
    rw [hset y (hx y (by simp [hy])).1, if_neg (fun e => hn.1 (by rw [← e]; exact hy))]
   ·rw [c y hy, hset y hy, hvv]
    by_cases e : y = x
    ·subst e
     rw [if_pos rfl, if_neg (fun h => hn.1 h.1), if_pos ⟨by simp, hz⟩]
    ·rw [if_neg e]
     by_cases h : y ∈ xs ∧ rd far y = 0
     ·rw [if_pos h, if_pos ⟨by simp [h.1], h.2⟩]
     ·rw [if_neg h, if_neg (fun h' => h ⟨by rcases List.mem_cons.1 h'.1 with h' | h'; exact absurd h' e; exact h', h'.2⟩)]
  ·obtain ⟨a, b, c⟩ := relax_spec v xs far q hn.2 (fun y hy => hx y (by simp [hy])) hv h1 h2
   rw [if_neg hz]
   refine ⟨a, ?_, fun y hy => ?_⟩
   ·rw [b, List.filter_cons, if_neg (by simpa using hz)]
   ·rw [c y hy]
    by_cases h : y ∈ xs ∧ rd far y = 0
    ·rw [if_pos h, if_pos ⟨by simp [h.1], h.2⟩]
    ·rw [if_neg h, if_neg (fun h' => h ⟨by rcases List.mem_cons.1 h'.1 with h' | h'; (subst h'; exact absurd h'.2 hz); exact h', h'.2⟩)]
structure BI (n : Nat) (R : Int → Int → Prop) (s : Int) (done far q : List Int) : Prop where
 len : far.length = n
 nd : (done ++ q).Nodup
 rng : ∀ v ∈ done ++ q, 0 ≤ v ∧ v < (n : Int)
 seen : ∀ v : Int, 0 ≤ v → v < n → (rd far v ≠ 0 ↔ v ∈ done ++ q)
 dist : ∀ v ∈ done ++ q, ∃ d : Nat, rd far v = (d : Int) + 1 ∧ Dist R s v d ∧ d + 1 ≤ (done ++ q).length
 cl : ∀ v ∈ done, ∀ x, R v x → x ∈ done ++ q
 st : s ∈ done ++ q
 mono : q.Pairwise (fun a b => rd far a ≤ rd far b)
 near : ∀ a ∈ q, ∀ b ∈ q.head?, rd far a ≤ rd far b + 1
 old : ∀ a ∈ done, ∀ b ∈ q.head?, rd far a ≤ rd far b
 all : ∀ b ∈ q.head?, ∀ (k : Nat) (x : Int), Pa R k s x → (k : Int) + 1 ≤ rd far b → x ∈ done ++ q
theorem BI.step {n : Nat} (hn : n ≤ 1000) {rows : List (List Int)} {R : Int → Int → Prop} (hT : Tells n rows R) {s : Int} {done far q : List Int} {v : Int} (h : BI n R s done far (v :: q)) :
  BI n R s (done ++ [v]) (relax v (row rows v) far q).1 (relax v (row rows v) far q).2 := by
 have hvm : v ∈ done ++ v :: q := by simp
 obtain ⟨v0, v1⟩ := h.rng v hvm
 obtain ⟨d, hd, hdist, hdn⟩ := h.dist v hvm
 have hcard : (done ++ v :: q).length ≤ n := nodup_len h.nd h.rng
 have hrow : ∀ x, x ∈ row rows v ↔ R v x := fun x => hT.row v x v0 v1
 obtain ⟨r1, r2, r3⟩ := relax_spec v (row rows v) far q (hT.nd v) (fun y hy => by rw [h.len]; have := hT.ok v y ((hrow y).1 hy); exact ⟨this.2.2.1, this.2.2.2⟩) v0 (by omega) (by omega)
 obtain ⟨news, hnews⟩ : ∃ news, news = (row rows v).filter (fun x => decide (rd far x = 0)) := ⟨_, rfl⟩
 rw [← hnews] at r2
 have hnm : ∀ x, x ∈ news ↔ R v x ∧ rd far x = 0 := fun x => by rw [hnews, List.mem_filter, hrow]; simp
 have hnr : ∀ x ∈ news, 0 ≤ x ∧ x < (n : Int) := fun x hx => by have := hT.ok v x ((hnm x).1 hx).1; exact ⟨this.2.2.1, this.2.2.2⟩
 have hnn : ∀ x ∈ news, x ∉ done ++ v :: q := fun x hx hm => by
  have := (h.seen x (hnr x hx).1 (hnr x hx).2).2 hm
  exact this ((hnm x).1 hx).2
 have hfar : ∀ y, 0 ≤ y → rd (relax v (row rows v) far q).1 y = if y ∈ news then rd far v + 1 else rd far y := fun y hy => by
  rw [r3 y hy]
  by_cases hc : y ∈ row rows v ∧ rd far y = 0
  ·rw [if_pos hc, if_pos ((hnm y).2 ⟨(hrow y).1 hc.1, hc.2⟩)]
  ·rw [if_neg hc, if_neg (fun hm => hc ⟨(hrow y).2 ((hnm y).1 hm).1, ((hnm y).1 hm).2⟩)]
 have hold : ∀ y ∈ done ++ v :: q, rd (relax v (row rows v) far q).1 y = rd far y := fun y hy => by
  rw [hfar y (h.rng y hy).1, if_neg (fun hm => hnn y hm hy)]
 have hnew : ∀ y ∈ news, rd (relax v (row rows v) far q).1 y = rd far v + 1 := fun y hy => by rw [hfar y (hnr y hy).1, if_pos hy]
 have hmem : ∀ y, y ∈ done ++ [v] ++ (q ++ news) ↔ y ∈ done ++ v :: q ∨ y ∈ news := fun y => by
  have e : done ++ [v] ++ (q ++ news) = (done ++ v :: q) ++ news := by simp
  rw [e, List.mem_append]
 rw [r2]
 have hall : ∀ (k : Nat) (x : Int), Pa R k s x → (k : Int) + 1 ≤ rd far v → x ∈ done ++ v :: q := h.all v (by simp)
 have hcl : ∀ u ∈ done ++ [v], ∀ x, R u x → x ∈ done ++ v :: q ∨ x ∈ news := fun u hu x hx => by
  rcases List.mem_append.1 hu with hu | hu
  ·exact .inl (h.cl u hu x hx)
  ·rw [List.mem_singleton] at hu
   subst hu
   by_cases hz : rd far x = 0
   ·exact .inr ((hnm x).2 ⟨hx, hz⟩)
   ·have := hT.ok u x hx
    exact .inl ((h.seen x this.2.2.1 this.2.2.2).1 hz)
 have hq := List.pairwise_cons.1 h.mono
 have hnear : ∀ a ∈ q, rd far a ≤ rd far v + 1 := fun a ha => h.near a (by simp [ha]) v (by simp)
 have hdeep : ∀ b ∈ q ++ news, rd far v ≤ rd (relax v (row rows v) far q).1 b ∧ rd (relax v (row rows v) far q).1 b ≤ rd far v + 1 := fun b hb => by
  rcases List.mem_append.1 hb with hb | hb
  ·rw [hold b (by simp [hb])]
   exact ⟨hq.1 b hb, hnear b hb⟩
  ·rw [hnew b hb]; omega
 have hheadm : ∀ b, b ∈ (q ++ news).head? → b ∈ q ++ news := fun b hb => by
  cases hqn : q ++ news with
  | nil => rw [hqn] at hb; simp at hb
  | cons z zs => rw [hqn] at hb; simp at hb; subst hb; simp
 refine ⟨by rw [r1, h.len], ?_, fun y hy => ?_, fun y y0 y1 => ?_, fun y hy => ?_, fun u hu x hx => (hmem x).2 (hcl u hu x hx), (hmem s).2 (.inl h.st), ?_, fun a ha b hb => ?_, fun a ha b hb => ?_, fun b hb k x hp hk => ?_⟩
 ·have h1 : (done ++ v :: q).Nodup := h.nd
  have e : done ++ [v] ++ (q ++ news) = (done ++ v :: q) ++ news := by simp
  rw [e, List.nodup_append]
  refine ⟨h1, ?_, fun a ha b hb e => hnn b hb (by rw [← e]; exact ha)⟩
  rw [hnews]; exact List.Pairwise.filter _ (hT.nd v)
 ·rcases (hmem y).1 hy with hy | hy
  ·exact h.rng y hy
  ·exact hnr y hy
 ·rw [hmem, hfar y y0]
  by_cases hy : y ∈ news
  ·rw [if_pos hy]; exact ⟨fun _ => .inr hy, fun _ => by omega⟩
  ·rw [if_neg hy, h.seen y y0 y1]; exact ⟨fun hh => .inl hh, fun hh => hh.resolve_right hy⟩
 ·have hlen : (done ++ [v] ++ (q ++ news)).length = (done ++ v :: q).length + news.length := by simp only [List.length_append, List.length_cons, List.length_nil]; omega
  rcases (hmem y).1 hy with hy | hy
  ·rw [hold y hy, hlen]
   obtain ⟨dy, e1, e2, e3⟩ := h.dist y hy
   exact ⟨dy, e1, e2, by omega⟩
  ·refine ⟨d + 1, by rw [hnew y hy, hd]; omega, ⟨⟨v, hdist.1, ((hnm y).1 hy).1⟩, fun k hk hp => hnn y hy (hall k y hp (by omega))⟩, ?_⟩
   have : 0 < news.length := List.length_pos_of_mem hy
   rw [hlen]; omega
 ·rw [List.pairwise_append]
  refine ⟨hq.2.imp_of_mem (fun {a b} ha hb hab => by rw [hold a (by simp [ha]), hold b (by simp [hb])]; exact hab), ?_, fun a ha b hb => ?_⟩
  ·exact List.Pairwise.imp_of_mem (fun {a b} ha hb _ => by rw [hnew a ha, hnew b hb]; exact Int.le_refl _) (show news.Pairwise (· ≠ ·) by rw [hnews]; exact List.Pairwise.filter _ (hT.nd v))
  ·rw [hold a (by simp [ha]), hnew b hb]; exact hnear a ha
 ·have := hdeep a ha
  have := hdeep b (hheadm b hb)
  omega
 ·have hb2 := (hdeep b (hheadm b hb)).1
  rcases List.mem_append.1 ha with ha | ha
  ·rw [hold a (by simp [ha])]
   have := h.old a ha v (by simp)
   omega
  ·rw [List.mem_singleton] at ha; subst ha
   rw [hold a (by simp)]; exact hb2
 ·
  rw [hmem]
  have hb2 := hdeep b (hheadm b hb)
  by_cases hkd : (k : Int) + 1 ≤ rd far v
  ·exact .inl (hall k x hp hkd)
  ·obtain ⟨k', rfl⟩ : ∃ k', k = k' + 1 := ⟨k - 1, by omega⟩
   obtain ⟨m, hm, hr⟩ := hp
   have hmm := hall k' m hm (by omega)
   have hmd : m ∈ done ++ [v] := by
    rcases List.mem_append.1 hmm with hh | hh
    ·simp [hh]
    ·rcases List.mem_cons.1 hh with hh | hh
     ·simp [hh]
     ·obtain ⟨dm, e1, e2, e2'⟩ := h.dist m hmm
      have h1 := e2.le hm
      have hge : rd (relax v (row rows v) far q).1 b ≤ rd (relax v (row rows v) far q).1 m := by
       cases q with
       | nil => simp at hh
       | cons z zs =>
        have hbz : b = z := by simpa using hb.symm
        subst hbz
        rw [hold b (by simp), hold m (by simp [hh])]
        rcases List.mem_cons.1 hh with hh | hh
        ·subst hh; exact Int.le_refl _
        ·exact (List.pairwise_cons.1 hq.2).1 m hh
      rw [hold m hmm] at hge
      omega
   exact hcl m hmd x hr
end Go.Proofs.Ytlldjinejckbaaa.Pb

end
section
namespace Go.Proofs.Ytlldjinejckbaaa.Pf
open Go Go.RowKit Go.Proofs.YtlldjinejckbaaaW.PrintWords Go.Proofs.Ytlldjinejckbaaa.Mod Go.Proofs.Ytlldjinejckbaaa.Pg Go.Proofs.Ytlldjinejckbaaa.Pb Go.Proofs.Ytlldjinejckbaaa.Gi Go.Proofs.Ytlldjinejckbaaa.Cl Go.Proofs.Ytlldjinejckbaaa.Cy Go.Proofs.Ytlldjinejckbaaa.PD Go.Proofs.Ytlldjinejckbaaa.Ng Go.Proofs.Ytlldjinejckbaaa.Lb
set_option linter.unusedVariables false
theorem bfs_spec {n : Nat} (hn : n ≤ 1000) {rows : List (List Int)} {R : Int → Int → Prop} (hT : Tells n rows R) {s : Int} : ∀ (k : Nat) (done far q : List Int), BI n R s done far q → n < k + done.length →
  (done ++ (bfs rows k far q).map (·.1)).Nodup ∧ (∀ x ∈ bfs rows k far q, ∃ d : Nat, x.2 = (d : Int) ∧ Dist R s x.1 d ∧ d < n ∧ 0 ≤ x.1 ∧ x.1 < n) ∧ (∀ (j : Nat) (v : Int), Pa R j s v → v ∈ done ++ (bfs rows k far q).map (·.1)) ∧
  (bfs rows k far q).Pairwise (fun a b => a.2 ≤ b.2) ∧ (∀ x ∈ bfs rows k far q, ∀ b ∈ q.head?, rd far b ≤ x.2 + 1)
 | 0, done, far, q, h, hk => by
  have h1 := nodup_len h.nd h.rng
  rw [List.length_append] at h1
  omega
 | k + 1, done, far, [], h, hk => by
  have e : bfs rows (k + 1) far [] = [] := rfl
  rw [e]
  have hst := h.st
  have hcl := h.cl
  have hnd := h.nd
  rw [List.append_nil] at hst hnd
  refine ⟨by simpa using hnd, fun x hx => by simp at hx, ?_, List.Pairwise.nil, fun x hx => by simp at hx⟩
  intro j
  rw [List.map_nil, List.append_nil]
  induction j with
  | zero => intro v hv; cases hv; exact hst
  | succ j ih => rintro v ⟨m, hm, hr⟩; simpa using hcl m (ih m hm) v hr
 | k + 1, done, far, v :: q, h, hk => by
  have hs := h.step hn hT
  obtain ⟨a, b, c, d, e⟩ := bfs_spec hn hT k _ _ _ hs (by rw [List.length_append]; simp only [List.length_cons, List.length_nil]; omega)
  have hvm : v ∈ done ++ v :: q := by simp
  obtain ⟨dv, e1, e2, e3⟩ := h.dist v hvm
  have hlen := nodup_len h.nd h.rng
  have hw : wrap64 (rd far v - 1) = (dv : Int) := by rw [Po.wrap_small (by omega) (by omega)]; omega
  show (done ++ (((v, wrap64 (rd far v - 1)) :: bfs rows k (relax v (row rows v) far q).1 (relax v (row rows v) far q).2) : List (Int × Int)).map (·.1)).Nodup ∧ (∀ x ∈ (((v, wrap64 (rd far v - 1)) :: bfs rows k (relax v (row rows v) far q).1 (relax v (row rows v) far q).2) : List (Int × Int)), _) ∧ (∀ (j : Nat) (w : Int), Pa R j s w → w ∈ done ++ (((v, wrap64 (rd far v - 1)) :: bfs rows k (relax v (row rows v) far q).1 (relax v (row rows v) far q).2) : List (Int × Int)).map (·.1)) ∧
   (((v, wrap64 (rd far v - 1)) :: bfs rows k (relax v (row rows v) far q).1 (relax v (row rows v) far q).2) : List (Int × Int)).Pairwise (fun a b => a.2 ≤ b.2) ∧ (∀ x ∈ (((v, wrap64 (rd far v - 1)) :: bfs rows k (relax v (row rows v) far q).1 (relax v (row rows v) far q).2) : List (Int × Int)), _)
  rw [hw]
  generalize hB : bfs rows k (relax v (row rows v) far q).1 (relax v (row rows v) far q).2 = B at a b c d e
  have e4 : done ++ List.map (·.1) ((v, (dv : Int)) :: B) = done ++ [v] ++ B.map (·.1) := by simp
  rw [e4]
  have hall : ∀ x ∈ B, rd far v ≤ x.2 + 1 := by
   intro x hx
   have hvd : v ∈ done ++ [v] := by simp
   have hv2 := hs.dist v (List.mem_append_left _ hvd)
   obtain ⟨d2, f1, f2, _⟩ := hv2
   have := f2.eq e2
   cases hq : (relax v (row rows v) far q).2 with
   | nil => rw [hq] at hB; cases k <;> (rw [← hB] at hx; simp [bfs] at hx)
   | cons z zs =>
    have h1 := e x hx z (by rw [hq]; simp)
    have h2 := hs.old v hvd z (by rw [hq]; simp)
    omega
  refine ⟨a, fun x hx => ?_, c, List.pairwise_cons.2 ⟨fun x hx => ?_, d⟩, fun x hx b hb => ?_⟩
  ·rcases List.mem_cons.1 hx with hx | hx
   ·subst hx; exact ⟨dv, rfl, e2, by omega, (h.rng v hvm).1, (h.rng v hvm).2⟩
   ·exact b x hx
  ·have := hall x hx
   show (dv : Int) ≤ x.2
   omega
  ·have hbv : b = v := by simpa using hb.symm
   subst hbv
   rcases List.mem_cons.1 hx with hx | hx
   ·subst hx; show _ ≤ (dv : Int) + 1; omega
   ·exact hall x hx
theorem BI.start {n : Nat} {R : Int → Int → Prop} {s : Int} (h0 : 0 ≤ s) (h1 : s < n) : BI n R s [] ((List.replicate n 0).set s.toNat 1) [s] := by
 have hr : ∀ x : Int, rd (List.replicate n 0) x = 0 := fun x => by unfold rd; rw [List.getD_eq_getElem?_getD]; cases h : (List.replicate n (0 : Int))[x.toNat]? with
  | none => rfl
  | some v => have := List.mem_of_getElem? h; simp at this; simp [this]
 have hs : rd ((List.replicate n 0).set s.toNat 1) s = 1 := rd_set_same _ _ _ h0 (by simpa using h1)
 have hD : Dist R s s 0 := ⟨rfl, fun k hk => by omega⟩
 refine ⟨by simp, by simp, fun v hv => by simp at hv; subst hv; exact ⟨h0, h1⟩, fun v v0 v1 => ?_, fun v hv => ?_, fun v hv => by simp at hv, by simp, by simp, fun a ha b hb => ?_, fun a ha => by simp at ha, fun b hb k x hp hk => ?_⟩
 ·by_cases e : v = s
  ·subst e; rw [hs]; simp
  ·rw [rd_set_other _ _ _ _ v0 h0 e, hr]; simp [e]
 ·have : v = s := by simpa using hv
  subst this
  exact ⟨0, by rw [hs]; rfl, hD, by simp⟩
 ·have : a = s := by simpa using ha
  subst this
  have : b = a := by simpa using hb.symm
  subst this
  omega
 ·have : b = s := by simpa using hb.symm
  subst this
  rw [hs] at hk
  have : k = 0 := by omega
  subst this
  cases hp
  simp
structure FromS (n : Nat) (R : Int → Int → Prop) (s : Int) (P : List (Int × Int)) : Prop where
 nd : (P.map (·.1)).Nodup
 dist : ∀ x ∈ P, ∃ d : Nat, x.2 = (d : Int) ∧ Dist R s x.1 d ∧ d < n ∧ 0 ≤ x.1 ∧ x.1 < n
 all : ∀ (j : Nat) (v : Int), Pa R j s v → v ∈ P.map (·.1)
 mono : P.Pairwise (fun a b => a.2 ≤ b.2)
theorem from_spec {n : Nat} (hn : n ≤ 1000) {rows : List (List Int)} {R : Int → Int → Prop} (hT : Tells n rows R) {s : Int} (h0 : 0 ≤ s) (h1 : s < n) : FromS n R s (fromOf rows s) := by
 unfold fromOf
 rw [hT.len]
 obtain ⟨a, b, c, d, e⟩ := bfs_spec hn hT (n + 1) [] _ _ (BI.start h0 h1) (by simp)
 exact ⟨by simpa using a, b, fun j v hp => by simpa using c j v hp, d⟩
theorem FromS.get {n : Nat} {R : Int → Int → Prop} {s : Int} {P : List (Int × Int)} (h : FromS n R s P) {v : Int} {d : Nat} (hd : Dist R s v d) : (v, (d : Int)) ∈ P := by
 obtain ⟨x, hx, e⟩ := List.mem_map.1 (h.all d v hd.1)
 obtain ⟨d', e1, e2, _⟩ := h.dist x hx
 rw [e] at e2
 have := e2.eq hd
 subst this
 rw [← e1, ← e]; exact hx
def Loop (R : Int → Int → Prop) (v : Int) (g : Nat) : Prop := 1 ≤ g ∧ Pa R g v v ∧ ∀ k, 1 ≤ k → k < g → ¬ Pa R k v v
theorem girth_spec {n : Nat} (hn : n ≤ 1000) {rows : List (List Int)} {R : Int → Int → Prop} (hT : Tells n rows R) {v : Int} (h0 : 0 ≤ v) (h1 : v < n) :
  (girthOf rows v = 0 ∧ ∀ k, 1 ≤ k → ¬ Pa R k v v) ∨ ∃ g : Nat, girthOf rows v = (g : Int) ∧ g ≤ n ∧ Loop R v g := by
 have hF := from_spec hn hT h0 h1
 unfold girthOf
 cases hf : (fromOf rows v).find? (fun x => (row rows x.1).contains v) with
 | none =>
  refine .inl ⟨rfl, fun k hk hp => ?_⟩
  obtain ⟨k', rfl⟩ : ∃ k', k = k' + 1 := ⟨k - 1, by omega⟩
  obtain ⟨m, hm, hr⟩ := hp
  obtain ⟨x, hx, e⟩ := List.mem_map.1 (hF.all k' m hm)
  have := List.find?_eq_none.1 hf x hx
  obtain ⟨d, e1, e2, e3, e4, e5⟩ := hF.dist x hx
  rw [e] at this
  exact this (by simpa using (hT.row m v (e ▸ e4) (e ▸ e5)).2 hr)
 | some x =>
  obtain ⟨hpx, as9, bs9, hs, hno⟩ := List.find?_eq_some_iff_append.1 hf
  obtain ⟨d, e1, e2, e3, e4, e5⟩ := hF.dist x (by rw [hs]; simp)
  have hx1 : R x.1 v := (hT.row x.1 v e4 e5).1 (by simpa using hpx)
  refine .inr ⟨d + 1, ?_, by omega, by omega, ⟨x.1, e2.1, hx1⟩, fun k hk hkd hp => ?_⟩
  ·show wrap64 (x.2 + 1) = _
   rw [Po.wrap_small (by omega) (by omega)]; omega
  ·obtain ⟨k', rfl⟩ : ∃ k', k = k' + 1 := ⟨k - 1, by omega⟩
   obtain ⟨m, hm, hr⟩ := hp
   obtain ⟨y, hy, e⟩ := List.mem_map.1 (hF.all k' m hm)
   obtain ⟨dy, f1, f2, f3, f4, f5⟩ := hF.dist y hy
   have hle := f2.le (e.symm ▸ hm)
   have hm2 := hF.mono
   rw [hs, List.pairwise_append] at hm2
   rw [hs] at hy
   rcases List.mem_append.1 hy with hy | hy
   ·have := hno y hy
    have h3 : v ∈ row rows y.1 := (hT.row y.1 v f4 f5).2 (e ▸ hr)
    simp [h3] at this
   ·rcases List.mem_cons.1 hy with hy | hy
    ·subst hy; omega
    ·have := (List.pairwise_cons.1 hm2.2.1).1 y hy
     omega
structure Least (n : Nat) (R : Int → Int → Prop) (best first : Int) (k : Nat) : Prop where
 none_ : best = 0 → ∀ v : Int, 0 ≤ v → v < k → ∀ j, 1 ≤ j → ¬ Pa R j v v
 some_ : best ≠ 0 → ∃ g : Nat, best = (g : Int) ∧ g ≤ n ∧ 0 ≤ first ∧ first < k ∧ Loop R first g ∧ (∀ v : Int, 0 ≤ v → v < k → ∀ j, 1 ≤ j → j < g → ¬ Pa R j v v) ∧ ∀ v : Int, 0 ≤ v → v < first → ¬ Pa R g v v
theorem least1_spec {n : Nat} (hn : n ≤ 1000) {rows : List (List Int)} {R : Int → Int → Prop} (hT : Tells n rows R) : ∀ k, k ≤ n → Least n R (least1 rows k).1 (least1 rows k).2 k
 | 0, _ => ⟨fun _ v h0 h1 => by omega, fun h => absurd rfl h⟩
 | k + 1, hk => by
  have ih := least1_spec hn hT k (by omega)
  rw [least1_succ]
  generalize least1 rows k = s at ih
  obtain ⟨best, first⟩ := s
  have hg := girth_spec hn hT (v := (k : Int)) (by omega) (by omega)
  unfold pick1
  have hcase : ∀ v : Int, v < (k + 1 : Nat) → v < k ∨ v = k := fun v hv => by omega
  rcases hg with ⟨hg, hno⟩ | ⟨g, hg, hgn, hL⟩
  ·rw [hg, if_neg (by omega)]
   refine ⟨fun hb v h0 h1 j hj => ?_, fun hb => ?_⟩
   ·rcases hcase v h1 with h | h
    ·exact ih.none_ hb v h0 h j hj
    ·subst h; exact hno j hj
   ·obtain ⟨g, a, b, c, d, e, f, i⟩ := ih.some_ hb
    refine ⟨g, a, b, c, by omega, e, fun v h0 h1 j hj hjg => ?_, i⟩
    rcases hcase v h1 with h | h
    ·exact f v h0 h j hj hjg
    ·subst h; exact hno j hj
  ·have hg0 : 0 < (g : Int) := by have := hL.1; omega
   rw [hg]
   by_cases hc : 0 < (g : Int) ∧ (best = 0 ∨ (g : Int) < best)
   ·rw [if_pos hc]
    refine ⟨fun hb => by have : (g : Int) = 0 := hb; omega, fun _ => ⟨g, rfl, hgn, by show (0 : Int) ≤ (k : Int); omega, by show (k : Int) < _; omega, hL, fun v h0 h1 j hj hjg => ?_, fun v h0 h1 => ?_⟩⟩
    ·rcases hcase v h1 with h | h
     ·rcases hc.2 with hb | hb
      ·exact ih.none_ hb v h0 h j hj
      ·obtain ⟨g', a, b, c, d, e, f, i⟩ := ih.some_ (show best ≠ 0 by omega)
       have a' : best = (g' : Int) := a
       exact f v h0 h j hj (by omega)
     ·subst h; exact hL.2.2 j hj hjg
    ·rcases hc.2 with hb | hb
     ·exact ih.none_ hb v h0 h1 g hL.1
     ·obtain ⟨g', a, b, c, d, e, f, i⟩ := ih.some_ (show best ≠ 0 by omega)
      have a' : best = (g' : Int) := a
      exact f v h0 h1 g hL.1 (by omega)
   ·rw [if_neg hc]
    have hb0 : best ≠ 0 := fun hb => hc ⟨hg0, .inl hb⟩
    refine ⟨fun hb => absurd hb hb0, fun _ => ?_⟩
    obtain ⟨g', a, b, c, d, e, f, i⟩ := ih.some_ hb0
    have a' : best = (g' : Int) := a
    refine ⟨g', a, b, c, by omega, e, fun v h0 h1 j hj hjg => ?_, i⟩
    rcases hcase v h1 with h | h
    ·exact f v h0 h j hj hjg
    ·subst h; exact hL.2.2 j hj (by have : ¬ ((g : Int) < best) := fun hh => hc ⟨hg0, .inr hh⟩; omega)
theorem leftOf_spec {n : Nat} {R : Int → Int → Prop} {s : Int} : ∀ (P : List (Int × Int)) (l0 : List Int), l0.length = n → (P.map (·.1)).Nodup → (∀ x ∈ P, 0 ≤ x.1 ∧ x.1 < n) → ∀ v : Int, 0 ≤ v → v < n →
  (∀ d, (v, d) ∈ P → rd (P.foldl (fun l x => l.set x.1.toNat x.2) l0) v = d) ∧ (v ∉ P.map (·.1) → rd (P.foldl (fun l x => l.set x.1.toNat x.2) l0) v = rd l0 v)
 | [], l0, _, _, _, v, _, _ => ⟨fun d h => by simp at h, fun _ => rfl⟩
 | x :: P, l0, hl, hn, hr, v, h0, h1 => by
  rw [List.map_cons, List.nodup_cons] at hn
  obtain ⟨a, b⟩ := leftOf_spec (R := R) (s := s) P (l0.set x.1.toNat x.2) (by simpa using hl) hn.2 (fun y hy => hr y (by simp [hy])) v h0 h1
  obtain ⟨x0, x1⟩ := hr x (by simp)
  rw [List.foldl_cons]
  refine ⟨fun d hd => ?_, fun hv => ?_⟩
  ·rcases List.mem_cons.1 hd with hd | hd
   ·subst hd
    rw [b hn.1, rd_set_same _ _ _ h0 (by omega)]
   ·exact a d hd
  ·have hv' : v ≠ x.1 ∧ v ∉ P.map (·.1) := by simpa using hv
   rw [b hv'.2, rd_set_other _ _ _ _ h0 x0 hv'.1]
structure CycS (n : Nat) (R : Int → Int → Prop) (out : List Int) : Prop where
 pos : 1 ≤ out.length
 le : out.length ≤ n
 rng : ∀ v ∈ out, 0 ≤ v ∧ v < n
 nd : out.Nodup
 least : ∀ v ∈ out, rd out 0 ≤ v
 next : ∀ i : Nat, i + 1 < out.length → R (rd out i) (rd out (i + 1 : Nat))
 close : R (rd out (out.length - 1 : Nat)) (rd out 0)
 short : ∀ v : Int, 0 ≤ v → v < n → ∀ j, 1 ≤ j → j < out.length → ¬ Pa R j v v
structure Part (R : Int → Int → Prop) (first : Int) (best : Nat) (out : List Int) : Prop where
 pos : 1 ≤ out.length
 le : out.length ≤ best
 head : rd out 0 = first
 dist : ∀ i : Nat, 1 ≤ i → i < out.length → Dist R (rd out i) first (best - i)
 next : ∀ i : Nat, i + 1 < out.length → R (rd out i) (rd out (i + 1 : Nat))
theorem rd_append_left {l m : List Int} {i : Nat} (h : i < l.length) : rd (l ++ m) i = rd l i := by
 unfold rd
 rw [List.getD_eq_getElem?_getD, List.getD_eq_getElem?_getD, List.getElem?_append_left (by simpa using h)]
theorem rd_append_len {l : List Int} {x : Int} : rd (l ++ [x]) (l.length : Nat) = x := by
 unfold rd
 rw [List.getD_eq_getElem?_getD, List.getElem?_append_right (by simp)]
 simp
theorem cycGo_spec {n : Nat} {rows : List (List Int)} {R : Int → Int → Prop} (hT : Tells n rows R) {first : Int} {best : Nat} (hbn : best ≤ 1000) (hL : Loop R first best) (f0 : 0 ≤ first) (f1 : first < n) {left : List Int}
  (hleft : ∀ y : Int, 0 ≤ y → y < n → ∀ d : Nat, Dist R y first d → rd left y = (d : Int)) (hleft0 : ∀ y : Int, 0 ≤ y → y < n → rd left y ≠ 0 → ∃ d : Nat, rd left y = (d : Int) ∧ Dist R y first d) :
  ∀ (k : Nat) (out : List Int), Part R first best out → best ≤ k + out.length → (∀ v ∈ out, 0 ≤ v ∧ v < (n : Int)) → ∃ r, cycGo rows left first best k out = some r ∧ Part R first best r ∧ r.length = best ∧ ∀ v ∈ r, 0 ≤ v ∧ v < (n : Int)
 | 0, out, hp, hk, hrng => by
  have h1 := hp.le
  refine ⟨out, ?_, hp, by omega, hrng⟩
  unfold cycGo
  rw [if_neg (by omega)]
 | k + 1, out, hp, hk, hrng => by
  have h1 := hp.le
  unfold cycGo
  by_cases hc : (out.length : Int) < (best : Int)
  ·rw [if_pos hc]
   have hpos := hp.pos
   have hlast : ∃ m, R (lastOf out) m ∧ Dist R m first (best - out.length) := by
    by_cases h2 : out.length = 1
    ·have e : lastOf out = first := by unfold lastOf; rw [h2]; exact hp.head
     obtain ⟨l0, l1, l2⟩ := hL
     obtain ⟨b, rfl⟩ : ∃ b, best = 1 + b := ⟨best - 1, by omega⟩
     obtain ⟨m, ⟨a, ha, hr⟩, hm2⟩ := Pa.split l1
     cases ha
     rw [e, h2]
     refine ⟨m, hr, ⟨by rw [Nat.add_sub_cancel_left]; exact hm2, fun j hj hpj => ?_⟩⟩
     exact l2 (1 + j) (by omega) (by omega) ((Pa.one hr).add hpj)
    ·have h3 := hp.dist (out.length - 1) (by omega) (by omega)
     have e : best - (out.length - 1) = best - out.length + 1 := by omega
     rw [e] at h3
     obtain ⟨m, hr, hm⟩ := h3.next
     refine ⟨m, ?_, hm⟩
     have e2 : lastOf out = rd out ((out.length - 1 : Nat) : Int) := by
      unfold lastOf
      congr 1
      omega
     rw [e2]; exact hr
   obtain ⟨m, hr, hm⟩ := hlast
   have hlm : lastOf out ∈ out := by
    unfold lastOf rd
    rw [List.getD_eq_getElem?_getD, List.getElem?_eq_getElem (by omega)]
    exact List.getElem_mem _
   obtain ⟨q0, q1⟩ := hrng _ hlm
   have hw : wrap64 ((best : Int) - (out.length : Int)) = ((best - out.length : Nat) : Int) := by rw [Po.wrap_small (by omega) (by omega)]; omega
   cases hf : (row rows (lastOf out)).find? (hits left first best out.length) with
   | none =>
    have h5 := List.find?_eq_none.1 hf m ((hT.row _ m q0 q1).2 hr)
    obtain ⟨_, _, m0, m1⟩ := hT.ok _ _ hr
    exfalso
    apply h5
    unfold hits
    have hne : m ≠ first := fun e => by subst e; exact hm.2 0 (by omega) rfl
    rw [hleft m m0 m1 _ hm, hw]
    simp [hne]
   | some y =>
    have hy := List.mem_of_find?_eq_some hf
    have hyp := List.find?_some hf
    have hRy := (hT.row _ y q0 q1).1 hy
    obtain ⟨_, _, y0, y1⟩ := hT.ok _ _ hRy
    unfold hits at hyp
    rw [hw] at hyp
    have hyp' : y ≠ first ∧ rd left y = ((best - out.length : Nat) : Int) := by simpa using hyp
    obtain ⟨d, e1, e2⟩ := hleft0 y y0 y1 (by rw [hyp'.2]; omega)
    have hd : d = best - out.length := by have := hyp'.2; omega
    subst hd
    refine cycGo_spec hT hbn hL f0 f1 hleft hleft0 k (out ++ [y]) ⟨by simp, by simp; omega, ?_, fun i hi hil => ?_, fun i hi => ?_⟩ (by simp; omega) (fun v hv => ?_)
    ·have := rd_append_left (l := out) (m := [y]) (i := 0) (by omega)
     exact this.trans hp.head
    ·rw [List.length_append] at hil
     simp only [List.length_cons, List.length_nil] at hil
     by_cases h6 : i < out.length
     ·rw [rd_append_left h6]; exact hp.dist i hi h6
     ·have : i = out.length := by omega
      subst this
      rw [rd_append_len]; exact e2
    ·rw [List.length_append] at hi
     simp only [List.length_cons, List.length_nil] at hi
     by_cases h6 : i + 1 < out.length
     ·rw [rd_append_left h6, rd_append_left (by omega)]; exact hp.next i h6
     ·have e3 : i + 1 = out.length := by omega
      have e4 : lastOf out = rd out (i : Int) := by unfold lastOf; congr 1; omega
      rw [rd_append_left (by omega), e3, rd_append_len, ← e4]
      exact hRy
    ·rcases List.mem_append.1 hv with hv | hv
     ·exact hrng v hv
     ·rw [List.mem_singleton] at hv; subst hv; exact ⟨y0, y1⟩
  ·rw [if_neg hc]
   exact ⟨out, rfl, hp, by omega, hrng⟩
theorem mem_rd {l : List Int} {v : Int} (h : v ∈ l) : ∃ i : Nat, i < l.length ∧ rd l i = v := by
 obtain ⟨i, hi, e⟩ := List.getElem_of_mem h
 refine ⟨i, hi, ?_⟩
 unfold rd
 rw [List.getD_eq_getElem?_getD, Int.toNat_natCast, List.getElem?_eq_getElem hi]
 exact e
theorem Part.path {R : Int → Int → Prop} {first : Int} {best : Nat} {out : List Int} (h : Part R first best out) : ∀ i : Nat, i < out.length → Pa R i first (rd out i)
 | 0, _ => h.head.symm
 | i + 1, hi => ⟨_, h.path i (by omega), h.next i hi⟩
theorem Part.done {n : Nat} {R : Int → Int → Prop} {first : Int} {best : Nat} {out : List Int} (h : Part R first best out) (hb : out.length = best) (hbn : best ≤ n) (hL : Loop R first best) (hr : ∀ v ∈ out, 0 ≤ v ∧ v < (n : Int))
  (hs : ∀ v : Int, 0 ≤ v → v < n → ∀ j, 1 ≤ j → j < best → ¬ Pa R j v v) (hf : ∀ v : Int, 0 ≤ v → v < first → ¬ Pa R best v v) : CycS n R out := by
 have hd : ∀ i : Nat, i < out.length → ∃ k : Nat, Dist R (rd out i) first k ∧ k = (if i = 0 then 0 else best - i) := fun i hi => by
  by_cases e : i = 0
  ·subst e
   refine ⟨0, ⟨h.head, fun k hk => by omega⟩, by simp⟩
  ·exact ⟨best - i, h.dist i (by omega) hi, by rw [if_neg e]⟩
 refine ⟨h.pos, by omega, hr, ?_, fun v hv => ?_, h.next, ?_, fun v h0 h1 j hj hjb => hs v h0 h1 j hj (by omega)⟩
 ·rw [List.nodup_iff_pairwise_ne, List.pairwise_iff_getElem]
  intro i j hi hj hij e
  have ei : rd out i = out[i] := by unfold rd; rw [List.getD_eq_getElem?_getD, Int.toNat_natCast, List.getElem?_eq_getElem hi]; rfl
  have ej : rd out j = out[j] := by unfold rd; rw [List.getD_eq_getElem?_getD, Int.toNat_natCast, List.getElem?_eq_getElem hj]; rfl
  obtain ⟨a, ha, ka⟩ := hd i hi
  obtain ⟨b, hb2, kb⟩ := hd j hj
  rw [ei] at ha
  rw [ej, ← e] at hb2
  have := ha.eq hb2
  rw [if_neg (by omega)] at kb
  split at ka <;> omega
 ·obtain ⟨i, hi, e⟩ := mem_rd hv
  rw [h.head]
  refine Classical.byContradiction fun hlt => ?_
  have hi0 : i ≠ 0 := fun e0 => by subst e0; have := h.head; rw [← e] at hlt; simp [this] at hlt
  have h1 := h.dist i (by omega) hi
  rw [e] at h1
  have h2 := h.path i hi
  rw [e] at h2
  have h3 := h1.1.add h2
  rw [show best - i + i = best by omega] at h3
  exact hf v (hr v hv).1 (by omega) h3
 ·have hz : ((0 : Nat) : Int) = 0 := rfl
  by_cases e : out.length = 1
  ·rw [e]
   show R (rd out 0) (rd out 0)
   rw [h.head]
   have h2 := hL.2.1
   rw [← hb, e] at h2
   obtain ⟨m, hm, hr⟩ := h2
   cases hm; exact hr
  ·have hp := h.pos
   have h1 := h.dist (out.length - 1) (by omega) (by omega)
   rw [show best - (out.length - 1) = 1 by omega] at h1
   obtain ⟨m, hm, hr⟩ := h1.1
   cases hm
   rw [h.head]; exact hr
theorem cycle_spec {n : Nat} (hn : n ≤ 1000) {l : List S55} (hl : Ok n l) :
  (cycleOf n l = some ([], 4) ∧ ∀ v : Int, 0 ≤ v → v < n → ∀ j, 1 ≤ j → ¬ Pa (E l) j v v) ∨ ∃ out, cycleOf n l = some (out, 0) ∧ CycS n (E l) out := by
 have hT := tells_nx hl
 have hB := tells_pv hl
 have hLe := least1_spec hn hT n (Nat.le_refl _)
 unfold cycleOf
 show ((if (least1 (nx n l) n).1 = 0 then some ([], 4) else if 1000000 < (least1 (nx n l) n).1 then none else
  (cycGo (nx n l) (Cy.leftOf n (fromOf (pv n l) (least1 (nx n l) n).2)) (least1 (nx n l) n).2 (least1 (nx n l) n).1 (least1 (nx n l) n).1.toNat [(least1 (nx n l) n).2]).map fun r => (r, 0)) = some ([], 4) ∧ _) ∨ _
 generalize hs : least1 (nx n l) n = s at hLe
 obtain ⟨best, first⟩ := s
 by_cases hb : best = 0
 ·subst hb
  exact .inl ⟨by rw [if_pos rfl], hLe.none_ rfl⟩
 ·obtain ⟨g, rfl, hgn, f0, f1, hL, hsh, hfi⟩ := hLe.some_ hb
  right
  have hF := from_spec hn hB f0 f1
  have hleft : ∀ y : Int, 0 ≤ y → y < n → ∀ d : Nat, Dist (E l) y first d → rd (Cy.leftOf n (fromOf (pv n l) first)) y = (d : Int) := fun y y0 y1 d hd =>
   (leftOf_spec (n := n) (R := E l) (s := first) (fromOf (pv n l) first) _ (by simp) hF.nd (fun x hx => by obtain ⟨_, _, _, _, a, b⟩ := hF.dist x hx; exact ⟨a, b⟩) y y0 y1).1 d (hF.get hd.flip)
  have hleft0 : ∀ y : Int, 0 ≤ y → y < n → rd (Cy.leftOf n (fromOf (pv n l) first)) y ≠ 0 → ∃ d : Nat, rd (Cy.leftOf n (fromOf (pv n l) first)) y = (d : Int) ∧ Dist (E l) y first d := fun y y0 y1 hne => by
   by_cases hm : y ∈ (fromOf (pv n l) first).map (·.1)
   ·obtain ⟨x, hx, e⟩ := List.mem_map.1 hm
    obtain ⟨d, e1, e2, _⟩ := hF.dist x hx
    rw [e] at e2
    have e3 : Dist (E l) y first d := e2.flip
    exact ⟨d, hleft y y0 y1 d e3, e3⟩
   ·have := (leftOf_spec (n := n) (R := E l) (s := first) (fromOf (pv n l) first) (List.replicate n 0) (by simp) hF.nd (fun x hx => by obtain ⟨_, _, _, _, a, b⟩ := hF.dist x hx; exact ⟨a, b⟩) y y0 y1).2 hm
    exfalso
    apply hne
    refine this.trans ?_
    unfold rd; rw [List.getD_eq_getElem?_getD]
    cases h : (List.replicate n (0 : Int))[y.toNat]? with
    | none => rfl
    | some v => have := List.mem_of_getElem? h; simp at this; simp [this]
  obtain ⟨r, hr, hp, hrl, hrr⟩ := cycGo_spec hT (by omega) hL f0 f1 hleft hleft0 g [first] ⟨by simp, by simpa using hL.1, rfl, fun i hi hil => by simp at hil; omega, fun i hi => by simp at hi⟩ (by simp) (fun v hv => by simp at hv; subst hv; exact ⟨f0, f1⟩)
  refine ⟨r, ?_, hp.done hrl hgn hL hrr hsh hfi⟩
  show (if (g : Int) = 0 then _ else if 1000000 < (g : Int) then none else (cycGo (nx n l) (Cy.leftOf n (fromOf (pv n l) first)) first (g : Int) (g : Int).toNat [first]).map fun r => (r, 0)) = _
  rw [if_neg hb, if_neg (by omega), Int.toNat_natCast, hr]
  rfl
end Go.Proofs.Ytlldjinejckbaaa.Pf

end
section
namespace Go.Proofs.Ytlldjinejckbaaa.PD
open Go.RowKit Go.Proofs.YtlldjinejckbaaaW.PrintWords Go.Proofs.YtlldjinejckbaaaW.PrintLast Go.Proofs.YtlldjinejckbaaaW.PrintMore
attribute [local go_sem] max2_int min2_int max_two min_two max_three min_three max_four min_four
set_option linter.unusedVariables false
set_option linter.unusedSimpArgs false
end Go.Proofs.Ytlldjinejckbaaa.PD

end
section
namespace Go.Proofs.Ytlldjinejckbaaa.PD
open Go.RowKit Go.Proofs.YtlldjinejckbaaaW.PrintWords Go.Proofs.YtlldjinejckbaaaW.PrintLast Go.Proofs.YtlldjinejckbaaaW.PrintMore
attribute [local go_sem] max2_int min2_int max_two min_two max_three min_three max_four min_four
set_option linter.unusedVariables false
set_option linter.unusedSimpArgs false
end Go.Proofs.Ytlldjinejckbaaa.PD

end
section
namespace Go.Proofs.Ytlldjinejckbaaa.PD
open Go Go.RowKit Go.Proofs.YtlldjinejckbaaaW.PrintWords Go.Proofs.YtlldjinejckbaaaW.PrintLast Go.Proofs.YtlldjinejckbaaaW.PrintMore
open Go.Proofs.Ytlldjinejckbaaa.Pg Go.Proofs.Ytlldjinejckbaaa.Pb
theorem ok_condW {n : Nat} (hn : n ≤ 12) {l : List S55} (hl : Ok n l) (hlen : l.length ≤ 1000) : 0 ≤ (n : Int) ∧ (n : Int) ≤ 1000 ∧ l.length ≤ 10000 ∧ ∀ e ∈ l, 0 ≤ e.f0 ∧ e.f0 < (n : Int) ∧ 0 ≤ e.f1 ∧ e.f1 < (n : Int) := ⟨by omega, by omega, by omega, hl⟩
theorem rdT_getW {l : List S55} {i : Nat} (h : i < l.length) : rd_T55 l (i : Int) = l[i] := by
 unfold rd_T55
 rw [Int.toNat_natCast, List.getD_eq_getElem?_getD, List.getElem?_eq_getElem h]
 rfl
theorem wrap_nextW {i : Nat} (h : i ≤ 100000) : wrap64 ((i : Int) + 1) = ((i + 1 : Nat) : Int) := by rw [wrap_ok (by omega) (by omega)]; omega
theorem cycle_atW {n : Nat} (hn : n ≤ 12) {l : List S55} (hl : Ok n l) (hlen : l.length ≤ 1000) : wireloomlaw05_cycle.f n l = Cy.cycleOf n l := by
 unfold wireloomlaw05_cycle.f digraph_Cycle.f
 rw [if_pos (ok_condW hn hl hlen), Int.toNat_natCast]
 cases Cy.cycleOf n l <;> rfl
end Go.Proofs.Ytlldjinejckbaaa.PD

end
section
namespace Go.Proofs.Ytlldjinejckbaaa.PD
open Go Go.RowKit Go.Proofs.YtlldjinejckbaaaW.PrintWords Go.Proofs.YtlldjinejckbaaaW.PrintLast Go.Proofs.YtlldjinejckbaaaW.PrintMore
open Go.Proofs.Ytlldjinejckbaaa.Pg Go.Proofs.Ytlldjinejckbaaa.Pb Go.Proofs.Ytlldjinejckbaaa.Pf
theorem rd_getL {l : List Int} {i : Nat} (h : i < l.length) : rd l (i : Int) = l[i] := by
 unfold rd
 rw [List.getD_eq_getElem?_getD, Int.toNat_natCast, List.getElem?_eq_getElem h]
 rfl
theorem in_goL {l : List Int} (hlen : l.length ≤ 1000) (x : Int) : ∀ (d i : Nat), i + d = l.length → ∀ r : Bool, (r = true ↔ x ∈ l.drop i) → Ev (fun k => wireloomref05_In.l0 k l x i) r := by
 intro d
 induction d with
 | zero =>
  intro i hi r hr
  obtain rfl : i = l.length := by omega
  rw [List.drop_length] at hr
  have : r = false := by
   cases r
   ·rfl
   ·have := hr.1 rfl; simp at this
  subst this
  refine Ev.step (f := fun _ => some false) (fun k => ?_) (Ev.now _)
  simp only [wireloomref05_In.l0]
  rw [if_neg (by omega)]
 | succ d ih =>
  intro i hi r hr
  have hil : i < l.length := by omega
  have e : l.drop i = l[i] :: l.drop (i + 1) := List.drop_eq_getElem_cons hil
  by_cases hc : l[i] = x
  ·have : r = true := hr.2 (by rw [e, hc]; exact List.mem_cons_self)
   subst this
   refine Ev.step (f := fun _ => some true) (fun k => ?_) (Ev.now _)
   simp only [wireloomref05_In.l0]
   rw [if_pos (Int.ofNat_lt.2 hil), if_pos (Int.natCast_nonneg i), rd_getL hil, if_pos hc]
  ·refine Ev.step (fun k => ?_) (ih (i + 1) (by omega) r (by
    rw [hr, e, List.mem_cons]
    exact ⟨fun h => h.resolve_left (fun h => hc h.symm), .inr⟩))
   simp only [wireloomref05_In.l0]
   rw [if_pos (Int.ofNat_lt.2 hil), if_pos (Int.natCast_nonneg i), rd_getL hil, wrap_nextW (by omega), if_neg hc]
theorem in_ev {l : List Int} (hlen : l.length ≤ 1000) (x : Int) {r : Bool} (hr : r = true ↔ x ∈ l) : Ev (fun k => wireloomref05_In.f k l x) r := in_goL hlen x l.length 0 (by omega) r (by simpa using hr)
structure ReachS (n : Nat) (l : List S55) (s : Int) (L : List Int) : Prop where
 lt : L.Pairwise (· < ·)
 mem : ∀ v, v ∈ L ↔ ∃ k, Pa (E l) k s v
 rng : ∀ v ∈ L, 0 ≤ v ∧ v < (n : Int)
 len : L.length ≤ n
theorem reach_spec {n : Nat} (hn : n ≤ 1000) {l : List S55} (hl : Ok n l) {s : Int} (h0 : 0 ≤ s) (h1 : s < n) : ReachS n l s (Rc.reachOf n l s) := by
 have hF := from_spec hn (tells_nx hl) h0 h1
 unfold Rc.reachOf
 rw [if_neg (by omega)]
 have hmem : ∀ v, v ∈ Lb.sortI ((Mod.fromOf (nx n l) s).map (·.1)) ↔ ∃ k, Pa (E l) k s v := fun v => by
  rw [Rc.mem_sortI]
  constructor
  ·intro h
   obtain ⟨x, hx, rfl⟩ := List.mem_map.1 h
   obtain ⟨d, _, hd, _⟩ := hF.dist x hx
   exact ⟨d, hd.1⟩
  ·rintro ⟨k, hk⟩; exact hF.all k v hk
 have hrng : ∀ v ∈ Lb.sortI ((Mod.fromOf (nx n l) s).map (·.1)), 0 ≤ v ∧ v < (n : Int) := fun v hv => by
  rw [Rc.mem_sortI] at hv
  obtain ⟨x, hx, rfl⟩ := List.mem_map.1 hv
  obtain ⟨d, _, _, _, a, b⟩ := hF.dist x hx
  exact ⟨a, b⟩
 have hnd : (Lb.sortI ((Mod.fromOf (nx n l) s).map (·.1))).Nodup := (List.mergeSort_perm _ _).nodup_iff.2 hF.nd
 refine ⟨?_, hmem, hrng, nodup_len hnd hrng⟩
 exact ((sortI_sorted _).and (List.nodup_iff_pairwise_ne.1 hnd)).imp (fun h => by have := h.1; have := h.2; omega)
theorem reach_atL {n : Nat} (hn : n ≤ 12) {l : List S55} (hl : Ok n l) (hlen : l.length ≤ 1000) (s : Int) : digraph_Reach.f n l s = some (Rc.reachOf n l s) := by
 unfold digraph_Reach.f
 rw [if_pos (ok_condW hn hl hlen), Int.toNat_natCast]
end Go.Proofs.Ytlldjinejckbaaa.PD

end
section
namespace Go.Proofs.Ytlldjinejckbaaa.Pc
open Go Go.RowKit Go.Proofs.YtlldjinejckbaaaW.PrintWords Go.Proofs.Ytlldjinejckbaaa.Mod Go.Proofs.Ytlldjinejckbaaa.PD Go.Proofs.Ytlldjinejckbaaa.Pg Go.Proofs.Ytlldjinejckbaaa.Po Go.Proofs.Ytlldjinejckbaaa.Ck
theorem rd_zeros (n : Nat) (x : Int) : rd (List.replicate n 0) x = 0 := by
 unfold rd
 rw [List.getD_eq_getElem?_getD, List.getElem?_replicate]
 split <;> rfl
end Go.Proofs.Ytlldjinejckbaaa.Pc

end
