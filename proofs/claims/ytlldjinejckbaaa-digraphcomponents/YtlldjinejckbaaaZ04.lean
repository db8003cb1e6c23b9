/- The law DigraphComponents of package digraph holds for every input: what it is called with is opened, the printed text of the law and its plain proof are joined. (Part 5 of 6 of its proof.) -/
import Derived.Test.YtlldjinejckbaaaZ03
set_option linter.unusedVariables false
set_option linter.unusedSimpArgs false
section
namespace Go.Proofs.Ytlldjinejckbaaa.PD
open Go.RowKit Go.Proofs.YtlldjinejckbaaaW.PrintWords Go.Proofs.YtlldjinejckbaaaW.PrintLast Go.Proofs.YtlldjinejckbaaaW.PrintMore
attribute [local go_sem] max2_int min2_int max_two min_two max_three min_three max_four min_four
set_option linter.unusedVariables false
set_option linter.unusedSimpArgs false
mutual
def wireloomlaw05_DigraphComponents.l0 : Nat → Bool → List (List Int) → List Int → Int → Int → Int → List (S55) → Option (Bool)
 | 0, _, _, _, _, _, _, _ => none
 | k + 1, x3, x5, x6, x7, x8, x618000, x618001 => if x8 < (x5.length : Int) then (wireloomlaw05_DigraphComponents.l1 k x3 x5 x6 x7 x8 0 x618000 x618001) else (if x7 = x618000 then (wireloomlaw05_DigraphComponents.l2 k x3 x5 x6 0 x618000 x618001) else (none))
def wireloomlaw05_DigraphComponents.l1 : Nat → Bool → List (List Int) → List Int → Int → Int → Int → Int → List (S55) → Option (Bool)
 | 0, _, _, _, _, _, _, _, _ => none
 | k + 1, x3, x5, x6, x7, x8, x9, x618000, x618001 => if 0 ≤ x8 then (if x8 < (x5.length : Int) then (if x9 < ((rd_L2 x5 x8).length : Int) then (if 0 ≤ x9 then (if (rd (rd_L2 x5 x8) x9) < 0 then (none) else (if (rd (rd_L2 x5 x8) x9) ≥ x618000 then (none) else (if x9 > 0 then (if 0 ≤ (wrap64 (x9 - 1)) then (if (wrap64 (x9 - 1)) < ((rd_L2 x5 x8).length : Int) then (if (rd (rd_L2 x5 x8) (wrap64 (x9 - 1))) ≥ (rd (rd_L2 x5 x8) x9) then (none) else (if 0 ≤ (rd (rd_L2 x5 x8) x9) then (if (rd (rd_L2 x5 x8) x9) < (x6.length : Int) then (if (rd x6 (rd (rd_L2 x5 x8) x9)) > 0 then (none) else (wireloomlaw05_DigraphComponents.l1 k x3 x5 (x6.set ((rd (rd_L2 x5 x8) x9) : Int).toNat (wrap64 (x8 + 1))) (wrap64 (x7 + 1)) x8 (wrap64 (x9 + 1)) x618000 x618001)) else (none)) else (none))) else (none)) else (none)) else (if 0 ≤ (rd (rd_L2 x5 x8) x9) then (if (rd (rd_L2 x5 x8) x9) < (x6.length : Int) then (if (rd x6 (rd (rd_L2 x5 x8) x9)) > 0 then (none) else (wireloomlaw05_DigraphComponents.l1 k x3 x5 (x6.set ((rd (rd_L2 x5 x8) x9) : Int).toNat (wrap64 (x8 + 1))) (wrap64 (x7 + 1)) x8 (wrap64 (x9 + 1)) x618000 x618001)) else (none)) else (none))))) else (none)) else (if ((rd_L2 x5 x8).length : Int) = 0 then (none) else (if x8 > 0 then (if 0 ≤ (wrap64 (x8 - 1)) then (if (wrap64 (x8 - 1)) < (x5.length : Int) then (if 0 < ((rd_L2 x5 (wrap64 (x8 - 1))).length : Int) then (if 0 < ((rd_L2 x5 x8).length : Int) then (if (rd (rd_L2 x5 (wrap64 (x8 - 1))) 0) ≥ (rd (rd_L2 x5 x8) 0) then (none) else (wireloomlaw05_DigraphComponents.l0 k x3 x5 x6 x7 (wrap64 (x8 + 1)) x618000 x618001)) else (none)) else (none)) else (none)) else (none)) else (wireloomlaw05_DigraphComponents.l0 k x3 x5 x6 x7 (wrap64 (x8 + 1)) x618000 x618001)))) else (none)) else (none)
def wireloomlaw05_DigraphComponents.l2 : Nat → Bool → List (List Int) → List Int → Int → Int → List (S55) → Option (Bool)
 | 0, _, _, _, _, _, _ => none
 | k + 1, x3, x5, x6, x10, x618000, x618001 => if x10 < x618000 then ((digraph_Reach.f x618000 x618001 x10).bind fun t650 => (wireloomlaw05_DigraphComponents.l3 k x3 x5 x6 x10 t650 0 x618000 x618001)) else (wireloomlaw05_DigraphComponents.l4 k x3 x5 x6 false 0 x618000 x618001 (x5.length : Int) ([] : List (S55)))
def wireloomlaw05_DigraphComponents.l3 : Nat → Bool → List (List Int) → List Int → Int → List Int → Int → Int → List (S55) → Option (Bool)
 | 0, _, _, _, _, _, _, _, _ => none
 | k + 1, x3, x5, x6, x10, x11, x12, x618000, x618001 => if x12 < x618000 then ((wireloomref05_In.f k x11 x12).bind fun t653 => (if t653 = true then ((digraph_Reach.f x618000 x618001 x12).bind fun t654 => ((wireloomref05_In.f k t654 x10).bind fun t657 => (if 0 ≤ x10 then (if x10 < (x6.length : Int) then (if 0 ≤ x12 then (if x12 < (x6.length : Int) then (if (t657 != ((rd x6 x10) == (rd x6 x12))) = true then (none) else (wireloomlaw05_DigraphComponents.l3 k x3 x5 x6 x10 x11 (wrap64 (x12 + 1)) x618000 x618001)) else (none)) else (none)) else (none)) else (none)))) else (if 0 ≤ x10 then (if x10 < (x6.length : Int) then (if 0 ≤ x12 then (if x12 < (x6.length : Int) then (if (false != ((rd x6 x10) == (rd x6 x12))) = true then (none) else (wireloomlaw05_DigraphComponents.l3 k x3 x5 x6 x10 x11 (wrap64 (x12 + 1)) x618000 x618001)) else (none)) else (none)) else (none)) else (none)))) else (wireloomlaw05_DigraphComponents.l2 k x3 x5 x6 (wrap64 (x10 + 1)) x618000 x618001)
def wireloomlaw05_DigraphComponents.l4 : Nat → Bool → List (List Int) → List Int → Bool → Int → Int → List (S55) → Int → List (S55) → Option (Bool)
 | 0, _, _, _, _, _, _, _, _, _ => none
 | k + 1, x3, x5, x6, x15, x16, x618000, x618001, x663000, x663001 => if x16 < (x618001.length : Int) then (if 0 ≤ x16 then (if 0 ≤ ((rd_T55 x618001 x16).f0) then (if ((rd_T55 x618001 x16).f0) < (x6.length : Int) then (if 0 ≤ ((rd_T55 x618001 x16).f1) then (if ((rd_T55 x618001 x16).f1) < (x6.length : Int) then (if x15 = true then (if (wrap64 ((rd x6 ((rd_T55 x618001 x16).f0)) - 1)) = (wrap64 ((rd x6 ((rd_T55 x618001 x16).f1)) - 1)) then (wireloomlaw05_DigraphComponents.l4 k x3 x5 x6 true (wrap64 (x16 + 1)) x618000 x618001 x663000 x663001) else (if x663001.length < 8796093022208 then (wireloomlaw05_DigraphComponents.l4 k x3 x5 x6 true (wrap64 (x16 + 1)) x618000 x618001 x663000 (x663001 ++ [(⟨wrap64 ((rd x6 ((rd_T55 x618001 x16).f0)) - 1), wrap64 ((rd x6 ((rd_T55 x618001 x16).f1)) - 1)⟩ : S55)])) else (none))) else (if (wrap64 ((rd x6 ((rd_T55 x618001 x16).f0)) - 1)) = (wrap64 ((rd x6 ((rd_T55 x618001 x16).f1)) - 1)) then (wireloomlaw05_DigraphComponents.l4 k x3 x5 x6 (((rd_T55 x618001 x16).f0) == ((rd_T55 x618001 x16).f1)) (wrap64 (x16 + 1)) x618000 x618001 x663000 x663001) else (if x663001.length < 8796093022208 then (wireloomlaw05_DigraphComponents.l4 k x3 x5 x6 (((rd_T55 x618001 x16).f0) == ((rd_T55 x618001 x16).f1)) (wrap64 (x16 + 1)) x618000 x618001 x663000 (x663001 ++ [(⟨wrap64 ((rd x6 ((rd_T55 x618001 x16).f0)) - 1), wrap64 ((rd x6 ((rd_T55 x618001 x16).f1)) - 1)⟩ : S55)])) else (none)))) else (none)) else (none)) else (none)) else (none)) else (none)) else ((wireloomlaw05_order.f x663000 x663001).bind fun bt675 => (if bt675.2 = 0 then ((wireloomlaw05_order.f x618000 x618001).bind fun bt679 => (if (x5.length : Int) = x618000 then (if ((bt679.2 == 0) == (!x15)) = true then (some x3) else (none)) else (if ((bt679.2 == 0) == false) = true then (some x3) else (none)))) else (none)))
end
def wireloomlaw05_DigraphComponents.f (k : Nat) (a0_0 : Int) (a0_1 : Int) (l0_2 : List Int) : Option (Bool) := (wireloomlaw05_examples.f k).bind fun t612 => (if t612 = true then ((wireloomref05_Made.f k a0_0 a0_1 l0_2).bind fun bt613 => ((digraph_Components.f bt613.1 bt613.2).bind fun t618 => (if 0 ≤ bt613.1 then (if (bt613.1 : Int).toNat ≤ 35184372088832 then (wireloomlaw05_DigraphComponents.l0 k t612 t618 (List.replicate (bt613.1 : Int).toNat 0) 0 0 bt613.1 bt613.2) else (none)) else (none)))) else (none))
theorem wireloomlaw05_DigraphComponents.mono_l : ∀ k, (∀ y0 y1 y2 y3 y4 y5 y6, LeO (wireloomlaw05_DigraphComponents.l0 k y0 y1 y2 y3 y4 y5 y6) (wireloomlaw05_DigraphComponents.l0 (k + 1) y0 y1 y2 y3 y4 y5 y6)) ∧ (∀ y0 y1 y2 y3 y4 y5 y6 y7, LeO (wireloomlaw05_DigraphComponents.l1 k y0 y1 y2 y3 y4 y5 y6 y7) (wireloomlaw05_DigraphComponents.l1 (k + 1) y0 y1 y2 y3 y4 y5 y6 y7)) ∧ (∀ y0 y1 y2 y3 y4 y5, LeO (wireloomlaw05_DigraphComponents.l2 k y0 y1 y2 y3 y4 y5) (wireloomlaw05_DigraphComponents.l2 (k + 1) y0 y1 y2 y3 y4 y5)) ∧ (∀ y0 y1 y2 y3 y4 y5 y6 y7, LeO (wireloomlaw05_DigraphComponents.l3 k y0 y1 y2 y3 y4 y5 y6 y7) (wireloomlaw05_DigraphComponents.l3 (k + 1) y0 y1 y2 y3 y4 y5 y6 y7)) ∧ (∀ y0 y1 y2 y3 y4 y5 y6 y7 y8, LeO (wireloomlaw05_DigraphComponents.l4 k y0 y1 y2 y3 y4 y5 y6 y7 y8) (wireloomlaw05_DigraphComponents.l4 (k + 1) y0 y1 y2 y3 y4 y5 y6 y7 y8))
 | 0 => ⟨fun _ _ _ _ _ _ _ r h => by simp [wireloomlaw05_DigraphComponents.l0] at h, fun _ _ _ _ _ _ _ _ r h => by simp [wireloomlaw05_DigraphComponents.l1] at h, fun _ _ _ _ _ _ r h => by simp [wireloomlaw05_DigraphComponents.l2] at h, fun _ _ _ _ _ _ _ _ r h => by simp [wireloomlaw05_DigraphComponents.l3] at h, fun _ _ _ _ _ _ _ _ _ r h => by simp [wireloomlaw05_DigraphComponents.l4] at h⟩
 | k + 1 => by
  obtain ⟨ih0, ih1, ih2, ih3, ih4⟩ := wireloomlaw05_DigraphComponents.mono_l k
  refine ⟨?_, ?_, ?_, ?_, ?_⟩
  ·intro y0 y1 y2 y3 y4 y5 y6
   unfold wireloomlaw05_DigraphComponents.l0
   repeat' first
   | (with_reducible exact ih0 _ _ _ _ _ _ _)
   | (with_reducible exact ih1 _ _ _ _ _ _ _ _)
   | (with_reducible exact ih2 _ _ _ _ _ _)
   | (with_reducible exact ih3 _ _ _ _ _ _ _ _)
   | (with_reducible exact ih4 _ _ _ _ _ _ _ _ _)
   | (with_reducible exact wireloomlaw05_examples.mono _)
   | (with_reducible exact wireloomref05_In.mono _ _ _)
   | (with_reducible exact wireloomref05_Made.mono _ _ _ _)
   | (with_reducible exact LeO.refl _)
   | (with_reducible exact LeO.none _)
   | (with_reducible refine LeO.ite ?_ ?_)
   | (with_reducible refine LeO.bind ?_ (fun _ => ?_))
   | exact ih0 _ _ _ _ _ _ _
   | exact ih1 _ _ _ _ _ _ _ _
   | exact ih2 _ _ _ _ _ _
   | exact ih3 _ _ _ _ _ _ _ _
   | exact ih4 _ _ _ _ _ _ _ _ _
   | exact wireloomlaw05_examples.mono _
   | exact wireloomref05_In.mono _ _ _
   | exact wireloomref05_Made.mono _ _ _ _
   | exact LeO.none _
   | refine LeO.ite ?_ ?_
   | refine LeO.bind ?_ (fun _ => ?_)
  ·intro y0 y1 y2 y3 y4 y5 y6 y7
   unfold wireloomlaw05_DigraphComponents.l1
   repeat' first
   | (with_reducible exact ih0 _ _ _ _ _ _ _)
   | (with_reducible exact ih1 _ _ _ _ _ _ _ _)
   | (with_reducible exact ih2 _ _ _ _ _ _)
   | (with_reducible exact ih3 _ _ _ _ _ _ _ _)
   | (with_reducible exact ih4 _ _ _ _ _ _ _ _ _)
   | (with_reducible exact wireloomlaw05_examples.mono _)
   | (with_reducible exact wireloomref05_In.mono _ _ _)
   | (with_reducible exact wireloomref05_Made.mono _ _ _ _)
   | (with_reducible exact LeO.refl _)
   | (with_reducible exact LeO.none _)
   | (with_reducible refine LeO.ite ?_ ?_)
   | (with_reducible refine LeO.bind ?_ (fun _ => ?_))
   | exact ih0 _ _ _ _ _ _ _
   | exact ih1 _ _ _ _ _ _ _ _
   | exact ih2 _ _ _ _ _ _
   | exact ih3 _ _ _ _ _ _ _ _
   | exact ih4 _ _ _ _ _ _ _ _ _
   | exact wireloomlaw05_examples.mono _
   | exact wireloomref05_In.mono _ _ _
   | exact wireloomref05_Made.mono _ _ _ _
   | exact LeO.none _
   | refine LeO.ite ?_ ?_
   | refine LeO.bind ?_ (fun _ => ?_)
  ·intro y0 y1 y2 y3 y4 y5
   unfold wireloomlaw05_DigraphComponents.l2
   repeat' first
   | (with_reducible exact ih0 _ _ _ _ _ _ _)
   | (with_reducible exact ih1 _ _ _ _ _ _ _ _)
   | (with_reducible exact ih2 _ _ _ _ _ _)
   | (with_reducible exact ih3 _ _ _ _ _ _ _ _)
   | (with_reducible exact ih4 _ _ _ _ _ _ _ _ _)
   | (with_reducible exact wireloomlaw05_examples.mono _)
   | (with_reducible exact wireloomref05_In.mono _ _ _)
   | (with_reducible exact wireloomref05_Made.mono _ _ _ _)
   | (with_reducible exact LeO.refl _)
   | (with_reducible exact LeO.none _)
   | (with_reducible refine LeO.ite ?_ ?_)
   | (with_reducible refine LeO.bind ?_ (fun _ => ?_))
   | exact ih0 _ _ _ _ _ _ _
   | exact ih1 _ _ _ _ _ _ _ _
   | exact ih2 _ _ _ _ _ _
   | exact ih3 _ _ _ _ _ _ _ _
   | exact ih4 _ _ _ _ _ _ _ _ _
   | exact wireloomlaw05_examples.mono _
   | exact wireloomref05_In.mono _ _ _
   | exact wireloomref05_Made.mono _ _ _ _
   | exact LeO.none _
   | refine LeO.ite ?_ ?_
   | refine LeO.bind ?_ (fun _ => ?_)
  ·intro y0 y1 y2 y3 y4 y5 y6 y7
   unfold wireloomlaw05_DigraphComponents.l3
   repeat' first
   | (with_reducible exact ih0 _ _ _ _ _ _ _)
   | (with_reducible exact ih1 _ _ _ _ _ _ _ _)
   | (with_reducible exact ih2 _ _ _ _ _ _)
   | (with_reducible exact ih3 _ _ _ _ _ _ _ _)
   | (with_reducible exact ih4 _ _ _ _ _ _ _ _ _)
   | (with_reducible exact wireloomlaw05_examples.mono _)
   | (with_reducible exact wireloomref05_In.mono _ _ _)
   | (with_reducible exact wireloomref05_Made.mono _ _ _ _)
   | (with_reducible exact LeO.refl _)
   | (with_reducible exact LeO.none _)
   | (with_reducible refine LeO.ite ?_ ?_)
   | (with_reducible refine LeO.bind ?_ (fun _ => ?_))
   | exact ih0 _ _ _ _ _ _ _
   | exact ih1 _ _ _ _ _ _ _ _
   | exact ih2 _ _ _ _ _ _
   | exact ih3 _ _ _ _ _ _ _ _
   | exact ih4 _ _ _ _ _ _ _ _ _
   | exact wireloomlaw05_examples.mono _
   | exact wireloomref05_In.mono _ _ _
   | exact wireloomref05_Made.mono _ _ _ _
   | exact LeO.none _
   | refine LeO.ite ?_ ?_
   | refine LeO.bind ?_ (fun _ => ?_)
  ·intro y0 y1 y2 y3 y4 y5 y6 y7 y8
   unfold wireloomlaw05_DigraphComponents.l4
   repeat' first
   | (with_reducible exact ih0 _ _ _ _ _ _ _)
   | (with_reducible exact ih1 _ _ _ _ _ _ _ _)
   | (with_reducible exact ih2 _ _ _ _ _ _)
   | (with_reducible exact ih3 _ _ _ _ _ _ _ _)
   | (with_reducible exact ih4 _ _ _ _ _ _ _ _ _)
   | (with_reducible exact wireloomlaw05_examples.mono _)
   | (with_reducible exact wireloomref05_In.mono _ _ _)
   | (with_reducible exact wireloomref05_Made.mono _ _ _ _)
   | (with_reducible exact LeO.refl _)
   | (with_reducible exact LeO.none _)
   | (with_reducible refine LeO.ite ?_ ?_)
   | (with_reducible refine LeO.bind ?_ (fun _ => ?_))
   | exact ih0 _ _ _ _ _ _ _
   | exact ih1 _ _ _ _ _ _ _ _
   | exact ih2 _ _ _ _ _ _
   | exact ih3 _ _ _ _ _ _ _ _
   | exact ih4 _ _ _ _ _ _ _ _ _
   | exact wireloomlaw05_examples.mono _
   | exact wireloomref05_In.mono _ _ _
   | exact wireloomref05_Made.mono _ _ _ _
   | exact LeO.none _
   | refine LeO.ite ?_ ?_
   | refine LeO.bind ?_ (fun _ => ?_)
theorem wireloomlaw05_DigraphComponents.mono : ∀ a0 a1 a2 k, LeO (wireloomlaw05_DigraphComponents.f k a0 a1 a2) (wireloomlaw05_DigraphComponents.f (k + 1) a0 a1 a2) := by
 intro a0 a1 a2 k
 obtain ⟨ih0, ih1, ih2, ih3, ih4⟩ := wireloomlaw05_DigraphComponents.mono_l k
 unfold wireloomlaw05_DigraphComponents.f
 repeat' first
   | (with_reducible exact ih0 _ _ _ _ _ _ _)
   | (with_reducible exact ih1 _ _ _ _ _ _ _ _)
   | (with_reducible exact ih2 _ _ _ _ _ _)
   | (with_reducible exact ih3 _ _ _ _ _ _ _ _)
   | (with_reducible exact ih4 _ _ _ _ _ _ _ _ _)
   | (with_reducible exact wireloomlaw05_examples.mono _)
   | (with_reducible exact wireloomref05_In.mono _ _ _)
   | (with_reducible exact wireloomref05_Made.mono _ _ _ _)
   | (with_reducible exact LeO.refl _)
   | (with_reducible exact LeO.none _)
   | (with_reducible refine LeO.ite ?_ ?_)
   | (with_reducible refine LeO.bind ?_ (fun _ => ?_))
   | exact ih0 _ _ _ _ _ _ _
   | exact ih1 _ _ _ _ _ _ _ _
   | exact ih2 _ _ _ _ _ _
   | exact ih3 _ _ _ _ _ _ _ _
   | exact ih4 _ _ _ _ _ _ _ _ _
   | exact wireloomlaw05_examples.mono _
   | exact wireloomref05_In.mono _ _ _
   | exact wireloomref05_Made.mono _ _ _ _
   | exact LeO.none _
   | refine LeO.ite ?_ ?_
   | refine LeO.bind ?_ (fun _ => ?_)
def wireloomlaw05_DigraphComponents.T14 : Bool × List (List Nat × List Nat) := (true, [([], []), ([], []), ([0, 1], [0, 1]), ([2], [2]), ([], []), ([3, 4], [3, 4]), ([5], [5]), ([6], [6]), ([7], [7]), ([8], [8]), ([8], [8]), ([9, 10, 8], [8, 9, 10]), ([11, 8], [8, 11]), ([8], [8]), ([12, 13, 8], [8, 12, 13]), ([14, 8], [8, 14]), ([8], [8]), ([16, 8], [8, 16]), ([15, 17, 8], [8, 15, 17]), ([8, 18], [8, 18]), ([19, 8], [19]), ([20], [20]), ([21, 20], [20, 21]), ([22, 20, 20], [20, 22]), ([23], [23]), ([23], [23]), ([24, 25, 23], [23, 24, 25]), ([26, 23], [23, 26]), ([23], [23]), ([28, 23], [23, 28]), ([27, 29, 23], [23, 27, 29]), ([30, 23], [23, 30]), ([23], [23]), ([23], [23]), ([32, 33, 23], [23, 32, 33]), ([34, 23], [23, 34]), ([23], [23]), ([35, 36, 23], [23, 35, 36]), ([37, 23], [23, 37]), ([31, 38, 23], [23, 31, 38]), ([23, 39, 20], [20, 23, 39]), ([20, 40], [20, 40]), ([41, 23], [41]), ([42], [42]), ([42], [42]), ([42], [42]), ([44, 45, 42], [42, 44, 45]), ([46, 42], [42, 46]), ([42], [42]), ([47, 48, 42], [42, 47, 48]), ([49, 42], [42, 49]), ([43, 50, 42], [42, 43, 50]), ([51, 42], [42, 51]), ([52, 42], [42, 52]), ([42, 53], [42, 53])])
def wireloomlaw05_DigraphComponents.B14 : List Nat := [0, 0, 3, 7, 0, 31, 63, 127, 255, 511, 511, 2047, 4095, 511, 16383, 32767, 511, 66047, 262143, 524287, 1048575, 2097151, 4194303, 8388607, 16777215, 16777215, 67108863, 134217727, 16777215, 285212671, 1073741823, 2147483647, 16777215, 16777215, 12901679103, 30081548287, 16777215, 133160763391, 270599716863, 549755813887, 1099511627775, 2199023255551, 4398046511103, 8796093022207, 8796093022207, 8796093022207, 61572651155455, 131941395333119, 8796093022207, 554153860399103, 1117103813820415, 2251799813685247, 4503599627370495, 9007199254740991, 18014398509481983]
theorem wireloomlaw05_DigraphComponents.tab14 : rtab .any (opsOf Try.f8 14) = wireloomlaw05_DigraphComponents.T14 := by kernel_rfl
theorem wireloomlaw05_DigraphComponents.bits14 : waitsOk wireloomlaw05_DigraphComponents.T14.2 wireloomlaw05_DigraphComponents.B14 = true := by kernel_rfl
def wireloomlaw05_DigraphComponents.T18 : Bool × List (List Nat × List Nat) := (true, [([], []), ([], []), ([0, 1], [0, 1]), ([2], [2]), ([3], [3]), ([4], [4]), ([5], [5]), ([6], [6]), ([7, 6], [6, 7]), ([8, 6, 6], [6, 8]), ([9], [9]), ([9], [9]), ([11, 9], [9, 11]), ([10, 12, 9], [9, 10, 12]), ([13, 9], [9, 13]), ([14, 9], [9, 14]), ([15, 9], [9, 15]), ([9], [9]), ([9], [9]), ([17, 18, 9], [9, 17, 18]), ([19, 9], [9, 19]), ([20, 9], [9, 20]), ([21, 9], [9, 21]), ([16, 22, 9], [9, 16, 22]), ([9, 23, 6], [6, 9, 23]), ([6, 24], [6, 24])])
def wireloomlaw05_DigraphComponents.B18 : List Nat := [0, 0, 3, 7, 15, 31, 63, 127, 255, 511, 1023, 1023, 3071, 8191, 16383, 32767, 65535, 1023, 1023, 394239, 918527, 1967103, 4064255, 8388607, 16777215, 33554431]
theorem wireloomlaw05_DigraphComponents.tab18 : rtab .any (opsOf Try.f8 18) = wireloomlaw05_DigraphComponents.T18 := by kernel_rfl
theorem wireloomlaw05_DigraphComponents.bits18 : waitsOk wireloomlaw05_DigraphComponents.T18.2 wireloomlaw05_DigraphComponents.B18 = true := by kernel_rfl
def wireloomlaw05_DigraphComponents.T30 : Bool × List (List Nat × List Nat) := (true, [([], []), ([], []), ([], []), ([1, 2], [1, 2]), ([3], [3]), ([], []), ([], []), ([5, 6], [5, 6]), ([7], [7]), ([4, 8], [4, 8]), ([0, 9], [0, 9])])
def wireloomlaw05_DigraphComponents.B30 : List Nat := [0, 0, 0, 6, 14, 0, 0, 96, 224, 510, 1023]
theorem wireloomlaw05_DigraphComponents.tab30 : rtab .any (opsOf Try.f8 30) = wireloomlaw05_DigraphComponents.T30 := by kernel_rfl
theorem wireloomlaw05_DigraphComponents.bits30 : waitsOk wireloomlaw05_DigraphComponents.T30.2 wireloomlaw05_DigraphComponents.B30 = true := by kernel_rfl
def wireloomlaw05_DigraphComponents.T39 : Bool × List (List Nat × List Nat) := (true, [([], []), ([0], [0]), ([1], [1]), ([2, 1], [1, 2]), ([1], [1]), ([3, 4, 1], [1, 3, 4]), ([5, 1], [1, 5]), ([6, 1], [1, 6]), ([1], [1]), ([8, 1], [1, 8]), ([1], [1]), ([9, 10, 1], [1, 9, 10]), ([11, 1], [1, 11]), ([12, 1], [1, 12]), ([7, 13, 1], [1, 7, 13]), ([1, 14], [1, 14]), ([15, 1, 0, 1, 2, 3, 4, 5, 6, 7, 8, 9, 10, 11, 12, 13, 14, 15], [0, 15])])
def wireloomlaw05_DigraphComponents.B39 : List Nat := [0, 1, 3, 7, 3, 31, 63, 127, 3, 259, 3, 1795, 3843, 7939, 16383, 32767, 65535]
theorem wireloomlaw05_DigraphComponents.tab39 : rtab .any (opsOf Try.f8 39) = wireloomlaw05_DigraphComponents.T39 := by kernel_rfl
theorem wireloomlaw05_DigraphComponents.bits39 : waitsOk wireloomlaw05_DigraphComponents.T39.2 wireloomlaw05_DigraphComponents.B39 = true := by kernel_rfl
def wireloomlaw05_DigraphComponents.T42 : Bool × List (List Nat × List Nat) := (true, [([], []), ([0], [0]), ([1], [1]), ([2], [2]), ([3, 1], [3]), ([4], [4]), ([5, 4, 4], [4, 5]), ([6, 4], [4, 6]), ([7, 4], [4, 7]), ([4], [4]), ([9, 4], [4, 9]), ([4], [4]), ([11, 4], [4, 11]), ([10, 12, 4], [4, 10, 12]), ([13, 6, 4], [4, 13]), ([14], [14]), ([15, 14], [14, 15]), ([14, 16, 4], [4, 14, 16]), ([8, 17, 4], [4, 8, 17]), ([4, 18], [4, 18]), ([19, 14], [19]), ([20], [20]), ([20, 21], [20, 21]), ([22, 20, 0, 1, 2, 3, 4, 5, 6, 7, 8, 9, 10, 11, 12, 13, 14, 15, 16, 17, 18, 19, 20, 21, 22], [22])])
def wireloomlaw05_DigraphComponents.B42 : List Nat := [0, 1, 3, 7, 15, 31, 63, 127, 255, 31, 543, 31, 2079, 7711, 15999, 32383, 65151, 130687, 262143, 524287, 1048575, 2097151, 4194303, 8388607]
theorem wireloomlaw05_DigraphComponents.tab42 : rtab .any (opsOf Try.f8 42) = wireloomlaw05_DigraphComponents.T42 := by kernel_rfl
theorem wireloomlaw05_DigraphComponents.bits42 : waitsOk wireloomlaw05_DigraphComponents.T42.2 wireloomlaw05_DigraphComponents.B42 = true := by kernel_rfl
set_option maxHeartbeats 8000000 in
set_option maxRecDepth 100000 in
theorem wireloomlaw05_DigraphComponents.calls (k : Nat) (a0_0 : Int) (a0_1 : Int) (A0_2 : Option Addr) (c0_2 : Nat) (l0_2 : List Int) (r : Bool) (w : World) (hr0_2 : Kd.C (Kd.int .u8) w A0_2 l0_2.length l0_2) (hc0_2 : l0_2.length ≤ c0_2) (h : wireloomlaw05_DigraphComponents.f k a0_0 a0_1 l0_2 = some r) :
  Calls Try.prog 8 #[.agg #[.int .u8 a0_0, .int .u8 a0_1, .slice A0_2 l0_2.length c0_2]] w fun e w' => e = .returned (.bool r) ∧ Below w.heap.size w w' := by
 have hu24 := Try.underlying24
 have hu31 := Try.underlying31
 have hu55 := Try.underlying55
 have hfd37_1 : ∀ (x0 x1 : Value) (W : World), (Instr.field 37 (.agg #[x0, x1]) 1).run Try.prog W = .ok x1 W := fun _ _ _ => by rfl
 have HR0_2 := Aside0.mk hr0_2
 have HC0_2 := Aside0.mk hc0_2
 clear hr0_2 hc0_2
 have HB := Aside0.mk (Below.refl w.heap.size w)
 have H : ((wireloomlaw05_examples.f k).bind fun t612 => (if t612 = true then ((wireloomref05_Made.f k a0_0 a0_1 l0_2).bind fun bt613 => ((digraph_Components.f bt613.1 bt613.2).bind fun t618 => (if 0 ≤ bt613.1 then (if (bt613.1 : Int).toNat ≤ 35184372088832 then (wireloomlaw05_DigraphComponents.l0 k t612 t618 (List.replicate (bt613.1 : Int).toNat 0) 0 0 bt613.1 bt613.2) else (none)) else (none)))) else (none))) = some r := h
 clear h
 replace H := Option.bind_eq_some_iff.mp H
 obtain ⟨t612, A20, H⟩ := H
 replace H : (if t612 = true then ((wireloomref05_Made.f k a0_0 a0_1 l0_2).bind fun bt613 => ((digraph_Components.f bt613.1 bt613.2).bind fun t618 => (if 0 ≤ bt613.1 then (if (bt613.1 : Int).toNat ≤ 35184372088832 then (wireloomlaw05_DigraphComponents.l0 k t612 t618 (List.replicate (bt613.1 : Int).toNat 0) 0 0 bt613.1 bt613.2) else (none)) else (none)))) else (none)) = some r := H
 have A2 := Aside0.mk A20
 clear A20
 by_cases c3 : t612 = true
 ·subst c3
  have H1 : ((wireloomref05_Made.f k a0_0 a0_1 l0_2).bind fun bt613 => ((digraph_Components.f bt613.1 bt613.2).bind fun t618 => (if 0 ≤ bt613.1 then (if (bt613.1 : Int).toNat ≤ 35184372088832 then (wireloomlaw05_DigraphComponents.l0 k true t618 (List.replicate (bt613.1 : Int).toNat 0) 0 0 bt613.1 bt613.2) else (none)) else (none)))) = some r := by rw [if_pos rfl] at H; exact H
  clear H
  have H := H1
  clear H1
  replace H := Option.bind_eq_some_iff.mp H
  obtain ⟨⟨t613, t614⟩, A40, H⟩ := H
  replace H : ((digraph_Components.f t613 t614).bind fun t618 => (if 0 ≤ t613 then (if (t613 : Int).toNat ≤ 35184372088832 then (wireloomlaw05_DigraphComponents.l0 k true t618 (List.replicate (t613 : Int).toNat 0) 0 0 t613 t614) else (none)) else (none))) = some r := H
  have A4 := Aside0.mk A40
  clear A40
  replace H := Option.bind_eq_some_iff.mp H
  obtain ⟨t618, A50, H⟩ := H
  replace H : (if 0 ≤ t613 then (if (t613 : Int).toNat ≤ 35184372088832 then (wireloomlaw05_DigraphComponents.l0 k true t618 (List.replicate (t613 : Int).toNat 0) 0 0 t613 t614) else (none)) else (none)) = some r := H
  have A5 := Aside0.mk A50
  clear A50
  by_cases c6 : 0 ≤ t613
  ·rw [if_pos c6] at H
   have c6b0 := eq_true c6
   have c6b1 : decide (0 ≤ t613) = true := decide_eq_true c6
   clear c6
   by_cases c7 : (t613 : Int).toNat ≤ 35184372088832
   ·rw [if_pos c7] at H
    have c7b0 := eq_true c7
    have c7b1 : decide ((t613 : Int).toNat ≤ 35184372088832) = true := decide_eq_true c7
    clear c7
    obtain ⟨y621, hy621⟩ : ∃ y_ : List Int, y_ = (List.replicate (t613 : Int).toNat 0) := ⟨_, rfl⟩
    replace H : (wireloomlaw05_DigraphComponents.l0 k true t618 y621 0 0 t613 t614) = some r := by first | (rw [hy621]; with_reducible exact H) | (have H2_ := (Option.bind_some _ _).symm.trans H; rw [hy621]; with_reducible exact H2_) | (have H2_ := (Option.bind_some _ _).symm.trans H; with_reducible exact H2_) | with_reducible exact H | (rw [hy621]; exact H) | exact H
    have Ny621 := Aside0.mk hy621
    clear hy621
    have H' := Aside0.mk H
    clear H
    go_enter Try.func8, Try.ntmps8
    go_wp2_with (first | ((with_reducible refine gate_dst (N := 1) rfl ?_); (try (refine gate_guard (by rfl) ?_; dsimp only)); refine box_event ?hg (N := 1) ?hd (cs := #[.int .u8 a0_0, .int .u8 a0_1, .slice A0_2 l0_2.length c0_2]) (t := 24) ?hr ?_; (case hd => rfl); (case hg => rfl); (case hr => first | (go_simp; done) | (go_simp; rfl)); intro gb611 hg w8 hbox hb; have n0_ := Aside0.mk (below_step (by repeat (first | (with_reducible first | exact HB.out | apply below_alloc | apply pw_below_drewN | apply below_drew1) | exact HB.out)) hb); have n1_ := Aside0.mk (hbox); have n2_ := Aside0.mk ((by rw [hg]; exact (below_size (by repeat (first | (with_reducible first | exact HB.out | apply below_alloc | apply pw_below_drewN | apply below_drew1) | exact HB.out))) : w.heap.size ≤ gb611)); have n3_ := Aside0.mk ((by rw [hg]; exact (below_size (by repeat (first | (with_reducible first | exact HB.out | apply below_alloc | apply pw_below_drewN | apply below_drew1) | exact HB.out))) : w.heap.size ≤ gb611)); clear HB; have HB := n0_; have BK611 := n1_; have GW611 := n2_; have GE611 := n3_; clear n0_ n1_ n2_ n3_; clear hb hbox hg) | ((with_reducible refine gate_callee (f := 10) rfl ?_); refine goesL_ (some 19) rfl rfl Try.func10 (by kernel_rfl) rfl #[] rfl (by (try simp only [List.map_toArray, List.map_cons, List.map_nil]); first | done | rfl | (simp only [List.length_drop, List.length_take]; rfl)) ?_; (with_reducible refine (wireloomlaw05_examples.calls k  true _ A2.out).mono ?_); rintro e w9 ⟨rfl, hb⟩; refine ⟨_, rfl, ?_⟩; have n0_ := Aside0.mk (blk_below (g := gb611) (o := .cells #[.int .u8 a0_0, .int .u8 a0_1, .slice A0_2 l0_2.length c0_2] 24 (0, 0)) (bA BK611.out) hb); have n1_ := Aside0.mk (below_step (by repeat (first | (with_reducible first | exact HB.out | apply below_alloc | apply pw_below_drewN | apply below_drew1 | refine below_set ?_ GE611.out) | exact HB.out)) hb); clear BK611; clear HB; have BK611 := n0_; have HB := n1_; clear n0_ n1_; (try clear hb); (try clear hb2); (try clear hk); (try clear hi); have hcz10_0 : w9.cell? ⟨gb611, 0, none⟩ = some (.int .u8 a0_0) := (blk_cell BK611.out 0).trans rfl; have hcz10_1 : w9.cell? ⟨gb611, 1, none⟩ = some (.int .u8 a0_1) := (blk_cell BK611.out 1).trans rfl; have hcz10_2 : w9.cell? ⟨gb611, 2, none⟩ = some (.slice A0_2 l0_2.length c0_2) := (blk_cell BK611.out 2).trans rfl; have hfz10_0 := blk_frozen BK611.out 0; have hfz10_1 := blk_frozen BK611.out 1; have hfz10_2 := blk_frozen BK611.out 2) | ((with_reducible refine gate_callee (f := 11) rfl ?_); refine goesL_ (some 23) rfl rfl Try.func11 (by kernel_rfl) rfl #[.agg #[.int .u8 a0_0, .int .u8 a0_1, .slice A0_2 l0_2.length c0_2]] rfl (by (try simp only [List.map_toArray, List.map_cons, List.map_nil]); first | done | rfl | (simp only [List.length_drop, List.length_take]; rfl)) ?_; (with_reducible refine (wireloomref05_Made.calls k a0_0 a0_1 _ _ l0_2 t613 t614 _ ?side1 ?side2 A4.out).mono ?_); (case side1 => repeat (first | exact (Kd.C_below HR0_2.out HB.out) | (with_reducible refine Kd.C_alloc ?_ _) | (with_reducible refine Kd.C_drewN ?_ _) | (with_reducible refine Kd.C_drew ?_))); (case side2 => exact HC0_2.out); rintro e w11 ⟨v615, rfl, ho0, hb⟩; refine ⟨_, rfl, ?_⟩; have n0_ := Aside0.mk (Kd.R_lower ho0 (below_size (by repeat (first | (with_reducible first | exact HB.out | apply below_alloc | apply pw_below_drewN | apply below_drew1 | refine below_set ?_ GE611.out) | exact HB.out)))); have n1_ := Aside0.mk (blk_below (g := gb611) (o := .cells #[.int .u8 a0_0, .int .u8 a0_1, .slice A0_2 l0_2.length c0_2] 24 (0, 0)) (bA BK611.out) hb); have n2_ := Aside0.mk (below_step (by repeat (first | (with_reducible first | exact HB.out | apply below_alloc | apply pw_below_drewN | apply below_drew1 | refine below_set ?_ GE611.out) | exact HB.out)) hb); clear BK611; clear HB; have HO616 := n0_; have BK611 := n1_; have HB := n2_; clear n0_ n1_ n2_; (try clear hb); (try clear hb2); (try clear hk); (try clear hi); (try clear ho0)) | ((with_reducible refine gate_dst (N := 4) rfl ?_); (try (refine gate_guard (by rfl) ?_; dsimp only)); refine box_event ?hg (N := 4) ?hd (cs := #[.int .i64 0, .slice none 0 0]) (t := 31) ?hr ?_; (case hd => rfl); (case hg => rfl); (case hr => first | (go_simp; done) | (go_simp; rfl)); intro gb617 hg w12 hbox hb; have n0_ := Aside0.mk (Kd.R_below (rA HO616.out) hb); have n1_ := Aside0.mk (blk_below (g := gb611) (o := .cells #[.int .u8 a0_0, .int .u8 a0_1, .slice A0_2 l0_2.length c0_2] 24 (0, 0)) (bA BK611.out) hb); have n2_ := Aside0.mk (below_step (by repeat (first | (with_reducible first | exact HB.out | apply below_alloc | apply pw_below_drewN | apply below_drew1 | refine below_set ?_ GE611.out) | exact HB.out)) hb); have n3_ := Aside0.mk (hbox); have n4_ := Aside0.mk ((by rw [hg]; exact (below_size (by repeat (first | (with_reducible first | exact HB.out | apply below_alloc | apply pw_below_drewN | apply below_drew1 | refine below_set ?_ GE611.out) | exact HB.out))) : w.heap.size ≤ gb617)); have n5_ := Aside0.mk ((by rw [hg]; exact (below_size (by repeat (first | (with_reducible first | exact HB.out | apply below_alloc | apply pw_below_drewN | apply below_drew1 | refine below_set ?_ GE611.out) | exact HB.out))) : w.heap.size ≤ gb617)); have n6_ := Aside0.mk ((by rw [hg]; exact Nat.ne_of_lt (blk_lt (g := gb611) (o := .cells #[.int .u8 a0_0, .int .u8 a0_1, .slice A0_2 l0_2.length c0_2] 24 (0, 0)) (bA BK611.out)) : gb611 ≠ gb617)); have n7_ := Aside0.mk ((by rw [hg]; exact Nat.ne_of_gt (blk_lt (g := gb611) (o := .cells #[.int .u8 a0_0, .int .u8 a0_1, .slice A0_2 l0_2.length c0_2] 24 (0, 0)) (bA BK611.out)) : gb617 ≠ gb611)); clear HO616; clear BK611; clear HB; have HO616 := n0_; have BK611 := n1_; have HB := n2_; have BK617 := n3_; have GW617 := n4_; have GE617 := n5_; have NB611_617 := n6_; have NB617_611 := n7_; clear n0_ n1_ n2_ n3_ n4_ n5_ n6_ n7_; clear hb hbox hg; have hnb13 := NB617_611.out; have hnc13 := NB611_617.out; have hcz14_0 : w12.cell? ⟨gb617, 0, none⟩ = some (.int .i64 0) := (blk_cell BK617.out 0).trans rfl; have hcz14_1 : w12.cell? ⟨gb617, 1, none⟩ = some (.slice none 0 0) := (blk_cell BK617.out 1).trans rfl; have hfz14_0 := blk_frozen BK617.out 0; have hfz14_1 := blk_frozen BK617.out 1; obtain ⟨Ao15, co15, eo15⟩ := Kd.R_slice HO616.out; subst eo15) | ((with_reducible refine gate_callee (f := 27) rfl ?_); refine goesL_ (some 28) rfl rfl Try.func27 (by kernel_rfl) rfl #[.int .i64 t613, .slice Ao15 t614.length co15] rfl (by (try simp only [List.map_toArray, List.map_cons, List.map_nil]); first | done | rfl | (simp only [List.length_drop, List.length_take]; rfl)) ?_; (with_reducible refine (digraph_Components.calls t613 _ _ t614 t618 _ ?side1 ?side2 A5.out).mono ?_); (case side1 => refine (Kd.R_reads' (e := 55) (base := w.heap.size) (ok := fun k_ => True) (n := t614.length) (c := co15) ?_).2.2; exact (by (with_reducible repeat (first | apply Kd.R_alloc | apply Kd.R_drewN | apply Kd.R_drew)); exact (Kd.R_mono (Kd.R_far (p := ⟨gb617, 1, none⟩) (Kd.R_far (p := ⟨gb617, 0, none⟩) (Kd.R_types HO616.out BK617.out (by decide)) (fun _ hk => hk.2) (.int .i64 t613)) (fun _ hk => hk.2) (.slice Ao15 t614.length co15)) (fun _ h_ => h_.1)))); (case side2 => exact (Kd.R_reads' HO616.out).2.1); rintro e w16 ⟨v619, rfl, ho0, hb⟩; refine ⟨_, rfl, ?_⟩; have n0_ := Aside0.mk (Kd.R_below (by (with_reducible repeat (first | apply Kd.R_alloc | apply Kd.R_drewN | apply Kd.R_drew)); exact (Kd.R_mono (Kd.R_far (p := ⟨gb617, 1, none⟩) (Kd.R_far (p := ⟨gb617, 0, none⟩) (Kd.R_types HO616.out BK617.out (by decide)) (fun _ hk => hk.2) (.int .i64 t613)) (fun _ hk => hk.2) (.slice Ao15 t614.length co15)) (fun _ h_ => h_.1))) hb); have n1_ := Aside0.mk (Kd.S_lower ho0 (below_size (by repeat (first | (with_reducible first | exact HB.out | apply below_alloc | apply pw_below_drewN | apply below_drew1 | refine below_set ?_ GE611.out | refine below_set ?_ GE617.out) | exact HB.out)))); have n2_ := Aside0.mk (blk_below (g := gb611) (o := .cells #[.int .u8 a0_0, .int .u8 a0_1, .slice A0_2 l0_2.length c0_2] 24 (0, 0)) (by (with_reducible repeat (first | refine blk_drewN ?_ _ | refine blk_drew ?_ | refine blk_alloc ?_ _)); refine blk_far ?_ NB611_617.out _; (with_reducible repeat (first | refine blk_drewN ?_ _ | refine blk_drew ?_ | refine blk_alloc ?_ _)); refine blk_far ?_ NB611_617.out _; (with_reducible repeat (first | refine blk_drewN ?_ _ | refine blk_drew ?_ | refine blk_alloc ?_ _)); exact BK611.out) hb); have n3_ := Aside0.mk (blk_below (g := gb617) (o := .cells #[.int .i64 t613, .slice Ao15 t614.length co15] 31 (0, 0)) (by (with_reducible repeat (first | refine blk_drewN ?_ _ | refine blk_drew ?_ | refine blk_alloc ?_ _)); refine blk_put (cs := #[.int .i64 t613, .slice none 0 0]) ?_ 1 _ rfl; (with_reducible repeat (first | refine blk_drewN ?_ _ | refine blk_drew ?_ | refine blk_alloc ?_ _)); refine blk_put (cs := #[.int .i64 0, .slice none 0 0]) ?_ 0 _ rfl; (with_reducible repeat (first | refine blk_drewN ?_ _ | refine blk_drew ?_ | refine blk_alloc ?_ _)); exact BK617.out) hb); have n4_ := Aside0.mk (below_step (by repeat (first | (with_reducible first | exact HB.out | apply below_alloc | apply pw_below_drewN | apply below_drew1 | refine below_set ?_ GE611.out | refine below_set ?_ GE617.out) | exact HB.out)) hb); clear HO616; clear BK611; clear BK617; clear HB; have HO616 := n0_; have HO620 := n1_; have BK611 := n2_; have BK617 := n3_; have HB := n4_; clear n0_ n1_ n2_ n3_ n4_; (try clear hb); (try clear hb2); (try clear hk); (try clear hi); (try clear ho0); have hcz17_0 : w16.cell? ⟨gb617, 0, none⟩ = some (.int .i64 t613) := (blk_cell BK617.out 0).trans rfl; have hcz17_1 : w16.cell? ⟨gb617, 1, none⟩ = some (.slice Ao15 t614.length co15) := (blk_cell BK617.out 1).trans rfl; have hfz17_0 := blk_frozen BK617.out 0; have hfz17_1 := blk_frozen BK617.out 1) | ((with_reducible refine gate_dst (N := 31) rfl ?_); (try (refine gate_guard (by rfl) ?_; dsimp only)); refine Kd.R_make (Kd.int .i64) _ 3 rfl (N := 31) rfl 26 _ _ rfl t613 rfl rfl Try.underlying26 (.int .i64 0) 8 info3 rfl (by decide) (by omega) 0 (ok := fun _ => True) (okp := fun _ => True) rfl (fun _ hk => hk) trivial (of_decide_eq_true (by first | (with_reducible assumption) | assumption)) (Nat.le_trans (Nat.mul_le_mul_right _ (of_decide_eq_true (by first | (with_reducible assumption) | assumption) : t613.toNat ≤ 35184372088832)) (by omega)) (Below.refl _ _) (Nat.le_refl _) ?_; intro v622 w18 ho19 hb hg_ hnew_; clear hg_ hnew_; (first | rw [← Ny621.out] at ho19 | (simp only [Int.reduceToNat] at ho19; rw [← Ny621.out] at ho19)); have n0_ := Aside0.mk (Kd.R_below (rA HO616.out) hb); have n1_ := Aside0.mk (Kd.S_elder' (by (with_reducible repeat (first | apply Kd.S_alloc | apply Kd.S_drewN | apply Kd.S_drew)); exact HO620.out) (Kd.R_base ho19) hb); have n2_ := Aside0.mk (Kd.R_lower ho19 (below_size (by repeat (first | (with_reducible first | exact HB.out | apply below_alloc | apply pw_below_drewN | apply below_drew1 | refine below_set ?_ GE611.out | refine below_set ?_ GE617.out) | exact HB.out)))); have n3_ := Aside0.mk (blk_below (g := gb611) (o := .cells #[.int .u8 a0_0, .int .u8 a0_1, .slice A0_2 l0_2.length c0_2] 24 (0, 0)) (bA BK611.out) hb); have n4_ := Aside0.mk (blk_below (g := gb617) (o := .cells #[.int .i64 t613, .slice Ao15 t614.length co15] 31 (0, 0)) (bA BK617.out) hb); have n5_ := Aside0.mk (below_step (by repeat (first | (with_reducible first | exact HB.out | apply below_alloc | apply pw_below_drewN | apply below_drew1 | refine below_set ?_ GE611.out | refine below_set ?_ GE617.out) | exact HB.out)) hb); clear HO616; clear HO620; clear BK611; clear BK617; clear HB; have HO616 := n0_; have HO620 := n1_; have HO623 := n2_; have BK611 := n3_; have BK617 := n4_; have HB := n5_; clear n0_ n1_ n2_ n3_ n4_ n5_; clear hb ho19))
    go_loopg [7, 8] k (fun kq v7 v8 w' => ∃ (x6_1 : List Int) (x7_1 : Int) (x8_1 : Int), v7 = .int .i64 x7_1 ∧ v8 = .int .i64 x8_1 ∧ Aside0 (wireloomlaw05_DigraphComponents.l0 kq true t618 x6_1 x7_1 x8_1 t613 t614 = some r) ∧ Aside0 (kq ≤ k) ∧ Aside0 (Kd.S (Kd.slice 3 (Kd.int .i64)) 26 w' w.heap.size (fun k_ => some k_ ≠ (v622 : Value).ownBlock) v619 t618) ∧ Aside0 (Kd.R (Kd.int .i64) 3 w' w.heap.size (fun _ => True) v622 x6_1) ∧ Aside0 (Kd.R k55 55 w' w.heap.size (fun _ => True) (.slice Ao15 t614.length co15) t614) ∧ Aside0 (w'.heap[gb611]? = some (.cells #[.int .u8 a0_0, .int .u8 a0_1, (.slice A0_2 l0_2.length c0_2)] 24 (0, 0))) ∧ Aside0 (w'.heap[gb617]? = some (.cells #[.int .i64 t613, (.slice Ao15 t614.length co15)] 31 (0, 0))) ∧ Aside0 (Below w.heap.size w w'))
    case atStart => exact ⟨(y621), (0), (0), (by first | rfl | (simp; done) | (simp [*]; done)), (by first | rfl | (simp; done) | (simp [*]; done)), H', ⟨Nat.le_refl _⟩, ⟨by (with_reducible repeat (first | apply Kd.S_alloc | apply Kd.S_drewN | apply Kd.S_drew)); exact Kd.S_mono HO620.out (fun _ hk => hk.2)⟩, ⟨rA HO623.out⟩, ⟨rA HO616.out⟩, ⟨bA BK611.out⟩, ⟨bA BK617.out⟩, ⟨by repeat (first | (with_reducible first | exact HB.out | apply below_alloc | apply pw_below_drewN | apply below_drew1 | refine below_set ?_ GE611.out | refine below_set ?_ GE617.out) | exact HB.out)⟩⟩
    case round =>
     clear H'
     try clear c1
     try clear c2
     try clear p2
     try clear c3
     try clear c6
     try clear c6b0
     try clear c6b1
     try clear c7
     try clear c7b0
     try clear c7b1
     try clear c8
     try clear c10
     try clear c11
     try clear c13
     try clear hcz10_0
     try clear hcz10_1
     try clear hcz10_2
     try clear hcz14_0
     try clear hcz14_1
     try clear hcz17_0
     try clear hcz17_1
     try clear hfz10_0
     try clear hfz10_1
     try clear hfz10_2
     try clear hfz14_0
     try clear hfz14_1
     try clear hfz17_0
     try clear hfz17_1
     obtain ⟨x6_1, x7_1, x8_1, rfl, rfl, HA, HK1, HO_5, HO_6, HO_618001, BK611, BK617, HB⟩ := hrel
     cases gk with
     | zero => exact absurd HA.out (by simp [wireloomlaw05_DigraphComponents.l0])
     | succ k1 =>
      have H := HA.out
      clear HA
      simp only [wireloomlaw05_DigraphComponents.l0] at H
      by_cases c20 : x8_1 < (t618.length : Int)
      ·rw [if_pos c20] at H
       have c20b0 : decide (x8_1 < (t618.length : Int)) = true := decide_eq_true c20
       clear c20
       have H' := Aside0.mk H
       clear H
       obtain ⟨Ao21, co21, eo21⟩ := Kd.S_slice HO_5.out
       subst eo21
       go_wp2
       go_loopg [7, 9] k1 (fun kq v7 v9 w' => ∃ (x6_2 : List Int) (x7_2 : Int) (x9_2 : Int), v7 = .int .i64 x7_2 ∧ v9 = .int .i64 x9_2 ∧ Aside0 (wireloomlaw05_DigraphComponents.l1 kq true t618 x6_2 x7_2 x8_1 x9_2 t613 t614 = some r) ∧ Aside0 (kq ≤ k1) ∧ Aside0 (Kd.S (Kd.slice 3 (Kd.int .i64)) 26 w' w.heap.size (fun k_ => some k_ ≠ (v622 : Value).ownBlock) (.slice Ao21 t618.length co21) t618) ∧ Aside0 (Kd.R (Kd.int .i64) 3 w' w.heap.size (fun _ => True) v622 x6_2) ∧ Aside0 (Kd.R k55 55 w' w.heap.size (fun _ => True) (.slice Ao15 t614.length co15) t614) ∧ Aside0 (w'.heap[gb611]? = some (.cells #[.int .u8 a0_0, .int .u8 a0_1, (.slice A0_2 l0_2.length c0_2)] 24 (0, 0))) ∧ Aside0 (w'.heap[gb617]? = some (.cells #[.int .i64 t613, (.slice Ao15 t614.length co15)] 31 (0, 0))) ∧ Aside0 (Below w.heap.size w w'))
       case atStart => exact ⟨(x6_1), (x7_1), (0), (by first | rfl | (simp; done) | (simp [*]; done)), (by first | rfl | (simp; done) | (simp [*]; done)), H', ⟨Nat.le_refl _⟩, ⟨by (with_reducible repeat (first | apply Kd.S_alloc | apply Kd.S_drewN | apply Kd.S_drew)); exact HO_5.out⟩, ⟨rA HO_6.out⟩, ⟨rA HO_618001.out⟩, ⟨bA BK611.out⟩, ⟨bA BK617.out⟩, ⟨by repeat (first | (with_reducible first | exact HB.out | apply below_alloc | apply pw_below_drewN | apply below_drew1 | refine below_set ?_ GE611.out | refine below_set ?_ GE617.out) | exact HB.out)⟩⟩
       case round => as_aux_lemma =>
        clear H'
        try clear c1
        try clear c2
        try clear p2
        try clear c3
        try clear c6
        try clear c6b0
        try clear c6b1
        try clear c7
        try clear c7b0
        try clear c7b1
        try clear c8
        try clear c10
        try clear c11
        try clear c13
        try clear c20
        try clear c20b0
        try clear hcz10_0
        try clear hcz10_1
        try clear hcz10_2
        try clear hcz14_0
        try clear hcz14_1
        try clear hcz17_0
        try clear hcz17_1
        try clear hfz10_0
        try clear hfz10_1
        try clear hfz10_2
        try clear hfz14_0
        try clear hfz14_1
        try clear hfz17_0
        try clear hfz17_1
        try clear p2
        obtain ⟨x6_2, x7_2, x9_2, rfl, rfl, HA, HK2, HO_5, HO_6, HO_618001, BK611, BK617, HB⟩ := hrel
        cases gk with
        | zero => exact absurd HA.out (by simp [wireloomlaw05_DigraphComponents.l1])
        | succ k2 =>
         have H := HA.out
         clear HA
         simp only [wireloomlaw05_DigraphComponents.l1] at H
         by_cases c22 : 0 ≤ x8_1
         ·rw [if_pos c22] at H
          have c22b0 : decide (0 ≤ x8_1) = true := decide_eq_true c22
          clear c22
          by_cases c23 : x8_1 < (t618.length : Int)
          ·rw [if_pos c23] at H
           have c23b0 : decide (x8_1 < (t618.length : Int)) = true := decide_eq_true c23
           clear c23
           by_cases c24 : x9_2 < ((rd_L2 t618 x8_1).length : Int)
           ·rw [if_pos c24] at H
            have c24b0 : decide (x9_2 < ((rd_L2 t618 x8_1).length : Int)) = true := decide_eq_true c24
            clear c24
            by_cases c25 : 0 ≤ x9_2
            ·rw [if_pos c25] at H
             have c25b0 : decide (0 ≤ x9_2) = true := decide_eq_true c25
             clear c25
             by_cases c26 : (rd (rd_L2 t618 x8_1) x9_2) < 0
             ·rw [if_pos c26] at H
              exact absurd H (by simp)
             ·rw [if_neg c26] at H
              have c26b0 : decide ((rd (rd_L2 t618 x8_1) x9_2) < 0) = false := decide_eq_false c26
              clear c26
              by_cases c27 : (rd (rd_L2 t618 x8_1) x9_2) ≥ t613
              ·rw [if_pos c27] at H
               exact absurd H (by simp)
              ·rw [if_neg c27] at H
               have c27b0 : decide (t613 ≤ (rd (rd_L2 t618 x8_1) x9_2)) = false := decide_eq_false c27
               clear c27
               by_cases c28 : x9_2 > 0
               ·rw [if_pos c28] at H
                have c28b0 : decide (0 < x9_2) = true := decide_eq_true c28
                clear c28
                obtain ⟨ji29, hji29⟩ : ∃ j_ : Int, (wrap64 (x9_2 - 1)) = j_ := ⟨_, rfl⟩
                replace H : (if 0 ≤ (ji29) then (if (ji29) < ((rd_L2 t618 x8_1).length : Int) then (if (rd (rd_L2 t618 x8_1) (ji29)) ≥ (rd (rd_L2 t618 x8_1) x9_2) then (none) else (if 0 ≤ (rd (rd_L2 t618 x8_1) x9_2) then (if (rd (rd_L2 t618 x8_1) x9_2) < (x6_2.length : Int) then (if (rd x6_2 (rd (rd_L2 t618 x8_1) x9_2)) > 0 then (none) else (wireloomlaw05_DigraphComponents.l1 k2 true t618 (x6_2.set ((rd (rd_L2 t618 x8_1) x9_2) : Int).toNat (wrap64 (x8_1 + 1))) (wrap64 (x7_2 + 1)) x8_1 (wrap64 (x9_2 + 1)) t613 t614)) else (none)) else (none))) else (none)) else (none)) = some r := by first | (rw [hji29] at H; exact H) | (simp only [hji29] at H ⊢; exact H)
                have hji29w : (IntKind.i64.wrap (x9_2 - 1)) = ji29 := (i64_w _).trans hji29
                by_cases c30 : 0 ≤ (ji29)
                ·rw [if_pos c30] at H
                 have c30b0 : decide (0 ≤ (ji29)) = true := decide_eq_true c30
                 clear c30
                 by_cases c31 : (ji29) < ((rd_L2 t618 x8_1).length : Int)
                 ·rw [if_pos c31] at H
                  have c31b0 : decide ((ji29) < ((rd_L2 t618 x8_1).length : Int)) = true := decide_eq_true c31
                  clear c31
                  by_cases c32 : (rd (rd_L2 t618 x8_1) (ji29)) ≥ (rd (rd_L2 t618 x8_1) x9_2)
                  ·rw [if_pos c32] at H
                   exact absurd H (by simp)
                  ·rw [if_neg c32] at H
                   have c32b0 : decide ((rd (rd_L2 t618 x8_1) x9_2) ≤ (rd (rd_L2 t618 x8_1) (ji29))) = false := decide_eq_false c32
                   clear c32
                   by_cases c33 : 0 ≤ (rd (rd_L2 t618 x8_1) x9_2)
                   ·rw [if_pos c33] at H
                    have c33b0 : decide (0 ≤ (rd (rd_L2 t618 x8_1) x9_2)) = true := decide_eq_true c33
                    clear c33
                    by_cases c34 : (rd (rd_L2 t618 x8_1) x9_2) < (x6_2.length : Int)
                    ·rw [if_pos c34] at H
                     have c34b0 : decide ((rd (rd_L2 t618 x8_1) x9_2) < (x6_2.length : Int)) = true := decide_eq_true c34
                     clear c34
                     by_cases c35 : (rd x6_2 (rd (rd_L2 t618 x8_1) x9_2)) > 0
                     ·rw [if_pos c35] at H
                      exact absurd H (by simp)
                     ·rw [if_neg c35] at H
                      have c35b0 : decide (0 < (rd x6_2 (rd (rd_L2 t618 x8_1) x9_2))) = false := decide_eq_false c35
                      clear c35
                      obtain ⟨y638, hy638⟩ : ∃ y_ : List Int, y_ = (x6_2.set ((rd (rd_L2 t618 x8_1) x9_2) : Int).toNat (wrap64 (x8_1 + 1))) := ⟨_, rfl⟩
                      replace H : (wireloomlaw05_DigraphComponents.l1 k2 true t618 y638 (wrap64 (x7_2 + 1)) x8_1 (wrap64 (x9_2 + 1)) t613 t614) = some r := by first | (rw [hy638]; with_reducible exact H) | (have H2_ := (Option.bind_some _ _).symm.trans H; rw [hy638]; with_reducible exact H2_) | (have H2_ := (Option.bind_some _ _).symm.trans H; with_reducible exact H2_) | with_reducible exact H | (rw [hy638]; exact H) | exact H
                      have Ny638 := Aside0.mk hy638
                      clear hy638
                      have H' := Aside0.mk H
                      clear H
                      have p624 : 0 ≤ (x8_1 : Int) := of_decide_eq_true (by first | (with_reducible assumption) | assumption)
                      have q624 : x8_1 < (t618.length : Int) := of_decide_eq_true (by first | (with_reducible assumption) | assumption)
                      obtain ⟨ad624, A624_0, c624_0, e624, hx624_0, hl624_0, hi624_0⟩ := at_L2 (Kd.S_reads' HO_5.out).2.2 x8_1 p624 q624
                      cases e624
                      obtain ⟨ce624, hce624, hMe624, hcc624⟩ := Kd.S_get HO_5.out [] x8_1 p624 (by first | exact q624 | exact of_decide_eq_true (by first | (with_reducible assumption) | assumption) | (have e_ := (Kd.S_reads' HO_5.out).1; omega))
                      obtain ⟨ve624_0, rfl, ge624_0⟩ := hMe624
                      have hv624_0 := hcc624 0 _ rfl
                      rw [Nat.add_zero, show ((Kd.slice 3 (Kd.int .i64))).sz = 1 from rfl, Nat.mul_one] at hv624_0
                      replace hv624_0 := Option.some.inj (hv624_0.symm.trans hx624_0)
                      rw [hv624_0] at ge624_0
                      have HL624_0 := Aside0.mk (show Kd.R (Kd.int .i64) 3 _ _ _ _ (rd_L2 t618 x8_1) from ge624_0)
                      clear hv624_0 ge624_0
                      clear hcc624 hce624
                      have HR624_0 := Aside0.mk hi624_0
                      have HC624_0 := Aside0.mk hl624_0
                      clear hi624_0 hl624_0
                      replace p624 := eq_true p624
                      replace q624 := eq_true q624
                      try go_wp2
                      have n0_ := Aside0.mk (Kd.S_drew HO_5.out)
                      have n1_ := Aside0.mk (Kd.R_drew HO_6.out)
                      have n2_ := Aside0.mk (Kd.R_drew HO_618001.out)
                      have n3_ := Aside0.mk (Kd.R_drew HL624_0.out)
                      have n4_ := Aside0.mk (blk_drew BK611.out)
                      have n5_ := Aside0.mk (blk_drew BK617.out)
                      have n6_ := Aside0.mk (Kd.C_drew HR624_0.out)
                      have n7_ := Aside0.mk (below_drew1 HB.out)
                      clear HO_5
                      clear HO_6
                      clear HO_618001
                      clear HL624_0
                      clear BK611
                      clear BK617
                      clear HR624_0
                      clear HB
                      have HO_5 := n0_
                      have HO_6 := n1_
                      have HO_618001 := n2_
                      have HL624_0 := n3_
                      have BK611 := n4_
                      have BK617 := n5_
                      have HR624_0 := n6_
                      have HB := n7_
                      clear n0_ n1_ n2_ n3_ n4_ n5_ n6_ n7_
                      have p625 : 0 ≤ (x8_1 : Int) := of_decide_eq_true (by first | (with_reducible assumption) | assumption)
                      have q625 : x8_1 < (t618.length : Int) := of_decide_eq_true (by first | (with_reducible assumption) | assumption)
                      obtain ⟨ad625, A625_0, c625_0, e625, hx625_0, hl625_0, hi625_0⟩ := at_L2 (Kd.S_reads' HO_5.out).2.2 x8_1 p625 q625
                      obtain rfl : ad624 = ad625 := (by injection e625)
                      obtain ⟨ce625, hce625, hMe625, hcc625⟩ := Kd.S_get HO_5.out [] x8_1 p625 (by first | exact q625 | exact of_decide_eq_true (by first | (with_reducible assumption) | assumption) | (have e_ := (Kd.S_reads' HO_5.out).1; omega))
                      obtain ⟨ve625_0, rfl, ge625_0⟩ := hMe625
                      have hv625_0 := hcc625 0 _ rfl
                      rw [Nat.add_zero, show ((Kd.slice 3 (Kd.int .i64))).sz = 1 from rfl, Nat.mul_one] at hv625_0
                      replace hv625_0 := Option.some.inj (hv625_0.symm.trans hx625_0)
                      rw [hv625_0] at ge625_0
                      have HL625_0 := Aside0.mk (show Kd.R (Kd.int .i64) 3 _ _ _ _ (rd_L2 t618 x8_1) from ge625_0)
                      clear hv625_0 ge625_0
                      clear hcc625 hce625
                      have HR625_0 := Aside0.mk hi625_0
                      have HC625_0 := Aside0.mk hl625_0
                      clear hi625_0 hl625_0
                      replace p625 := eq_true p625
                      replace q625 := eq_true q625
                      have p626 : 0 ≤ (x9_2 : Int) := of_decide_eq_true (by first | (with_reducible assumption) | assumption)
                      have q626 : x9_2 < ((rd_L2 t618 x8_1).length : Int) := of_decide_eq_true (by first | (with_reducible assumption) | assumption)
                      obtain ⟨ad626, e626, hx626_0⟩ := Kd.at_int (by repeat (first | (with_reducible exact HR625_0.out) | (with_reducible refine Kd.C_alloc ?_ _) | (with_reducible refine Kd.C_drewN ?_ _) | (with_reducible refine Kd.C_drew ?_) | exact HR625_0.out)) x9_2 p626 q626
                      cases e626
                      replace p626 := eq_true p626
                      replace q626 := eq_true q626
                      have p627 : 0 ≤ (x8_1 : Int) := of_decide_eq_true (by first | (with_reducible assumption) | assumption)
                      have q627 : x8_1 < (t618.length : Int) := of_decide_eq_true (by first | (with_reducible assumption) | assumption)
                      obtain ⟨ad627, A627_0, c627_0, e627, hx627_0, hl627_0, hi627_0⟩ := at_L2 (Kd.S_reads' HO_5.out).2.2 x8_1 p627 q627
                      obtain rfl : ad624 = ad627 := (by injection e627)
                      obtain ⟨ce627, hce627, hMe627, hcc627⟩ := Kd.S_get HO_5.out [] x8_1 p627 (by first | exact q627 | exact of_decide_eq_true (by first | (with_reducible assumption) | assumption) | (have e_ := (Kd.S_reads' HO_5.out).1; omega))
                      obtain ⟨ve627_0, rfl, ge627_0⟩ := hMe627
                      have hv627_0 := hcc627 0 _ rfl
                      rw [Nat.add_zero, show ((Kd.slice 3 (Kd.int .i64))).sz = 1 from rfl, Nat.mul_one] at hv627_0
                      replace hv627_0 := Option.some.inj (hv627_0.symm.trans hx627_0)
                      rw [hv627_0] at ge627_0
                      have HL627_0 := Aside0.mk (show Kd.R (Kd.int .i64) 3 _ _ _ _ (rd_L2 t618 x8_1) from ge627_0)
                      clear hv627_0 ge627_0
                      clear hcc627 hce627
                      have HR627_0 := Aside0.mk hi627_0
                      have HC627_0 := Aside0.mk hl627_0
                      clear hi627_0 hl627_0
                      replace p627 := eq_true p627
                      replace q627 := eq_true q627
                      have ea_ := Option.some.inj (hx625_0.symm.trans hx627_0)
                      injection ea_ with ea_ en_ ec_
                      subst ea_
                      subst ec_
                      clear en_
                      have p628 : 0 ≤ (x9_2 : Int) := of_decide_eq_true (by first | (with_reducible assumption) | assumption)
                      have q628 : x9_2 < ((rd_L2 t618 x8_1).length : Int) := of_decide_eq_true (by first | (with_reducible assumption) | assumption)
                      obtain ⟨ad628, e628, hx628_0⟩ := Kd.at_int (by repeat (first | (with_reducible exact HR627_0.out) | (with_reducible refine Kd.C_alloc ?_ _) | (with_reducible refine Kd.C_drewN ?_ _) | (with_reducible refine Kd.C_drew ?_) | exact HR627_0.out)) x9_2 p628 q628
                      cases e628
                      replace p628 := eq_true p628
                      replace q628 := eq_true q628
                      have p629 : 0 ≤ (x8_1 : Int) := of_decide_eq_true (by first | (with_reducible assumption) | assumption)
                      have q629 : x8_1 < (t618.length : Int) := of_decide_eq_true (by first | (with_reducible assumption) | assumption)
                      obtain ⟨ad629, A629_0, c629_0, e629, hx629_0, hl629_0, hi629_0⟩ := at_L2 (Kd.S_reads' HO_5.out).2.2 x8_1 p629 q629
                      obtain rfl : ad624 = ad629 := (by injection e629)
                      obtain ⟨ce629, hce629, hMe629, hcc629⟩ := Kd.S_get HO_5.out [] x8_1 p629 (by first | exact q629 | exact of_decide_eq_true (by first | (with_reducible assumption) | assumption) | (have e_ := (Kd.S_reads' HO_5.out).1; omega))
                      obtain ⟨ve629_0, rfl, ge629_0⟩ := hMe629
                      have hv629_0 := hcc629 0 _ rfl
                      rw [Nat.add_zero, show ((Kd.slice 3 (Kd.int .i64))).sz = 1 from rfl, Nat.mul_one] at hv629_0
                      replace hv629_0 := Option.some.inj (hv629_0.symm.trans hx629_0)
                      rw [hv629_0] at ge629_0
                      have HL629_0 := Aside0.mk (show Kd.R (Kd.int .i64) 3 _ _ _ _ (rd_L2 t618 x8_1) from ge629_0)
                      clear hv629_0 ge629_0
                      clear hcc629 hce629
                      have HR629_0 := Aside0.mk hi629_0
                      have HC629_0 := Aside0.mk hl629_0
                      clear hi629_0 hl629_0
                      replace p629 := eq_true p629
                      replace q629 := eq_true q629
                      have ea_ := Option.some.inj (hx625_0.symm.trans hx629_0)
                      injection ea_ with ea_ en_ ec_
                      subst ea_
                      subst ec_
                      clear en_
                      have p630 : 0 ≤ ((ji29) : Int) := of_decide_eq_true (by first | (with_reducible assumption) | assumption)
                      have q630 : (ji29) < ((rd_L2 t618 x8_1).length : Int) := of_decide_eq_true (by first | (with_reducible assumption) | assumption)
                      obtain ⟨ad630, e630, hx630_0⟩ := Kd.at_int (by repeat (first | (with_reducible exact HR629_0.out) | (with_reducible refine Kd.C_alloc ?_ _) | (with_reducible refine Kd.C_drewN ?_ _) | (with_reducible refine Kd.C_drew ?_) | exact HR629_0.out)) (ji29) p630 q630
                      cases e630
                      replace p630 := eq_true p630
                      replace q630 := eq_true q630
                      have p631 : 0 ≤ (x8_1 : Int) := of_decide_eq_true (by first | (with_reducible assumption) | assumption)
                      have q631 : x8_1 < (t618.length : Int) := of_decide_eq_true (by first | (with_reducible assumption) | assumption)
                      obtain ⟨ad631, A631_0, c631_0, e631, hx631_0, hl631_0, hi631_0⟩ := at_L2 (Kd.S_reads' HO_5.out).2.2 x8_1 p631 q631
                      obtain rfl : ad624 = ad631 := (by injection e631)
                      obtain ⟨ce631, hce631, hMe631, hcc631⟩ := Kd.S_get HO_5.out [] x8_1 p631 (by first | exact q631 | exact of_decide_eq_true (by first | (with_reducible assumption) | assumption) | (have e_ := (Kd.S_reads' HO_5.out).1; omega))
                      obtain ⟨ve631_0, rfl, ge631_0⟩ := hMe631
                      have hv631_0 := hcc631 0 _ rfl
                      rw [Nat.add_zero, show ((Kd.slice 3 (Kd.int .i64))).sz = 1 from rfl, Nat.mul_one] at hv631_0
                      replace hv631_0 := Option.some.inj (hv631_0.symm.trans hx631_0)
                      rw [hv631_0] at ge631_0
                      have HL631_0 := Aside0.mk (show Kd.R (Kd.int .i64) 3 _ _ _ _ (rd_L2 t618 x8_1) from ge631_0)
                      clear hv631_0 ge631_0
                      clear hcc631 hce631
                      have HR631_0 := Aside0.mk hi631_0
                      have HC631_0 := Aside0.mk hl631_0
                      clear hi631_0 hl631_0
                      replace p631 := eq_true p631
                      replace q631 := eq_true q631
                      have ea_ := Option.some.inj (hx625_0.symm.trans hx631_0)
                      injection ea_ with ea_ en_ ec_
                      subst ea_
                      subst ec_
                      clear en_
                      have p632 : 0 ≤ (x9_2 : Int) := of_decide_eq_true (by first | (with_reducible assumption) | assumption)
                      have q632 : x9_2 < ((rd_L2 t618 x8_1).length : Int) := of_decide_eq_true (by first | (with_reducible assumption) | assumption)
                      obtain ⟨ad632, e632, hx632_0⟩ := Kd.at_int (by repeat (first | (with_reducible exact HR631_0.out) | (with_reducible refine Kd.C_alloc ?_ _) | (with_reducible refine Kd.C_drewN ?_ _) | (with_reducible refine Kd.C_drew ?_) | exact HR631_0.out)) x9_2 p632 q632
                      cases e632
                      replace p632 := eq_true p632
                      replace q632 := eq_true q632
                      have p633 : 0 ≤ (x8_1 : Int) := of_decide_eq_true (by first | (with_reducible assumption) | assumption)
                      have q633 : x8_1 < (t618.length : Int) := of_decide_eq_true (by first | (with_reducible assumption) | assumption)
                      obtain ⟨ad633, A633_0, c633_0, e633, hx633_0, hl633_0, hi633_0⟩ := at_L2 (Kd.S_reads' HO_5.out).2.2 x8_1 p633 q633
                      obtain rfl : ad624 = ad633 := (by injection e633)
                      obtain ⟨ce633, hce633, hMe633, hcc633⟩ := Kd.S_get HO_5.out [] x8_1 p633 (by first | exact q633 | exact of_decide_eq_true (by first | (with_reducible assumption) | assumption) | (have e_ := (Kd.S_reads' HO_5.out).1; omega))
                      obtain ⟨ve633_0, rfl, ge633_0⟩ := hMe633
                      have hv633_0 := hcc633 0 _ rfl
                      rw [Nat.add_zero, show ((Kd.slice 3 (Kd.int .i64))).sz = 1 from rfl, Nat.mul_one] at hv633_0
                      replace hv633_0 := Option.some.inj (hv633_0.symm.trans hx633_0)
                      rw [hv633_0] at ge633_0
                      have HL633_0 := Aside0.mk (show Kd.R (Kd.int .i64) 3 _ _ _ _ (rd_L2 t618 x8_1) from ge633_0)
                      clear hv633_0 ge633_0
                      clear hcc633 hce633
                      have HR633_0 := Aside0.mk hi633_0
                      have HC633_0 := Aside0.mk hl633_0
                      clear hi633_0 hl633_0
                      replace p633 := eq_true p633
                      replace q633 := eq_true q633
                      have ea_ := Option.some.inj (hx625_0.symm.trans hx633_0)
                      injection ea_ with ea_ en_ ec_
                      subst ea_
                      subst ec_
                      clear en_
                      have p634 : 0 ≤ (x9_2 : Int) := of_decide_eq_true (by first | (with_reducible assumption) | assumption)
                      have q634 : x9_2 < ((rd_L2 t618 x8_1).length : Int) := of_decide_eq_true (by first | (with_reducible assumption) | assumption)
                      obtain ⟨ad634, e634, hx634_0⟩ := Kd.at_int (by repeat (first | (with_reducible exact HR633_0.out) | (with_reducible refine Kd.C_alloc ?_ _) | (with_reducible refine Kd.C_drewN ?_ _) | (with_reducible refine Kd.C_drew ?_) | exact HR633_0.out)) x9_2 p634 q634
                      cases e634
                      replace p634 := eq_true p634
                      replace q634 := eq_true q634
                      obtain ⟨Ao38, co38, eo38⟩ := Kd.R_slice HO_6.out
                      (first | subst eo38 | (injection eo38 with f1_ f2_ f3_; have f4_ := f1_.symm; have f5_ := f3_.symm; clear f1_ f2_ f3_; subst f4_; subst f5_))
                      have p635 : 0 ≤ ((rd (rd_L2 t618 x8_1) x9_2) : Int) := of_decide_eq_true (by first | (with_reducible assumption) | assumption)
                      have q635 : (rd (rd_L2 t618 x8_1) x9_2) < (x6_2.length : Int) := of_decide_eq_true (by first | (with_reducible assumption) | assumption)
                      obtain ⟨ad635, e635, hx635_0⟩ := Kd.at_int (Kd.R_reads' HO_6.out).2.2 (rd (rd_L2 t618 x8_1) x9_2) p635 q635
                      cases e635
                      replace p635 := eq_true p635
                      replace q635 := eq_true q635
                      refine start_ (n := 55) (S := fun w' => w'.cell? ⟨gb617, 0, none⟩ = some (.int .i64 t613) ∧ w'.cell? ⟨gb617, 1, none⟩ = some (.slice Ao15 t614.length co15) ∧ w'.cell? (ad624.add (x8_1).toNat) = some (.slice (some ad626) (rd_L2 t618 x8_1).length c625_0) ∧ w'.cell? (ad626.add (x9_2).toNat) = some (.int .i64 (rd (rd_L2 t618 x8_1) x9_2)) ∧ w'.cell? (ad624.add (x8_1).toNat) = some (.slice (some ad626) (rd_L2 t618 x8_1).length c625_0) ∧ w'.cell? (ad626.add (x9_2).toNat) = some (.int .i64 (rd (rd_L2 t618 x8_1) x9_2)) ∧ w'.cell? (ad624.add (x8_1).toNat) = some (.slice (some ad626) (rd_L2 t618 x8_1).length c625_0) ∧ w'.cell? (ad626.add ((ji29)).toNat) = some (.int .i64 (rd (rd_L2 t618 x8_1) (ji29))) ∧ w'.cell? (ad624.add (x8_1).toNat) = some (.slice (some ad626) (rd_L2 t618 x8_1).length c625_0) ∧ w'.cell? (ad626.add (x9_2).toNat) = some (.int .i64 (rd (rd_L2 t618 x8_1) x9_2)) ∧ w'.cell? (ad624.add (x8_1).toNat) = some (.slice (some ad626) (rd_L2 t618 x8_1).length c625_0) ∧ w'.cell? (ad626.add (x9_2).toNat) = some (.int .i64 (rd (rd_L2 t618 x8_1) x9_2)) ∧ w'.cell? (ad635.add ((rd (rd_L2 t618 x8_1) x9_2)).toNat) = some (.int .i64 (rd x6_2 (rd (rd_L2 t618 x8_1) x9_2)))) (ds := []) #[false, false, false, false, false, false, false, false, false, false, false, false, false, false, false, false, false, false, false, false, false, false, false, false, false, false, false, false, false, false, false, false, false, false, false, false, false, false, false, false, false, false, false, false, false, false, false, false, false, false, false, false, false, false, false] (by kernel_rfl) rfl rfl ⟨(blk_cell BK617.out 0).trans rfl, (blk_cell BK617.out 1).trans rfl, hx625_0, hx626_0, hx627_0, hx628_0, hx629_0, hx630_0, hx631_0, hx632_0, hx633_0, hx634_0, hx635_0⟩ (fun hHeld => ?_); refine with_tabW wireloomlaw05_DigraphComponents.tab14 wireloomlaw05_DigraphComponents.bits14 (fun HT_ HW_ => ?_)
                      generalize wr.drew = w37 at HO_5 HO_6 HO_618001 HL624_0 BK611 BK617 HR624_0 HB HL625_0 HL627_0 HL629_0 HL631_0 HL633_0 HR625_0 HR627_0 HR629_0 HR631_0 HR633_0 hx625_0 hx626_0 hx627_0 hx628_0 hx629_0 hx630_0 hx631_0 hx632_0 hx633_0 hx634_0 hx635_0 hHeld ⊢
                      refine pV 0 47 (bz 55 0x1) HT_.out ?_
                      refine pV 1 48 (bz 55 0x3) HT_.out ?_
                      refine pV 2 49 (bz 55 0x7) HT_.out ?_
                      refine pV 4 51 (bz 55 0x17) HT_.out ?_
                      refine tV 3 50 (bz 55 0x1f) HT_.out HW_.out hHeld rfl rfl (by rintro w' ⟨s0, s1, s2, s3, s4, s5, s6, s7, s8, s9, s10, s11, s12⟩; go_simp; with_reducible rfl) ?_
                      refine pV 5 52 (bz 55 0x3f) HT_.out ?_
                      refine tV 6 53 (bz 55 0x7f) HT_.out HW_.out hHeld rfl rfl (by rintro w' ⟨s0, s1, s2, s3, s4, s5, s6, s7, s8, s9, s10, s11, s12⟩; go_simp; with_reducible rfl) ?_
                      refine pV 7 54 (bz 55 0xff) HT_.out ?_
                      refine pV 8 55 (bz 55 0x1ff) HT_.out ?_
                      refine pV 9 56 (bz 55 0x3ff) HT_.out ?_
                      refine pV 10 57 (bz 55 0x7ff) HT_.out ?_
                      refine pV 11 58 (bz 55 0xfff) HT_.out ?_
                      refine pV 13 60 (bz 55 0x2fff) HT_.out ?_
                      refine pV 16 63 (bz 55 0x12fff) HT_.out ?_
                      refine tV 12 59 (bz 55 0x13fff) HT_.out HW_.out hHeld rfl rfl (by rintro w' ⟨s0, s1, s2, s3, s4, s5, s6, s7, s8, s9, s10, s11, s12⟩; go_simp; with_reducible rfl) ?_
                      refine pV 14 61 (bz 55 0x17fff) HT_.out ?_
                      refine tV 15 62 (bz 55 0x1ffff) HT_.out HW_.out hHeld rfl rfl (by rintro w' ⟨s0, s1, s2, s3, s4, s5, s6, s7, s8, s9, s10, s11, s12⟩; go_simp; with_reducible rfl) ?_
                      refine tV 17 64 (bz 55 0x3ffff) HT_.out HW_.out hHeld rfl rfl (by rintro w' ⟨s0, s1, s2, s3, s4, s5, s6, s7, s8, s9, s10, s11, s12⟩; go_simp; with_reducible rfl) ?_
                      refine pV 18 65 (bz 55 0x7ffff) HT_.out ?_
                      refine pV 19 66 (bz 55 0xfffff) HT_.out ?_
                      refine pV 20 67 (bz 55 0x1fffff) HT_.out ?_
                      refine pV 21 68 (bz 55 0x3fffff) HT_.out ?_
                      refine pV 22 69 (bz 55 0x7fffff) HT_.out ?_
                      refine pV 23 70 (bz 55 0xffffff) HT_.out ?_
                      refine pV 24 71 (bz 55 0x1ffffff) HT_.out ?_
                      refine pV 25 72 (bz 55 0x3ffffff) HT_.out ?_
                      refine pV 26 73 (bz 55 0x7ffffff) HT_.out ?_
                      refine pV 28 75 (bz 55 0x17ffffff) HT_.out ?_
                      refine pV 29 76 (bz 55 0x37ffffff) HT_.out ?_
                      refine pV 32 79 (bz 55 0x137ffffff) HT_.out ?_
                      refine pV 33 80 (bz 55 0x337ffffff) HT_.out ?_
                      refine pV 34 81 (bz 55 0x737ffffff) HT_.out ?_
                      refine pV 36 83 (bz 55 0x1737ffffff) HT_.out ?_
                      refine tV 27 74 (bz 55 0x173fffffff) HT_.out HW_.out hHeld rfl rfl (by rintro w' ⟨s0, s1, s2, s3, s4, s5, s6, s7, s8, s9, s10, s11, s12⟩; go_simp; with_reducible rfl) ?_
                      refine pV 30 77 (bz 55 0x177fffffff) HT_.out ?_
                      refine tV 31 78 (bz 55 0x17ffffffff) HT_.out HW_.out hHeld rfl rfl (by rintro w' ⟨s0, s1, s2, s3, s4, s5, s6, s7, s8, s9, s10, s11, s12⟩; go_simp; with_reducible rfl) ?_
                      refine tV 35 82 (bz 55 0x1fffffffff) HT_.out HW_.out hHeld rfl rfl (by rintro w' ⟨s0, s1, s2, s3, s4, s5, s6, s7, s8, s9, s10, s11, s12⟩; go_simp; with_reducible rfl) ?_
                      refine pV 37 84 (bz 55 0x3fffffffff) HT_.out ?_
                      refine tV 38 85 (bz 55 0x7fffffffff) HT_.out HW_.out hHeld rfl rfl (by rintro w' ⟨s0, s1, s2, s3, s4, s5, s6, s7, s8, s9, s10, s11, s12⟩; go_simp; with_reducible rfl) ?_
                      refine pV 39 86 (bz 55 0xffffffffff) HT_.out ?_
                      refine pV 40 87 (bz 55 0x1ffffffffff) HT_.out ?_
                      refine pV 41 88 (bz 55 0x3ffffffffff) HT_.out ?_
                      refine pV 42 89 (bz 55 0x7ffffffffff) HT_.out ?_
                      refine pV 43 90 (bz 55 0xfffffffffff) HT_.out ?_
                      refine pV 44 91 (bz 55 0x1fffffffffff) HT_.out ?_
                      refine pV 45 92 (bz 55 0x3fffffffffff) HT_.out ?_
                      refine pV 46 93 (bz 55 0x7fffffffffff) HT_.out ?_
                      refine pV 48 95 (bz 55 0x17fffffffffff) HT_.out ?_
                      refine tV 47 94 (bz 55 0x1ffffffffffff) HT_.out HW_.out hHeld rfl rfl (by rintro w' ⟨s0, s1, s2, s3, s4, s5, s6, s7, s8, s9, s10, s11, s12⟩; go_simp; with_reducible rfl) ?_
                      refine pV 49 96 (bz 55 0x3ffffffffffff) HT_.out ?_
                      refine tV 50 97 (bz 55 0x7ffffffffffff) HT_.out HW_.out hHeld rfl rfl (by rintro w' ⟨s0, s1, s2, s3, s4, s5, s6, s7, s8, s9, s10, s11, s12⟩; go_simp; with_reducible rfl) ?_
                      refine pV 51 98 (bz 55 0xfffffffffffff) HT_.out ?_
                      refine tV 52 99 (bz 55 0x1fffffffffffff) HT_.out HW_.out hHeld rfl rfl (by rintro w' ⟨s0, s1, s2, s3, s4, s5, s6, s7, s8, s9, s10, s11, s12⟩; go_simp; with_reducible rfl) ?_
                      refine pV 53 100 (bz 55 0x3fffffffffffff) HT_.out ?_
                      refine pV 54 101 (bz 55 0x7fffffffffffff) HT_.out ?_
                      refine done_ (done_of HT_.out (by kernel_rfl)) ?_
                      have p636 : 0 ≤ (x8_1 : Int) := of_decide_eq_true (by first | (with_reducible assumption) | assumption)
                      have q636 : x8_1 < (t618.length : Int) := of_decide_eq_true (by first | (with_reducible assumption) | assumption)
                      obtain ⟨ad636, A636_0, c636_0, e636, hx636_0, hl636_0, hi636_0⟩ := at_L2 (Kd.S_reads' HO_5.out).2.2 x8_1 p636 q636
                      obtain rfl : ad624 = ad636 := (by injection e636)
                      obtain ⟨ce636, hce636, hMe636, hcc636⟩ := Kd.S_get HO_5.out [] x8_1 p636 (by first | exact q636 | exact of_decide_eq_true (by first | (with_reducible assumption) | assumption) | (have e_ := (Kd.S_reads' HO_5.out).1; omega))
                      obtain ⟨ve636_0, rfl, ge636_0⟩ := hMe636
                      have hv636_0 := hcc636 0 _ rfl
                      rw [Nat.add_zero, show ((Kd.slice 3 (Kd.int .i64))).sz = 1 from rfl, Nat.mul_one] at hv636_0
                      replace hv636_0 := Option.some.inj (hv636_0.symm.trans hx636_0)
                      rw [hv636_0] at ge636_0
                      have HL636_0 := Aside0.mk (show Kd.R (Kd.int .i64) 3 _ _ _ _ (rd_L2 t618 x8_1) from ge636_0)
                      clear hv636_0 ge636_0
                      clear hcc636 hce636
                      have HR636_0 := Aside0.mk hi636_0
                      have HC636_0 := Aside0.mk hl636_0
                      clear hi636_0 hl636_0
                      replace p636 := eq_true p636
                      replace q636 := eq_true q636
                      have ea_ := Option.some.inj (hx625_0.symm.trans hx636_0)
                      injection ea_ with ea_ en_ ec_
                      subst ea_
                      subst ec_
                      clear en_
                      have p637 : 0 ≤ (x9_2 : Int) := of_decide_eq_true (by first | (with_reducible assumption) | assumption)
                      have q637 : x9_2 < ((rd_L2 t618 x8_1).length : Int) := of_decide_eq_true (by first | (with_reducible assumption) | assumption)
                      obtain ⟨ad637, e637, hx637_0⟩ := Kd.at_int (by repeat (first | (with_reducible exact HR636_0.out) | (with_reducible refine Kd.C_alloc ?_ _) | (with_reducible refine Kd.C_drewN ?_ _) | (with_reducible refine Kd.C_drew ?_) | exact HR636_0.out)) x9_2 p637 q637
                      cases e637
                      replace p637 := eq_true p637
                      replace q637 := eq_true q637
                      have p36 : 0 ≤ ((rd (rd_L2 t618 x8_1) x9_2) : Int) := of_decide_eq_true (by first | (with_reducible assumption) | assumption)
                      have q36 : ((rd (rd_L2 t618 x8_1) x9_2) : Int) < ((x6_2.length : Int) : Int) := of_decide_eq_true (by first | (with_reducible assumption) | assumption)
                      obtain ⟨go36, co36, eo36, gb36, gl36, cl36, HG36⟩ := Kd.R_form HO_6.out (by omega)
                      (first | cases eo36 | (injection eo36 with ea_ en_ ec_; (first | subst ea_ | (injection ea_ with ea_; subst ea_)); subst ec_; clear en_))
                      have GB36 := Aside0.mk gb36
                      have GG36 := Aside0.mk HG36
                      clear gb36 gl36 HG36
                      (first | simp only [add_plain] at hx635_0 | skip)
                      obtain ⟨hx36_0, hf36_0⟩ := Kd.R_celln 0 HO_6.out ((rd (rd_L2 t618 x8_1) x9_2) : Int) p36 q36
                      replace p36 := eq_true p36
                      replace q36 := eq_true q36
                      obtain ⟨hy39_, hz39_⟩ := Kd.R_celln 0 HO_6.out ((rd (rd_L2 t618 x8_1) x9_2) : Int) (of_decide_eq_true (by first | (with_reducible assumption) | assumption)) (of_decide_eq_true (by first | (with_reducible assumption) | assumption))
                      have HP39 := Kd.R_putg HO_6.out ((rd (rd_L2 t618 x8_1) x9_2) : Int) (wrap64 (x8_1 + 1))
                      try go_wp2_with (first | ((with_reducible refine gate_store (t := 3) (p := 112) rfl ?_); refine store_event (t := 3) (p := 112) (v := ?vo_w40) (w1 := (w37.setCell ⟨go36, ((rd (rd_L2 t618 x8_1) x9_2) : Int).toNat, none⟩ (.int .i64 (wrap64 (x8_1 + 1))))) ?hg ?ho ?hn ?hr ?_; (case ho => rfl); (case hg => rfl); (case hn => rfl); (case hr => first | (go_simp; done) | (go_simp; rfl)); intro w40 hw; have hg : w37.grownBy w40 (some go36) := (by rw [hw]; exact HP39.2); have hp_ : Kd.R (Kd.int .i64) 3 w40 w.heap.size (fun _ => True) (.slice (some ⟨go36, 0, none⟩) x6_2.length co38) y638 := (by rw [hw, Ny638.out]; exact HP39.1); clear HP39; have n0_ := Aside0.mk (Kd.S_after (v := (.slice (some ⟨go36, 0, none⟩) x6_2.length co38)) (v1 := (.slice (some ⟨go36, 0, none⟩) x6_2.length co38)) (ok := (fun _ => True)) (by (with_reducible repeat (first | apply Kd.S_alloc | apply Kd.S_drewN | apply Kd.S_drew)); exact Kd.S_mono HO_5.out (fun _ hk => ⟨trivial, hk⟩)) hg (.inl rfl)); have n1_ := Aside0.mk (hp_); have n2_ := Aside0.mk (Kd.R_over' (v := (.slice (some ⟨go36, 0, none⟩) x6_2.length co38)) (rA HO_618001.out) (Kd.R_typed HO_6.out) (by decide) hg); have n3_ := Aside0.mk (blk_grown (g := gb611) (o := .cells #[.int .u8 a0_0, .int .u8 a0_1, .slice A0_2 l0_2.length c0_2] 24 (0, 0)) (bA BK611.out) hg (Kd.R_ne HO_6.out BK611.out (by decide))); have n4_ := Aside0.mk (blk_grown (g := gb617) (o := .cells #[.int .i64 t613, .slice Ao15 t614.length co15] 31 (0, 0)) (bA BK617.out) hg (Kd.R_ne HO_6.out BK617.out (by decide))); have n5_ := Aside0.mk (Kd.R_after (v := (.slice (some ⟨go36, 0, none⟩) x6_2.length co38)) (v1 := (.slice (some ⟨go36, 0, none⟩) x6_2.length co38)) (ok := (fun k_ => some k_ ≠ (.slice (some ad624) t618.length co21 : Value).ownBlock)) (by (with_reducible repeat (first | apply Kd.R_alloc | apply Kd.R_drewN | apply Kd.R_drew)); exact Kd.R_mono HL624_0.out (fun _ hk => ⟨hk.2, hk.1⟩)) hg (.inl rfl)); have n6_ := Aside0.mk (Kd.R_after (v := (.slice (some ⟨go36, 0, none⟩) x6_2.length co38)) (v1 := (.slice (some ⟨go36, 0, none⟩) x6_2.length co38)) (ok := (fun k_ => some k_ ≠ (.slice (some ad624) t618.length co21 : Value).ownBlock)) (by (with_reducible repeat (first | apply Kd.R_alloc | apply Kd.R_drewN | apply Kd.R_drew)); exact Kd.R_mono HL625_0.out (fun _ hk => ⟨hk.2, hk.1⟩)) hg (.inl rfl)); have n7_ := Aside0.mk (Kd.R_after (v := (.slice (some ⟨go36, 0, none⟩) x6_2.length co38)) (v1 := (.slice (some ⟨go36, 0, none⟩) x6_2.length co38)) (ok := (fun k_ => some k_ ≠ (.slice (some ad624) t618.length co21 : Value).ownBlock)) (by (with_reducible repeat (first | apply Kd.R_alloc | apply Kd.R_drewN | apply Kd.R_drew)); exact Kd.R_mono HL627_0.out (fun _ hk => ⟨hk.2, hk.1⟩)) hg (.inl rfl)); have n8_ := Aside0.mk (Kd.R_after (v := (.slice (some ⟨go36, 0, none⟩) x6_2.length co38)) (v1 := (.slice (some ⟨go36, 0, none⟩) x6_2.length co38)) (ok := (fun k_ => some k_ ≠ (.slice (some ad624) t618.length co21 : Value).ownBlock)) (by (with_reducible repeat (first | apply Kd.R_alloc | apply Kd.R_drewN | apply Kd.R_drew)); exact Kd.R_mono HL629_0.out (fun _ hk => ⟨hk.2, hk.1⟩)) hg (.inl rfl)); have n9_ := Aside0.mk (Kd.R_after (v := (.slice (some ⟨go36, 0, none⟩) x6_2.length co38)) (v1 := (.slice (some ⟨go36, 0, none⟩) x6_2.length co38)) (ok := (fun k_ => some k_ ≠ (.slice (some ad624) t618.length co21 : Value).ownBlock)) (by (with_reducible repeat (first | apply Kd.R_alloc | apply Kd.R_drewN | apply Kd.R_drew)); exact Kd.R_mono HL631_0.out (fun _ hk => ⟨hk.2, hk.1⟩)) hg (.inl rfl)); have n10_ := Aside0.mk (Kd.R_after (v := (.slice (some ⟨go36, 0, none⟩) x6_2.length co38)) (v1 := (.slice (some ⟨go36, 0, none⟩) x6_2.length co38)) (ok := (fun k_ => some k_ ≠ (.slice (some ad624) t618.length co21 : Value).ownBlock)) (by (with_reducible repeat (first | apply Kd.R_alloc | apply Kd.R_drewN | apply Kd.R_drew)); exact Kd.R_mono HL633_0.out (fun _ hk => ⟨hk.2, hk.1⟩)) hg (.inl rfl)); have n11_ := Aside0.mk (Kd.R_after (v := (.slice (some ⟨go36, 0, none⟩) x6_2.length co38)) (v1 := (.slice (some ⟨go36, 0, none⟩) x6_2.length co38)) (ok := (fun k_ => some k_ ≠ (.slice (some ad624) t618.length co21 : Value).ownBlock)) (by (with_reducible repeat (first | apply Kd.R_alloc | apply Kd.R_drewN | apply Kd.R_drew)); exact Kd.R_mono HL636_0.out (fun _ hk => ⟨hk.2, hk.1⟩)) hg (.inl rfl)); have n12_ := Aside0.mk ((by rw [hw]; exact below_set (HB.out) GB36.out : Below w.heap.size w w40)); clear HO_5; clear HO_6; clear HO_618001; clear BK611; clear BK617; clear HL624_0; clear HL625_0; clear HL627_0; clear HL629_0; clear HL631_0; clear HL633_0; clear HL636_0; clear HB; have HO_5 := n0_; have HO_6 := n1_; have HO_618001 := n2_; have BK611 := n3_; have BK617 := n4_; have HL624_0 := n5_; have HL625_0 := n6_; have HL627_0 := n7_; have HL629_0 := n8_; have HL631_0 := n9_; have HL633_0 := n10_; have HL636_0 := n11_; have HB := n12_; clear n0_ n1_ n2_ n3_ n4_ n5_ n6_ n7_ n8_ n9_ n10_ n11_ n12_; clear hg hw hp_))
                      go_roundg k2
                      case measure => have := HK1.out; have := HK2.out; omega
                      case rel => exact ⟨(y638), (wrap64 (x7_2 + 1)), (wrap64 (x9_2 + 1)), (by first | rfl | (simp; done) | (simp [*]; done)), (by first | rfl | (simp; done) | (simp [*]; done)), H', ⟨by have := HK1.out; have := HK2.out; omega⟩, ⟨by (with_reducible repeat (first | apply Kd.S_alloc | apply Kd.S_drewN | apply Kd.S_drew)); exact Kd.S_mono HO_5.out (fun _ hk => hk.2)⟩, ⟨rA HO_6.out⟩, ⟨rA HO_618001.out⟩, ⟨bA BK611.out⟩, ⟨bA BK617.out⟩, ⟨by repeat (first | (with_reducible first | exact HB.out | apply below_alloc | apply pw_below_drewN | apply below_drew1 | refine below_set ?_ GE611.out | refine below_set ?_ GE617.out) | exact HB.out)⟩⟩
                    ·rw [if_neg c34] at H
                     exact absurd H (by simp)
                   ·rw [if_neg c33] at H
                    exact absurd H (by simp)
                 ·rw [if_neg c31] at H
                  exact absurd H (by simp)
                ·rw [if_neg c30] at H
                 exact absurd H (by simp)
               ·rw [if_neg c28] at H
                have c28b0 : decide (0 < x9_2) = false := decide_eq_false c28
                clear c28
                by_cases c41 : 0 ≤ (rd (rd_L2 t618 x8_1) x9_2)
                ·rw [if_pos c41] at H
                 have c41b0 : decide (0 ≤ (rd (rd_L2 t618 x8_1) x9_2)) = true := decide_eq_true c41
                 clear c41
                 by_cases c42 : (rd (rd_L2 t618 x8_1) x9_2) < (x6_2.length : Int)
                 ·rw [if_pos c42] at H
                  have c42b0 : decide ((rd (rd_L2 t618 x8_1) x9_2) < (x6_2.length : Int)) = true := decide_eq_true c42
                  clear c42
                  by_cases c43 : (rd x6_2 (rd (rd_L2 t618 x8_1) x9_2)) > 0
                  ·rw [if_pos c43] at H
                   exact absurd H (by simp)
                  ·rw [if_neg c43] at H
                   have c43b0 : decide (0 < (rd x6_2 (rd (rd_L2 t618 x8_1) x9_2))) = false := decide_eq_false c43
                   clear c43
                   obtain ⟨y644, hy644⟩ : ∃ y_ : List Int, y_ = (x6_2.set ((rd (rd_L2 t618 x8_1) x9_2) : Int).toNat (wrap64 (x8_1 + 1))) := ⟨_, rfl⟩
                   replace H : (wireloomlaw05_DigraphComponents.l1 k2 true t618 y644 (wrap64 (x7_2 + 1)) x8_1 (wrap64 (x9_2 + 1)) t613 t614) = some r := by first | (rw [hy644]; with_reducible exact H) | (have H2_ := (Option.bind_some _ _).symm.trans H; rw [hy644]; with_reducible exact H2_) | (have H2_ := (Option.bind_some _ _).symm.trans H; with_reducible exact H2_) | with_reducible exact H | (rw [hy644]; exact H) | exact H
                   have Ny644 := Aside0.mk hy644
                   clear hy644
                   have H' := Aside0.mk H
                   clear H
                   have p624 : 0 ≤ (x8_1 : Int) := of_decide_eq_true (by first | (with_reducible assumption) | assumption)
                   have q624 : x8_1 < (t618.length : Int) := of_decide_eq_true (by first | (with_reducible assumption) | assumption)
                   obtain ⟨ad624, A624_0, c624_0, e624, hx624_0, hl624_0, hi624_0⟩ := at_L2 (Kd.S_reads' HO_5.out).2.2 x8_1 p624 q624
                   cases e624
                   obtain ⟨ce624, hce624, hMe624, hcc624⟩ := Kd.S_get HO_5.out [] x8_1 p624 (by first | exact q624 | exact of_decide_eq_true (by first | (with_reducible assumption) | assumption) | (have e_ := (Kd.S_reads' HO_5.out).1; omega))
                   obtain ⟨ve624_0, rfl, ge624_0⟩ := hMe624
                   have hv624_0 := hcc624 0 _ rfl
                   rw [Nat.add_zero, show ((Kd.slice 3 (Kd.int .i64))).sz = 1 from rfl, Nat.mul_one] at hv624_0
                   replace hv624_0 := Option.some.inj (hv624_0.symm.trans hx624_0)
                   rw [hv624_0] at ge624_0
                   have HL624_0 := Aside0.mk (show Kd.R (Kd.int .i64) 3 _ _ _ _ (rd_L2 t618 x8_1) from ge624_0)
                   clear hv624_0 ge624_0
                   clear hcc624 hce624
                   have HR624_0 := Aside0.mk hi624_0
                   have HC624_0 := Aside0.mk hl624_0
                   clear hi624_0 hl624_0
                   replace p624 := eq_true p624
                   replace q624 := eq_true q624
                   try go_wp2
                   have n0_ := Aside0.mk (Kd.S_drew HO_5.out)
                   have n1_ := Aside0.mk (Kd.R_drew HO_6.out)
                   have n2_ := Aside0.mk (Kd.R_drew HO_618001.out)
                   have n3_ := Aside0.mk (Kd.R_drew HL624_0.out)
                   have n4_ := Aside0.mk (blk_drew BK611.out)
                   have n5_ := Aside0.mk (blk_drew BK617.out)
                   have n6_ := Aside0.mk (Kd.C_drew HR624_0.out)
                   have n7_ := Aside0.mk (below_drew1 HB.out)
                   clear HO_5
                   clear HO_6
                   clear HO_618001
                   clear HL624_0
                   clear BK611
                   clear BK617
                   clear HR624_0
                   clear HB
                   have HO_5 := n0_
                   have HO_6 := n1_
                   have HO_618001 := n2_
                   have HL624_0 := n3_
                   have BK611 := n4_
                   have BK617 := n5_
                   have HR624_0 := n6_
                   have HB := n7_
                   clear n0_ n1_ n2_ n3_ n4_ n5_ n6_ n7_
                   have p625 : 0 ≤ (x8_1 : Int) := of_decide_eq_true (by first | (with_reducible assumption) | assumption)
                   have q625 : x8_1 < (t618.length : Int) := of_decide_eq_true (by first | (with_reducible assumption) | assumption)
                   obtain ⟨ad625, A625_0, c625_0, e625, hx625_0, hl625_0, hi625_0⟩ := at_L2 (Kd.S_reads' HO_5.out).2.2 x8_1 p625 q625
                   obtain rfl : ad624 = ad625 := (by injection e625)
                   obtain ⟨ce625, hce625, hMe625, hcc625⟩ := Kd.S_get HO_5.out [] x8_1 p625 (by first | exact q625 | exact of_decide_eq_true (by first | (with_reducible assumption) | assumption) | (have e_ := (Kd.S_reads' HO_5.out).1; omega))
                   obtain ⟨ve625_0, rfl, ge625_0⟩ := hMe625
                   have hv625_0 := hcc625 0 _ rfl
                   rw [Nat.add_zero, show ((Kd.slice 3 (Kd.int .i64))).sz = 1 from rfl, Nat.mul_one] at hv625_0
                   replace hv625_0 := Option.some.inj (hv625_0.symm.trans hx625_0)
                   rw [hv625_0] at ge625_0
                   have HL625_0 := Aside0.mk (show Kd.R (Kd.int .i64) 3 _ _ _ _ (rd_L2 t618 x8_1) from ge625_0)
                   clear hv625_0 ge625_0
                   clear hcc625 hce625
                   have HR625_0 := Aside0.mk hi625_0
                   have HC625_0 := Aside0.mk hl625_0
                   clear hi625_0 hl625_0
                   replace p625 := eq_true p625
                   replace q625 := eq_true q625
                   have p626 : 0 ≤ (x9_2 : Int) := of_decide_eq_true (by first | (with_reducible assumption) | assumption)
                   have q626 : x9_2 < ((rd_L2 t618 x8_1).length : Int) := of_decide_eq_true (by first | (with_reducible assumption) | assumption)
                   obtain ⟨ad626, e626, hx626_0⟩ := Kd.at_int (by repeat (first | (with_reducible exact HR625_0.out) | (with_reducible refine Kd.C_alloc ?_ _) | (with_reducible refine Kd.C_drewN ?_ _) | (with_reducible refine Kd.C_drew ?_) | exact HR625_0.out)) x9_2 p626 q626
                   cases e626
                   replace p626 := eq_true p626
                   replace q626 := eq_true q626
                   have p627 : 0 ≤ (x8_1 : Int) := of_decide_eq_true (by first | (with_reducible assumption) | assumption)
                   have q627 : x8_1 < (t618.length : Int) := of_decide_eq_true (by first | (with_reducible assumption) | assumption)
                   obtain ⟨ad627, A627_0, c627_0, e627, hx627_0, hl627_0, hi627_0⟩ := at_L2 (Kd.S_reads' HO_5.out).2.2 x8_1 p627 q627
                   obtain rfl : ad624 = ad627 := (by injection e627)
                   obtain ⟨ce627, hce627, hMe627, hcc627⟩ := Kd.S_get HO_5.out [] x8_1 p627 (by first | exact q627 | exact of_decide_eq_true (by first | (with_reducible assumption) | assumption) | (have e_ := (Kd.S_reads' HO_5.out).1; omega))
                   obtain ⟨ve627_0, rfl, ge627_0⟩ := hMe627
                   have hv627_0 := hcc627 0 _ rfl
                   rw [Nat.add_zero, show ((Kd.slice 3 (Kd.int .i64))).sz = 1 from rfl, Nat.mul_one] at hv627_0
                   replace hv627_0 := Option.some.inj (hv627_0.symm.trans hx627_0)
                   rw [hv627_0] at ge627_0
                   have HL627_0 := Aside0.mk (show Kd.R (Kd.int .i64) 3 _ _ _ _ (rd_L2 t618 x8_1) from ge627_0)
                   clear hv627_0 ge627_0
                   clear hcc627 hce627
                   have HR627_0 := Aside0.mk hi627_0
                   have HC627_0 := Aside0.mk hl627_0
                   clear hi627_0 hl627_0
                   replace p627 := eq_true p627
                   replace q627 := eq_true q627
                   have ea_ := Option.some.inj (hx625_0.symm.trans hx627_0)
                   injection ea_ with ea_ en_ ec_
                   subst ea_
                   subst ec_
                   clear en_
                   have p628 : 0 ≤ (x9_2 : Int) := of_decide_eq_true (by first | (with_reducible assumption) | assumption)
                   have q628 : x9_2 < ((rd_L2 t618 x8_1).length : Int) := of_decide_eq_true (by first | (with_reducible assumption) | assumption)
                   obtain ⟨ad628, e628, hx628_0⟩ := Kd.at_int (by repeat (first | (with_reducible exact HR627_0.out) | (with_reducible refine Kd.C_alloc ?_ _) | (with_reducible refine Kd.C_drewN ?_ _) | (with_reducible refine Kd.C_drew ?_) | exact HR627_0.out)) x9_2 p628 q628
                   cases e628
                   replace p628 := eq_true p628
                   replace q628 := eq_true q628
                   have p639 : 0 ≤ (x8_1 : Int) := of_decide_eq_true (by first | (with_reducible assumption) | assumption)
                   have q639 : x8_1 < (t618.length : Int) := of_decide_eq_true (by first | (with_reducible assumption) | assumption)
                   obtain ⟨ad639, A639_0, c639_0, e639, hx639_0, hl639_0, hi639_0⟩ := at_L2 (Kd.S_reads' HO_5.out).2.2 x8_1 p639 q639
                   obtain rfl : ad624 = ad639 := (by injection e639)
                   obtain ⟨ce639, hce639, hMe639, hcc639⟩ := Kd.S_get HO_5.out [] x8_1 p639 (by first | exact q639 | exact of_decide_eq_true (by first | (with_reducible assumption) | assumption) | (have e_ := (Kd.S_reads' HO_5.out).1; omega))
                   obtain ⟨ve639_0, rfl, ge639_0⟩ := hMe639
                   have hv639_0 := hcc639 0 _ rfl
                   rw [Nat.add_zero, show ((Kd.slice 3 (Kd.int .i64))).sz = 1 from rfl, Nat.mul_one] at hv639_0
                   replace hv639_0 := Option.some.inj (hv639_0.symm.trans hx639_0)
                   rw [hv639_0] at ge639_0
                   have HL639_0 := Aside0.mk (show Kd.R (Kd.int .i64) 3 _ _ _ _ (rd_L2 t618 x8_1) from ge639_0)
                   clear hv639_0 ge639_0
                   clear hcc639 hce639
                   have HR639_0 := Aside0.mk hi639_0
                   have HC639_0 := Aside0.mk hl639_0
                   clear hi639_0 hl639_0
                   replace p639 := eq_true p639
                   replace q639 := eq_true q639
                   have ea_ := Option.some.inj (hx625_0.symm.trans hx639_0)
                   injection ea_ with ea_ en_ ec_
                   subst ea_
                   subst ec_
                   clear en_
                   have p640 : 0 ≤ (x9_2 : Int) := of_decide_eq_true (by first | (with_reducible assumption) | assumption)
                   have q640 : x9_2 < ((rd_L2 t618 x8_1).length : Int) := of_decide_eq_true (by first | (with_reducible assumption) | assumption)
                   obtain ⟨ad640, e640, hx640_0⟩ := Kd.at_int (by repeat (first | (with_reducible exact HR639_0.out) | (with_reducible refine Kd.C_alloc ?_ _) | (with_reducible refine Kd.C_drewN ?_ _) | (with_reducible refine Kd.C_drew ?_) | exact HR639_0.out)) x9_2 p640 q640
                   cases e640
                   replace p640 := eq_true p640
                   replace q640 := eq_true q640
                   obtain ⟨Ao46, co46, eo46⟩ := Kd.R_slice HO_6.out
                   (first | subst eo46 | (injection eo46 with f1_ f2_ f3_; have f4_ := f1_.symm; have f5_ := f3_.symm; clear f1_ f2_ f3_; subst f4_; subst f5_))
                   have p641 : 0 ≤ ((rd (rd_L2 t618 x8_1) x9_2) : Int) := of_decide_eq_true (by first | (with_reducible assumption) | assumption)
                   have q641 : (rd (rd_L2 t618 x8_1) x9_2) < (x6_2.length : Int) := of_decide_eq_true (by first | (with_reducible assumption) | assumption)
                   obtain ⟨ad641, e641, hx641_0⟩ := Kd.at_int (Kd.R_reads' HO_6.out).2.2 (rd (rd_L2 t618 x8_1) x9_2) p641 q641
                   cases e641
                   replace p641 := eq_true p641
                   replace q641 := eq_true q641
                   refine start_ (n := 55) (S := fun w' => w'.cell? ⟨gb617, 0, none⟩ = some (.int .i64 t613) ∧ w'.cell? ⟨gb617, 1, none⟩ = some (.slice Ao15 t614.length co15) ∧ w'.cell? (ad624.add (x8_1).toNat) = some (.slice (some ad626) (rd_L2 t618 x8_1).length c625_0) ∧ w'.cell? (ad626.add (x9_2).toNat) = some (.int .i64 (rd (rd_L2 t618 x8_1) x9_2)) ∧ w'.cell? (ad624.add (x8_1).toNat) = some (.slice (some ad626) (rd_L2 t618 x8_1).length c625_0) ∧ w'.cell? (ad626.add (x9_2).toNat) = some (.int .i64 (rd (rd_L2 t618 x8_1) x9_2)) ∧ w'.cell? (ad624.add (x8_1).toNat) = some (.slice (some ad626) (rd_L2 t618 x8_1).length c625_0) ∧ w'.cell? (ad626.add (x9_2).toNat) = some (.int .i64 (rd (rd_L2 t618 x8_1) x9_2)) ∧ w'.cell? (ad641.add ((rd (rd_L2 t618 x8_1) x9_2)).toNat) = some (.int .i64 (rd x6_2 (rd (rd_L2 t618 x8_1) x9_2)))) (ds := []) #[false, false, false, false, false, false, false, false, false, false, false, false, false, false, false, false, false, false, false, false, false, false, false, false, false, false, false, false, false, false, false, false, false, false, false, false, false, false, false, false, false, false, false, false, false, false, false, false, false, false, false, false, false, false, false] (by kernel_rfl) rfl rfl ⟨(blk_cell BK617.out 0).trans rfl, (blk_cell BK617.out 1).trans rfl, hx625_0, hx626_0, hx627_0, hx628_0, hx639_0, hx640_0, hx641_0⟩ (fun hHeld => ?_); refine with_tabW wireloomlaw05_DigraphComponents.tab14 wireloomlaw05_DigraphComponents.bits14 (fun HT_ HW_ => ?_)
                   generalize wr.drew = w45 at HO_5 HO_6 HO_618001 HL624_0 BK611 BK617 HR624_0 HB HL625_0 HL627_0 HL639_0 HR625_0 HR627_0 HR639_0 hx625_0 hx626_0 hx627_0 hx628_0 hx639_0 hx640_0 hx641_0 hHeld ⊢
                   refine pV 0 47 (bz 55 0x1) HT_.out ?_
                   refine pV 1 48 (bz 55 0x3) HT_.out ?_
                   refine pV 2 49 (bz 55 0x7) HT_.out ?_
                   refine pV 4 51 (bz 55 0x17) HT_.out ?_
                   refine tV 3 50 (bz 55 0x1f) HT_.out HW_.out hHeld rfl rfl (by rintro w' ⟨s0, s1, s2, s3, s4, s5, s6, s7, s8⟩; go_simp; with_reducible rfl) ?_
                   refine pV 5 52 (bz 55 0x3f) HT_.out ?_
                   refine tV 6 53 (bz 55 0x7f) HT_.out HW_.out hHeld rfl rfl (by rintro w' ⟨s0, s1, s2, s3, s4, s5, s6, s7, s8⟩; go_simp; with_reducible rfl) ?_
                   refine pV 7 54 (bz 55 0xff) HT_.out ?_
                   refine pV 8 55 (bz 55 0x1ff) HT_.out ?_
                   refine pV 9 56 (bz 55 0x3ff) HT_.out ?_
                   refine pV 10 57 (bz 55 0x7ff) HT_.out ?_
                   refine pV 11 58 (bz 55 0xfff) HT_.out ?_
                   refine pV 13 60 (bz 55 0x2fff) HT_.out ?_
                   refine pV 16 63 (bz 55 0x12fff) HT_.out ?_
                   refine tV 12 59 (bz 55 0x13fff) HT_.out HW_.out hHeld rfl rfl (by rintro w' ⟨s0, s1, s2, s3, s4, s5, s6, s7, s8⟩; go_simp; with_reducible rfl) ?_
                   refine pV 14 61 (bz 55 0x17fff) HT_.out ?_
                   refine tV 15 62 (bz 55 0x1ffff) HT_.out HW_.out hHeld rfl rfl (by rintro w' ⟨s0, s1, s2, s3, s4, s5, s6, s7, s8⟩; go_simp; with_reducible rfl) ?_
                   refine tV 17 64 (bz 55 0x3ffff) HT_.out HW_.out hHeld rfl rfl (by rintro w' ⟨s0, s1, s2, s3, s4, s5, s6, s7, s8⟩; go_simp; with_reducible rfl) ?_
                   refine pV 18 65 (bz 55 0x7ffff) HT_.out ?_
                   refine pV 19 66 (bz 55 0xfffff) HT_.out ?_
                   refine pV 20 67 (bz 55 0x1fffff) HT_.out ?_
                   refine pV 21 68 (bz 55 0x3fffff) HT_.out ?_
                   refine pV 22 69 (bz 55 0x7fffff) HT_.out ?_
                   refine pV 23 70 (bz 55 0xffffff) HT_.out ?_
                   refine pU 24 71 (bz 55 0x1ffffff) HT_.out ?_
                   refine pU 25 72 (bz 55 0x3ffffff) HT_.out ?_
                   refine pU 26 73 (bz 55 0x7ffffff) HT_.out ?_
                   refine pU 27 74 (bz 55 0xfffffff) HT_.out ?_
                   refine pU 28 75 (bz 55 0x1fffffff) HT_.out ?_
                   refine pU 29 76 (bz 55 0x3fffffff) HT_.out ?_
                   refine pU 30 77 (bz 55 0x7fffffff) HT_.out ?_
                   refine pU 31 78 (bz 55 0xffffffff) HT_.out ?_
                   refine pU 32 79 (bz 55 0x1ffffffff) HT_.out ?_
                   refine pU 33 80 (bz 55 0x3ffffffff) HT_.out ?_
                   refine pU 34 81 (bz 55 0x7ffffffff) HT_.out ?_
                   refine pU 35 82 (bz 55 0xfffffffff) HT_.out ?_
                   refine pU 36 83 (bz 55 0x1fffffffff) HT_.out ?_
                   refine pU 37 84 (bz 55 0x3fffffffff) HT_.out ?_
                   refine pU 38 85 (bz 55 0x7fffffffff) HT_.out ?_
                   refine pU 39 86 (bz 55 0xffffffffff) HT_.out ?_
                   refine pV 40 87 (bz 55 0x1ffffffffff) HT_.out ?_
                   refine pV 41 88 (bz 55 0x3ffffffffff) HT_.out ?_
                   refine pV 42 89 (bz 55 0x7ffffffffff) HT_.out ?_
                   refine pV 43 90 (bz 55 0xfffffffffff) HT_.out ?_
                   refine pV 44 91 (bz 55 0x1fffffffffff) HT_.out ?_
                   refine pV 45 92 (bz 55 0x3fffffffffff) HT_.out ?_
                   refine pV 46 93 (bz 55 0x7fffffffffff) HT_.out ?_
                   refine pV 48 95 (bz 55 0x17fffffffffff) HT_.out ?_
                   refine tV 47 94 (bz 55 0x1ffffffffffff) HT_.out HW_.out hHeld rfl rfl (by rintro w' ⟨s0, s1, s2, s3, s4, s5, s6, s7, s8⟩; go_simp; with_reducible rfl) ?_
                   refine pV 49 96 (bz 55 0x3ffffffffffff) HT_.out ?_
                   refine tV 50 97 (bz 55 0x7ffffffffffff) HT_.out HW_.out hHeld rfl rfl (by rintro w' ⟨s0, s1, s2, s3, s4, s5, s6, s7, s8⟩; go_simp; with_reducible rfl) ?_
                   refine pV 51 98 (bz 55 0xfffffffffffff) HT_.out ?_
                   refine tV 52 99 (bz 55 0x1fffffffffffff) HT_.out HW_.out hHeld rfl rfl (by rintro w' ⟨s0, s1, s2, s3, s4, s5, s6, s7, s8⟩; go_simp; with_reducible rfl) ?_
                   refine pV 53 100 (bz 55 0x3fffffffffffff) HT_.out ?_
                   refine pV 54 101 (bz 55 0x7fffffffffffff) HT_.out ?_
                   refine done_ (done_of HT_.out (by kernel_rfl)) ?_
                   have p642 : 0 ≤ (x8_1 : Int) := of_decide_eq_true (by first | (with_reducible assumption) | assumption)
                   have q642 : x8_1 < (t618.length : Int) := of_decide_eq_true (by first | (with_reducible assumption) | assumption)
                   obtain ⟨ad642, A642_0, c642_0, e642, hx642_0, hl642_0, hi642_0⟩ := at_L2 (Kd.S_reads' HO_5.out).2.2 x8_1 p642 q642
                   obtain rfl : ad624 = ad642 := (by injection e642)
                   obtain ⟨ce642, hce642, hMe642, hcc642⟩ := Kd.S_get HO_5.out [] x8_1 p642 (by first | exact q642 | exact of_decide_eq_true (by first | (with_reducible assumption) | assumption) | (have e_ := (Kd.S_reads' HO_5.out).1; omega))
                   obtain ⟨ve642_0, rfl, ge642_0⟩ := hMe642
                   have hv642_0 := hcc642 0 _ rfl
                   rw [Nat.add_zero, show ((Kd.slice 3 (Kd.int .i64))).sz = 1 from rfl, Nat.mul_one] at hv642_0
                   replace hv642_0 := Option.some.inj (hv642_0.symm.trans hx642_0)
                   rw [hv642_0] at ge642_0
                   have HL642_0 := Aside0.mk (show Kd.R (Kd.int .i64) 3 _ _ _ _ (rd_L2 t618 x8_1) from ge642_0)
                   clear hv642_0 ge642_0
                   clear hcc642 hce642
                   have HR642_0 := Aside0.mk hi642_0
                   have HC642_0 := Aside0.mk hl642_0
                   clear hi642_0 hl642_0
                   replace p642 := eq_true p642
                   replace q642 := eq_true q642
                   have ea_ := Option.some.inj (hx625_0.symm.trans hx642_0)
                   injection ea_ with ea_ en_ ec_
                   subst ea_
                   subst ec_
                   clear en_
                   have p643 : 0 ≤ (x9_2 : Int) := of_decide_eq_true (by first | (with_reducible assumption) | assumption)
                   have q643 : x9_2 < ((rd_L2 t618 x8_1).length : Int) := of_decide_eq_true (by first | (with_reducible assumption) | assumption)
                   obtain ⟨ad643, e643, hx643_0⟩ := Kd.at_int (by repeat (first | (with_reducible exact HR642_0.out) | (with_reducible refine Kd.C_alloc ?_ _) | (with_reducible refine Kd.C_drewN ?_ _) | (with_reducible refine Kd.C_drew ?_) | exact HR642_0.out)) x9_2 p643 q643
                   cases e643
                   replace p643 := eq_true p643
                   replace q643 := eq_true q643
                   have p44 : 0 ≤ ((rd (rd_L2 t618 x8_1) x9_2) : Int) := of_decide_eq_true (by first | (with_reducible assumption) | assumption)
                   have q44 : ((rd (rd_L2 t618 x8_1) x9_2) : Int) < ((x6_2.length : Int) : Int) := of_decide_eq_true (by first | (with_reducible assumption) | assumption)
                   obtain ⟨go44, co44, eo44, gb44, gl44, cl44, HG44⟩ := Kd.R_form HO_6.out (by omega)
                   (first | cases eo44 | (injection eo44 with ea_ en_ ec_; (first | subst ea_ | (injection ea_ with ea_; subst ea_)); subst ec_; clear en_))
                   have GB44 := Aside0.mk gb44
                   have GG44 := Aside0.mk HG44
                   clear gb44 gl44 HG44
                   (first | simp only [add_plain] at hx641_0 | skip)
                   obtain ⟨hx44_0, hf44_0⟩ := Kd.R_celln 0 HO_6.out ((rd (rd_L2 t618 x8_1) x9_2) : Int) p44 q44
                   replace p44 := eq_true p44
                   replace q44 := eq_true q44
                   obtain ⟨hy47_, hz47_⟩ := Kd.R_celln 0 HO_6.out ((rd (rd_L2 t618 x8_1) x9_2) : Int) (of_decide_eq_true (by first | (with_reducible assumption) | assumption)) (of_decide_eq_true (by first | (with_reducible assumption) | assumption))
                   have HP47 := Kd.R_putg HO_6.out ((rd (rd_L2 t618 x8_1) x9_2) : Int) (wrap64 (x8_1 + 1))
                   try go_wp2_with (first | ((with_reducible refine gate_store (t := 3) (p := 112) rfl ?_); refine store_event (t := 3) (p := 112) (v := ?vo_w48) (w1 := (w45.setCell ⟨go44, ((rd (rd_L2 t618 x8_1) x9_2) : Int).toNat, none⟩ (.int .i64 (wrap64 (x8_1 + 1))))) ?hg ?ho ?hn ?hr ?_; (case ho => rfl); (case hg => rfl); (case hn => rfl); (case hr => first | (go_simp; done) | (go_simp; rfl)); intro w48 hw; have hg : w45.grownBy w48 (some go44) := (by rw [hw]; exact HP47.2); have hp_ : Kd.R (Kd.int .i64) 3 w48 w.heap.size (fun _ => True) (.slice (some ⟨go44, 0, none⟩) x6_2.length co46) y644 := (by rw [hw, Ny644.out]; exact HP47.1); clear HP47; have n0_ := Aside0.mk (Kd.S_after (v := (.slice (some ⟨go44, 0, none⟩) x6_2.length co46)) (v1 := (.slice (some ⟨go44, 0, none⟩) x6_2.length co46)) (ok := (fun _ => True)) (by (with_reducible repeat (first | apply Kd.S_alloc | apply Kd.S_drewN | apply Kd.S_drew)); exact Kd.S_mono HO_5.out (fun _ hk => ⟨trivial, hk⟩)) hg (.inl rfl)); have n1_ := Aside0.mk (hp_); have n2_ := Aside0.mk (Kd.R_over' (v := (.slice (some ⟨go44, 0, none⟩) x6_2.length co46)) (rA HO_618001.out) (Kd.R_typed HO_6.out) (by decide) hg); have n3_ := Aside0.mk (blk_grown (g := gb611) (o := .cells #[.int .u8 a0_0, .int .u8 a0_1, .slice A0_2 l0_2.length c0_2] 24 (0, 0)) (bA BK611.out) hg (Kd.R_ne HO_6.out BK611.out (by decide))); have n4_ := Aside0.mk (blk_grown (g := gb617) (o := .cells #[.int .i64 t613, .slice Ao15 t614.length co15] 31 (0, 0)) (bA BK617.out) hg (Kd.R_ne HO_6.out BK617.out (by decide))); have n5_ := Aside0.mk (Kd.R_after (v := (.slice (some ⟨go44, 0, none⟩) x6_2.length co46)) (v1 := (.slice (some ⟨go44, 0, none⟩) x6_2.length co46)) (ok := (fun k_ => some k_ ≠ (.slice (some ad624) t618.length co21 : Value).ownBlock)) (by (with_reducible repeat (first | apply Kd.R_alloc | apply Kd.R_drewN | apply Kd.R_drew)); exact Kd.R_mono HL624_0.out (fun _ hk => ⟨hk.2, hk.1⟩)) hg (.inl rfl)); have n6_ := Aside0.mk (Kd.R_after (v := (.slice (some ⟨go44, 0, none⟩) x6_2.length co46)) (v1 := (.slice (some ⟨go44, 0, none⟩) x6_2.length co46)) (ok := (fun k_ => some k_ ≠ (.slice (some ad624) t618.length co21 : Value).ownBlock)) (by (with_reducible repeat (first | apply Kd.R_alloc | apply Kd.R_drewN | apply Kd.R_drew)); exact Kd.R_mono HL625_0.out (fun _ hk => ⟨hk.2, hk.1⟩)) hg (.inl rfl)); have n7_ := Aside0.mk (Kd.R_after (v := (.slice (some ⟨go44, 0, none⟩) x6_2.length co46)) (v1 := (.slice (some ⟨go44, 0, none⟩) x6_2.length co46)) (ok := (fun k_ => some k_ ≠ (.slice (some ad624) t618.length co21 : Value).ownBlock)) (by (with_reducible repeat (first | apply Kd.R_alloc | apply Kd.R_drewN | apply Kd.R_drew)); exact Kd.R_mono HL627_0.out (fun _ hk => ⟨hk.2, hk.1⟩)) hg (.inl rfl)); have n8_ := Aside0.mk (Kd.R_after (v := (.slice (some ⟨go44, 0, none⟩) x6_2.length co46)) (v1 := (.slice (some ⟨go44, 0, none⟩) x6_2.length co46)) (ok := (fun k_ => some k_ ≠ (.slice (some ad624) t618.length co21 : Value).ownBlock)) (by (with_reducible repeat (first | apply Kd.R_alloc | apply Kd.R_drewN | apply Kd.R_drew)); exact Kd.R_mono HL639_0.out (fun _ hk => ⟨hk.2, hk.1⟩)) hg (.inl rfl)); have n9_ := Aside0.mk (Kd.R_after (v := (.slice (some ⟨go44, 0, none⟩) x6_2.length co46)) (v1 := (.slice (some ⟨go44, 0, none⟩) x6_2.length co46)) (ok := (fun k_ => some k_ ≠ (.slice (some ad624) t618.length co21 : Value).ownBlock)) (by (with_reducible repeat (first | apply Kd.R_alloc | apply Kd.R_drewN | apply Kd.R_drew)); exact Kd.R_mono HL642_0.out (fun _ hk => ⟨hk.2, hk.1⟩)) hg (.inl rfl)); have n10_ := Aside0.mk ((by rw [hw]; exact below_set (HB.out) GB44.out : Below w.heap.size w w48)); clear HO_5; clear HO_6; clear HO_618001; clear BK611; clear BK617; clear HL624_0; clear HL625_0; clear HL627_0; clear HL639_0; clear HL642_0; clear HB; have HO_5 := n0_; have HO_6 := n1_; have HO_618001 := n2_; have BK611 := n3_; have BK617 := n4_; have HL624_0 := n5_; have HL625_0 := n6_; have HL627_0 := n7_; have HL639_0 := n8_; have HL642_0 := n9_; have HB := n10_; clear n0_ n1_ n2_ n3_ n4_ n5_ n6_ n7_ n8_ n9_ n10_; clear hg hw hp_))
                   go_roundg k2
                   case measure => have := HK1.out; have := HK2.out; omega
                   case rel => exact ⟨(y644), (wrap64 (x7_2 + 1)), (wrap64 (x9_2 + 1)), (by first | rfl | (simp; done) | (simp [*]; done)), (by first | rfl | (simp; done) | (simp [*]; done)), H', ⟨by have := HK1.out; have := HK2.out; omega⟩, ⟨by (with_reducible repeat (first | apply Kd.S_alloc | apply Kd.S_drewN | apply Kd.S_drew)); exact Kd.S_mono HO_5.out (fun _ hk => hk.2)⟩, ⟨rA HO_6.out⟩, ⟨rA HO_618001.out⟩, ⟨bA BK611.out⟩, ⟨bA BK617.out⟩, ⟨by repeat (first | (with_reducible first | exact HB.out | apply below_alloc | apply pw_below_drewN | apply below_drew1 | refine below_set ?_ GE611.out | refine below_set ?_ GE617.out) | exact HB.out)⟩⟩
                 ·rw [if_neg c42] at H
                  exact absurd H (by simp)
                ·rw [if_neg c41] at H
                 exact absurd H (by simp)
            ·rw [if_neg c25] at H
             exact absurd H (by simp)
           ·rw [if_neg c24] at H
            have c24b0 : decide (x9_2 < ((rd_L2 t618 x8_1).length : Int)) = false := decide_eq_false c24
            clear c24
            by_cases c49 : ((rd_L2 t618 x8_1).length : Int) = 0
            ·rw [if_pos c49] at H
             exact absurd H (by simp)
            ·rw [if_neg c49] at H
             have c49b0 : (((rd_L2 t618 x8_1).length : Int) == 0) = false := beq_eq_false_iff_ne.mpr c49
             have c49b1 : (((rd_L2 t618 x8_1).length : Int) != 0) = true := bne_iff_ne.mpr c49
             have c49b2 : ¬ ((rd_L2 t618 x8_1) = []) := fun h_ => c49 (by rw [h_]; rfl)
             by_cases c50 : x8_1 > 0
             ·rw [if_pos c50] at H
              have c50b0 : decide (0 < x8_1) = true := decide_eq_true c50
              clear c50
              obtain ⟨ji51, hji51⟩ : ∃ j_ : Int, (wrap64 (x8_1 - 1)) = j_ := ⟨_, rfl⟩
              replace H : (if 0 ≤ (ji51) then (if (ji51) < (t618.length : Int) then (if 0 < ((rd_L2 t618 (ji51)).length : Int) then (if 0 < ((rd_L2 t618 x8_1).length : Int) then (if (rd (rd_L2 t618 (ji51)) 0) ≥ (rd (rd_L2 t618 x8_1) 0) then (none) else (wireloomlaw05_DigraphComponents.l0 k2 true t618 x6_2 x7_2 (wrap64 (x8_1 + 1)) t613 t614)) else (none)) else (none)) else (none)) else (none)) = some r := by first | (rw [hji51] at H; exact H) | (simp only [hji51] at H ⊢; exact H)
              have hji51w : (IntKind.i64.wrap (x8_1 - 1)) = ji51 := (i64_w _).trans hji51
              by_cases c52 : 0 ≤ (ji51)
              ·rw [if_pos c52] at H
               have c52b0 : decide (0 ≤ (ji51)) = true := decide_eq_true c52
               clear c52
               by_cases c53 : (ji51) < (t618.length : Int)
               ·rw [if_pos c53] at H
                have c53b0 : decide ((ji51) < (t618.length : Int)) = true := decide_eq_true c53
                clear c53
                by_cases c54 : 0 < ((rd_L2 t618 (ji51)).length : Int)
                ·rw [if_pos c54] at H
                 have c54b0 : decide (0 < ((rd_L2 t618 (ji51)).length : Int)) = true := decide_eq_true c54
                 have c54b1 : decide (0 < (rd_L2 t618 (ji51)).length) = true := decide_eq_true (by omega)
                 clear c54
                 by_cases c55 : 0 < ((rd_L2 t618 x8_1).length : Int)
                 ·rw [if_pos c55] at H
                  have c55b0 : decide (0 < ((rd_L2 t618 x8_1).length : Int)) = true := decide_eq_true c55
                  have c55b1 : decide (0 < (rd_L2 t618 x8_1).length) = true := decide_eq_true (by omega)
                  clear c55
                  by_cases c56 : (rd (rd_L2 t618 (ji51)) 0) ≥ (rd (rd_L2 t618 x8_1) 0)
                  ·rw [if_pos c56] at H
                   exact absurd H (by simp)
                  ·rw [if_neg c56] at H
                   have c56b0 : decide ((rd (rd_L2 t618 x8_1) 0) ≤ (rd (rd_L2 t618 (ji51)) 0)) = false := decide_eq_false c56
                   clear c56
                   have H' := Aside0.mk H
                   clear H
                   have p624 : 0 ≤ (x8_1 : Int) := of_decide_eq_true (by first | (with_reducible assumption) | assumption)
                   have q624 : x8_1 < (t618.length : Int) := of_decide_eq_true (by first | (with_reducible assumption) | assumption)
                   obtain ⟨ad624, A624_0, c624_0, e624, hx624_0, hl624_0, hi624_0⟩ := at_L2 (Kd.S_reads' HO_5.out).2.2 x8_1 p624 q624
                   cases e624
                   obtain ⟨ce624, hce624, hMe624, hcc624⟩ := Kd.S_get HO_5.out [] x8_1 p624 (by first | exact q624 | exact of_decide_eq_true (by first | (with_reducible assumption) | assumption) | (have e_ := (Kd.S_reads' HO_5.out).1; omega))
                   obtain ⟨ve624_0, rfl, ge624_0⟩ := hMe624
                   have hv624_0 := hcc624 0 _ rfl
                   rw [Nat.add_zero, show ((Kd.slice 3 (Kd.int .i64))).sz = 1 from rfl, Nat.mul_one] at hv624_0
                   replace hv624_0 := Option.some.inj (hv624_0.symm.trans hx624_0)
                   rw [hv624_0] at ge624_0
                   have HL624_0 := Aside0.mk (show Kd.R (Kd.int .i64) 3 _ _ _ _ (rd_L2 t618 x8_1) from ge624_0)
                   clear hv624_0 ge624_0
                   clear hcc624 hce624
                   have HR624_0 := Aside0.mk hi624_0
                   have HC624_0 := Aside0.mk hl624_0
                   clear hi624_0 hl624_0
                   replace p624 := eq_true p624
                   replace q624 := eq_true q624
                   try go_wp2
                   have n0_ := Aside0.mk (Kd.S_drew HO_5.out)
                   have n1_ := Aside0.mk (Kd.R_drew HO_6.out)
                   have n2_ := Aside0.mk (Kd.R_drew HO_618001.out)
                   have n3_ := Aside0.mk (Kd.R_drew HL624_0.out)
                   have n4_ := Aside0.mk (blk_drew BK611.out)
                   have n5_ := Aside0.mk (blk_drew BK617.out)
                   have n6_ := Aside0.mk (Kd.C_drew HR624_0.out)
                   have n7_ := Aside0.mk (below_drew1 HB.out)
                   clear HO_5
                   clear HO_6
                   clear HO_618001
                   clear HL624_0
                   clear BK611
                   clear BK617
                   clear HR624_0
                   clear HB
                   have HO_5 := n0_
                   have HO_6 := n1_
                   have HO_618001 := n2_
                   have HL624_0 := n3_
                   have BK611 := n4_
                   have BK617 := n5_
                   have HR624_0 := n6_
                   have HB := n7_
                   clear n0_ n1_ n2_ n3_ n4_ n5_ n6_ n7_
                   have p645 : 0 ≤ (x8_1 : Int) := of_decide_eq_true (by first | (with_reducible assumption) | assumption)
                   have q645 : x8_1 < (t618.length : Int) := of_decide_eq_true (by first | (with_reducible assumption) | assumption)
                   obtain ⟨ad645, A645_0, c645_0, e645, hx645_0, hl645_0, hi645_0⟩ := at_L2 (Kd.S_reads' HO_5.out).2.2 x8_1 p645 q645
                   obtain rfl : ad624 = ad645 := (by injection e645)
                   obtain ⟨ce645, hce645, hMe645, hcc645⟩ := Kd.S_get HO_5.out [] x8_1 p645 (by first | exact q645 | exact of_decide_eq_true (by first | (with_reducible assumption) | assumption) | (have e_ := (Kd.S_reads' HO_5.out).1; omega))
                   obtain ⟨ve645_0, rfl, ge645_0⟩ := hMe645
                   have hv645_0 := hcc645 0 _ rfl
                   rw [Nat.add_zero, show ((Kd.slice 3 (Kd.int .i64))).sz = 1 from rfl, Nat.mul_one] at hv645_0
                   replace hv645_0 := Option.some.inj (hv645_0.symm.trans hx645_0)
                   rw [hv645_0] at ge645_0
                   have HL645_0 := Aside0.mk (show Kd.R (Kd.int .i64) 3 _ _ _ _ (rd_L2 t618 x8_1) from ge645_0)
                   clear hv645_0 ge645_0
                   clear hcc645 hce645
                   have HR645_0 := Aside0.mk hi645_0
                   have HC645_0 := Aside0.mk hl645_0
                   clear hi645_0 hl645_0
                   replace p645 := eq_true p645
                   replace q645 := eq_true q645
                   have p646 : 0 ≤ ((ji51) : Int) := of_decide_eq_true (by first | (with_reducible assumption) | assumption)
                   have q646 : (ji51) < (t618.length : Int) := of_decide_eq_true (by first | (with_reducible assumption) | assumption)
                   obtain ⟨ad646, A646_0, c646_0, e646, hx646_0, hl646_0, hi646_0⟩ := at_L2 (Kd.S_reads' HO_5.out).2.2 (ji51) p646 q646
                   obtain rfl : ad624 = ad646 := (by injection e646)
                   obtain ⟨ce646, hce646, hMe646, hcc646⟩ := Kd.S_get HO_5.out [] (ji51) p646 (by first | exact q646 | exact of_decide_eq_true (by first | (with_reducible assumption) | assumption) | (have e_ := (Kd.S_reads' HO_5.out).1; omega))
                   obtain ⟨ve646_0, rfl, ge646_0⟩ := hMe646
                   have hv646_0 := hcc646 0 _ rfl
                   rw [Nat.add_zero, show ((Kd.slice 3 (Kd.int .i64))).sz = 1 from rfl, Nat.mul_one] at hv646_0
                   replace hv646_0 := Option.some.inj (hv646_0.symm.trans hx646_0)
                   rw [hv646_0] at ge646_0
                   have HL646_0 := Aside0.mk (show Kd.R (Kd.int .i64) 3 _ _ _ _ (rd_L2 t618 (ji51)) from ge646_0)
                   clear hv646_0 ge646_0
                   clear hcc646 hce646
                   have HR646_0 := Aside0.mk hi646_0
                   have HC646_0 := Aside0.mk hl646_0
                   clear hi646_0 hl646_0
                   replace p646 := eq_true p646
                   replace q646 := eq_true q646
                   have p647 : 0 ≤ (0 : Int) := (by omega)
                   have q647 : 0 < ((rd_L2 t618 (ji51)).length : Int) := of_decide_eq_true (by first | (with_reducible assumption) | assumption)
                   obtain ⟨ad647, e647, hx647_0⟩ := Kd.at_int (by repeat (first | (with_reducible exact HR646_0.out) | (with_reducible refine Kd.C_alloc ?_ _) | (with_reducible refine Kd.C_drewN ?_ _) | (with_reducible refine Kd.C_drew ?_) | exact HR646_0.out)) 0 p647 q647
                   cases e647
                   have qi647 : (0 < (rd_L2 t618 (ji51)).length) = True := eq_true (by omega)
                   (try rw [show ((0 : Int)).toNat = 0 from rfl] at hx647_0)
                   (try rw [Addr.add_zero'] at hx647_0)
                   replace p647 := eq_true p647
                   replace q647 := eq_true q647
                   have p648 : 0 ≤ (x8_1 : Int) := of_decide_eq_true (by first | (with_reducible assumption) | assumption)
                   have q648 : x8_1 < (t618.length : Int) := of_decide_eq_true (by first | (with_reducible assumption) | assumption)
                   obtain ⟨ad648, A648_0, c648_0, e648, hx648_0, hl648_0, hi648_0⟩ := at_L2 (Kd.S_reads' HO_5.out).2.2 x8_1 p648 q648
                   obtain rfl : ad624 = ad648 := (by injection e648)
                   obtain ⟨ce648, hce648, hMe648, hcc648⟩ := Kd.S_get HO_5.out [] x8_1 p648 (by first | exact q648 | exact of_decide_eq_true (by first | (with_reducible assumption) | assumption) | (have e_ := (Kd.S_reads' HO_5.out).1; omega))
                   obtain ⟨ve648_0, rfl, ge648_0⟩ := hMe648
                   have hv648_0 := hcc648 0 _ rfl
                   rw [Nat.add_zero, show ((Kd.slice 3 (Kd.int .i64))).sz = 1 from rfl, Nat.mul_one] at hv648_0
                   replace hv648_0 := Option.some.inj (hv648_0.symm.trans hx648_0)
                   rw [hv648_0] at ge648_0
                   have HL648_0 := Aside0.mk (show Kd.R (Kd.int .i64) 3 _ _ _ _ (rd_L2 t618 x8_1) from ge648_0)
                   clear hv648_0 ge648_0
                   clear hcc648 hce648
                   have HR648_0 := Aside0.mk hi648_0
                   have HC648_0 := Aside0.mk hl648_0
                   clear hi648_0 hl648_0
                   replace p648 := eq_true p648
                   replace q648 := eq_true q648
                   have ea_ := Option.some.inj (hx645_0.symm.trans hx648_0)
                   injection ea_ with ea_ en_ ec_
                   subst ea_
                   subst ec_
                   clear en_
                   have p649 : 0 ≤ (0 : Int) := (by omega)
                   have q649 : 0 < ((rd_L2 t618 x8_1).length : Int) := of_decide_eq_true (by first | (with_reducible assumption) | assumption)
                   obtain ⟨ad649, e649, hx649_0⟩ := Kd.at_int (by repeat (first | (with_reducible exact HR648_0.out) | (with_reducible refine Kd.C_alloc ?_ _) | (with_reducible refine Kd.C_drewN ?_ _) | (with_reducible refine Kd.C_drew ?_) | exact HR648_0.out)) 0 p649 q649
                   cases e649
                   have qi649 : (0 < (rd_L2 t618 x8_1).length) = True := eq_true (by omega)
                   (try rw [show ((0 : Int)).toNat = 0 from rfl] at hx649_0)
                   (try rw [Addr.add_zero'] at hx649_0)
                   replace p649 := eq_true p649
                   replace q649 := eq_true q649
                   refine start_ (n := 26) (S := fun w' => w'.cell? (ad624.add (x8_1).toNat) = some (.slice (some ad649) (rd_L2 t618 x8_1).length c645_0) ∧ w'.cell? (ad624.add ((ji51)).toNat) = some (.slice (some ad647) (rd_L2 t618 (ji51)).length c646_0) ∧ w'.cell? ad647 = some (.int .i64 (rd (rd_L2 t618 (ji51)) 0)) ∧ w'.cell? (ad624.add (x8_1).toNat) = some (.slice (some ad649) (rd_L2 t618 x8_1).length c645_0) ∧ w'.cell? ad649 = some (.int .i64 (rd (rd_L2 t618 x8_1) 0))) (ds := []) #[false, false, false, false, false, false, false, false, false, false, false, false, false, false, false, false, false, false, false, false, false, false, false, false, false, false] (by kernel_rfl) rfl rfl ⟨hx645_0, hx646_0, hx647_0, hx648_0, hx649_0⟩ (fun hHeld => ?_); refine with_tabW wireloomlaw05_DigraphComponents.tab18 wireloomlaw05_DigraphComponents.bits18 (fun HT_ HW_ => ?_)
                   generalize wr.drew = w57 at HO_5 HO_6 HO_618001 HL624_0 BK611 BK617 HR624_0 HB HL645_0 HL646_0 HL648_0 HR645_0 HR646_0 HR648_0 hx645_0 hx646_0 hx647_0 hx648_0 hx649_0 hHeld ⊢
                   refine pV 0 115 (bz 26 0x1) HT_.out ?_
                   refine pV 1 116 (bz 26 0x3) HT_.out ?_
                   refine pV 2 117 (bz 26 0x7) HT_.out ?_
                   refine tV 3 118 (bz 26 0xf) HT_.out HW_.out hHeld rfl rfl (by rintro w' ⟨s0, s1, s2, s3, s4⟩; go_simp; with_reducible rfl) ?_
                   refine pV 4 119 (bz 26 0x1f) HT_.out ?_
                   refine pV 5 120 (bz 26 0x3f) HT_.out ?_
                   refine pV 6 121 (bz 26 0x7f) HT_.out ?_
                   refine pV 7 122 (bz 26 0xff) HT_.out ?_
                   refine pV 8 123 (bz 26 0x1ff) HT_.out ?_
                   refine pV 9 124 (bz 26 0x3ff) HT_.out ?_
                   refine pV 10 125 (bz 26 0x7ff) HT_.out ?_
                   refine pV 11 126 (bz 26 0xfff) HT_.out ?_
                   refine pV 12 127 (bz 26 0x1fff) HT_.out ?_
                   refine pV 13 128 (bz 26 0x3fff) HT_.out ?_
                   refine pV 17 132 (bz 26 0x23fff) HT_.out ?_
                   refine pV 18 133 (bz 26 0x63fff) HT_.out ?_
                   refine pV 19 134 (bz 26 0xe3fff) HT_.out ?_
                   refine tV 14 129 (bz 26 0xe7fff) HT_.out HW_.out hHeld rfl rfl (by rintro w' ⟨s0, s1, s2, s3, s4⟩; go_simp; with_reducible rfl) ?_
                   refine pV 15 130 (bz 26 0xeffff) HT_.out ?_
                   refine tV 16 131 (bz 26 0xfffff) HT_.out HW_.out hHeld rfl rfl (by rintro w' ⟨s0, s1, s2, s3, s4⟩; go_simp; with_reducible rfl) ?_
                   refine tV 20 135 (bz 26 0x1fffff) HT_.out HW_.out hHeld rfl rfl (by rintro w' ⟨s0, s1, s2, s3, s4⟩; go_simp; with_reducible rfl) ?_
                   refine pV 21 136 (bz 26 0x3fffff) HT_.out ?_
                   refine tV 22 137 (bz 26 0x7fffff) HT_.out HW_.out hHeld rfl rfl (by rintro w' ⟨s0, s1, s2, s3, s4⟩; go_simp; with_reducible rfl) ?_
                   refine pV 23 138 (bz 26 0xffffff) HT_.out ?_
                   refine pV 24 139 (bz 26 0x1ffffff) HT_.out ?_
                   refine pV 25 140 (bz 26 0x3ffffff) HT_.out ?_
                   refine done_ (done_of HT_.out (by kernel_rfl)) ?_
                   try go_wp2
                   go_roundg k2
                   case measure => have := HK1.out; have := HK2.out; omega
                   case rel => exact ⟨(x6_2), (x7_2), (wrap64 (x8_1 + 1)), (by first | rfl | (simp; done) | (simp [*]; done)), (by first | rfl | (simp; done) | (simp [*]; done)), H', ⟨by have := HK1.out; have := HK2.out; omega⟩, ⟨by (with_reducible repeat (first | apply Kd.S_alloc | apply Kd.S_drewN | apply Kd.S_drew)); first | exact HO_5.out | exact Kd.S_mono HO_5.out (fun _ hk => ⟨hk.2, hk.1⟩)⟩, ⟨rA HO_6.out⟩, ⟨rA HO_618001.out⟩, ⟨bA BK611.out⟩, ⟨bA BK617.out⟩, ⟨by repeat (first | (with_reducible first | exact HB.out | apply below_alloc | apply pw_below_drewN | apply below_drew1 | refine below_set ?_ GE611.out | refine below_set ?_ GE617.out) | exact HB.out)⟩⟩
                 ·rw [if_neg c55] at H
                  exact absurd H (by simp)
                ·rw [if_neg c54] at H
                 exact absurd H (by simp)
               ·rw [if_neg c53] at H
                exact absurd H (by simp)
              ·rw [if_neg c52] at H
               exact absurd H (by simp)
             ·rw [if_neg c50] at H
              have c50b0 : decide (0 < x8_1) = false := decide_eq_false c50
              clear c50
              have H' := Aside0.mk H
              clear H
              have p624 : 0 ≤ (x8_1 : Int) := of_decide_eq_true (by first | (with_reducible assumption) | assumption)
              have q624 : x8_1 < (t618.length : Int) := of_decide_eq_true (by first | (with_reducible assumption) | assumption)
              obtain ⟨ad624, A624_0, c624_0, e624, hx624_0, hl624_0, hi624_0⟩ := at_L2 (Kd.S_reads' HO_5.out).2.2 x8_1 p624 q624
              cases e624
              obtain ⟨ce624, hce624, hMe624, hcc624⟩ := Kd.S_get HO_5.out [] x8_1 p624 (by first | exact q624 | exact of_decide_eq_true (by first | (with_reducible assumption) | assumption) | (have e_ := (Kd.S_reads' HO_5.out).1; omega))
              obtain ⟨ve624_0, rfl, ge624_0⟩ := hMe624
              have hv624_0 := hcc624 0 _ rfl
              rw [Nat.add_zero, show ((Kd.slice 3 (Kd.int .i64))).sz = 1 from rfl, Nat.mul_one] at hv624_0
              replace hv624_0 := Option.some.inj (hv624_0.symm.trans hx624_0)
              rw [hv624_0] at ge624_0
              have HL624_0 := Aside0.mk (show Kd.R (Kd.int .i64) 3 _ _ _ _ (rd_L2 t618 x8_1) from ge624_0)
              clear hv624_0 ge624_0
              clear hcc624 hce624
              have HR624_0 := Aside0.mk hi624_0
              have HC624_0 := Aside0.mk hl624_0
              clear hi624_0 hl624_0
              replace p624 := eq_true p624
              replace q624 := eq_true q624
              try go_wp2
              have n0_ := Aside0.mk (Kd.S_drew HO_5.out)
              have n1_ := Aside0.mk (Kd.R_drew HO_6.out)
              have n2_ := Aside0.mk (Kd.R_drew HO_618001.out)
              have n3_ := Aside0.mk (Kd.R_drew HL624_0.out)
              have n4_ := Aside0.mk (blk_drew BK611.out)
              have n5_ := Aside0.mk (blk_drew BK617.out)
              have n6_ := Aside0.mk (Kd.C_drew HR624_0.out)
              have n7_ := Aside0.mk (below_drew1 HB.out)
              clear HO_5
              clear HO_6
              clear HO_618001
              clear HL624_0
              clear BK611
              clear BK617
              clear HR624_0
              clear HB
              have HO_5 := n0_
              have HO_6 := n1_
              have HO_618001 := n2_
              have HL624_0 := n3_
              have BK611 := n4_
              have BK617 := n5_
              have HR624_0 := n6_
              have HB := n7_
              clear n0_ n1_ n2_ n3_ n4_ n5_ n6_ n7_
              have p645 : 0 ≤ (x8_1 : Int) := of_decide_eq_true (by first | (with_reducible assumption) | assumption)
              have q645 : x8_1 < (t618.length : Int) := of_decide_eq_true (by first | (with_reducible assumption) | assumption)
              obtain ⟨ad645, A645_0, c645_0, e645, hx645_0, hl645_0, hi645_0⟩ := at_L2 (Kd.S_reads' HO_5.out).2.2 x8_1 p645 q645
              obtain rfl : ad624 = ad645 := (by injection e645)
              obtain ⟨ce645, hce645, hMe645, hcc645⟩ := Kd.S_get HO_5.out [] x8_1 p645 (by first | exact q645 | exact of_decide_eq_true (by first | (with_reducible assumption) | assumption) | (have e_ := (Kd.S_reads' HO_5.out).1; omega))
              obtain ⟨ve645_0, rfl, ge645_0⟩ := hMe645
              have hv645_0 := hcc645 0 _ rfl
              rw [Nat.add_zero, show ((Kd.slice 3 (Kd.int .i64))).sz = 1 from rfl, Nat.mul_one] at hv645_0
              replace hv645_0 := Option.some.inj (hv645_0.symm.trans hx645_0)
              rw [hv645_0] at ge645_0
              have HL645_0 := Aside0.mk (show Kd.R (Kd.int .i64) 3 _ _ _ _ (rd_L2 t618 x8_1) from ge645_0)
              clear hv645_0 ge645_0
              clear hcc645 hce645
              have HR645_0 := Aside0.mk hi645_0
              have HC645_0 := Aside0.mk hl645_0
              clear hi645_0 hl645_0
              replace p645 := eq_true p645
              replace q645 := eq_true q645
              refine start_ (n := 26) (S := fun w' => w'.cell? (ad624.add (x8_1).toNat) = some (.slice A645_0 (rd_L2 t618 x8_1).length c645_0)) (ds := []) #[false, false, false, false, false, false, false, false, false, false, false, false, false, false, false, false, false, false, false, false, false, false, false, false, false, false] (by kernel_rfl) rfl rfl (hx645_0) (fun hHeld => ?_); refine with_tabW wireloomlaw05_DigraphComponents.tab18 wireloomlaw05_DigraphComponents.bits18 (fun HT_ HW_ => ?_)
              generalize wr.drew = w58 at HO_5 HO_6 HO_618001 HL624_0 BK611 BK617 HR624_0 HB HL645_0 HR645_0 hx645_0 hHeld ⊢
              refine pV 0 115 (bz 26 0x1) HT_.out ?_
              refine pV 1 116 (bz 26 0x3) HT_.out ?_
              refine pV 2 117 (bz 26 0x7) HT_.out ?_
              refine take_ (i := 3) (N := some 118) (v := ?_) (a' := ?_) (bz 26 0xf) rfl rfl (take_ofW HT_.out HW_.out (by kernel_rfl)) (fun _ _ _ h => h) (Or.inl ⟨by rfl, ?_⟩) hHeld ?_ ?_
              rotate_left
              ·intro w' s0
               go_simp
               with_reducible rfl
              rotate_left
              ·simp only [Act.put, List.setIfInBounds_toArray, List.set_cons_zero, List.set_cons_succ, i64_w, i32_w]
               rfl
              refine pV 4 119 (bz 26 0x1f) HT_.out ?_
              refine pV 5 120 (bz 26 0x3f) HT_.out ?_
              refine pV 6 121 (bz 26 0x7f) HT_.out ?_
              refine pV 7 122 (bz 26 0xff) HT_.out ?_
              refine pV 8 123 (bz 26 0x1ff) HT_.out ?_
              refine pV 9 124 (bz 26 0x3ff) HT_.out ?_
              refine pU 10 125 (bz 26 0x7ff) HT_.out ?_
              refine pU 11 126 (bz 26 0xfff) HT_.out ?_
              refine pU 12 127 (bz 26 0x1fff) HT_.out ?_
              refine pU 13 128 (bz 26 0x3fff) HT_.out ?_
              refine pU 14 129 (bz 26 0x7fff) HT_.out ?_
              refine pU 15 130 (bz 26 0xffff) HT_.out ?_
              refine pU 16 131 (bz 26 0x1ffff) HT_.out ?_
              refine pU 17 132 (bz 26 0x3ffff) HT_.out ?_
              refine pU 18 133 (bz 26 0x7ffff) HT_.out ?_
              refine pU 19 134 (bz 26 0xfffff) HT_.out ?_
              refine pU 20 135 (bz 26 0x1fffff) HT_.out ?_
              refine pU 21 136 (bz 26 0x3fffff) HT_.out ?_
              refine pU 22 137 (bz 26 0x7fffff) HT_.out ?_
              refine pU 23 138 (bz 26 0xffffff) HT_.out ?_
              refine pV 24 139 (bz 26 0x1ffffff) HT_.out ?_
              refine pV 25 140 (bz 26 0x3ffffff) HT_.out ?_
              refine done_ (done_of HT_.out (by kernel_rfl)) ?_
              try go_wp2
              go_roundg k2
              case measure => have := HK1.out; have := HK2.out; omega
              case rel => exact ⟨(x6_2), (x7_2), (wrap64 (x8_1 + 1)), (by first | rfl | (simp; done) | (simp [*]; done)), (by first | rfl | (simp; done) | (simp [*]; done)), H', ⟨by have := HK1.out; have := HK2.out; omega⟩, ⟨by (with_reducible repeat (first | apply Kd.S_alloc | apply Kd.S_drewN | apply Kd.S_drew)); first | exact HO_5.out | exact Kd.S_mono HO_5.out (fun _ hk => ⟨hk.2, hk.1⟩)⟩, ⟨rA HO_6.out⟩, ⟨rA HO_618001.out⟩, ⟨bA BK611.out⟩, ⟨bA BK617.out⟩, ⟨by repeat (first | (with_reducible first | exact HB.out | apply below_alloc | apply pw_below_drewN | apply below_drew1 | refine below_set ?_ GE611.out | refine below_set ?_ GE617.out) | exact HB.out)⟩⟩
          ·rw [if_neg c23] at H
           exact absurd H (by simp)
         ·rw [if_neg c22] at H
          exact absurd H (by simp)
      ·rw [if_neg c20] at H
       have c20b0 : decide (x8_1 < (t618.length : Int)) = false := decide_eq_false c20
       clear c20
       by_cases c59 : x7_1 = t613
       ·rw [if_pos c59] at H
        have c59b0 : (x7_1 == t613) = true := beq_iff_eq.mpr c59
        have c59b1 : (x7_1 != t613) = false := bne_eq_false_iff_eq.mpr c59
        clear c59
        have H' := Aside0.mk H
        clear H
        obtain ⟨Ao60, co60, eo60⟩ := Kd.S_slice HO_5.out
        subst eo60
        have hnb61 := NB617_611.out
        have hnc61 := NB611_617.out
        have hcz62_0 : wr.cell? ⟨gb617, 0, none⟩ = some (.int .i64 t613) := (blk_cell BK617.out 0).trans rfl
        have hcz62_1 : wr.cell? ⟨gb617, 1, none⟩ = some (.slice Ao15 t614.length co15) := (blk_cell BK617.out 1).trans rfl
        have hfz62_0 := blk_frozen BK617.out 0
        have hfz62_1 := blk_frozen BK617.out 1
        go_wp2
        go_loopg [10] k1 (fun kq v10 w' => ∃ (x10_2 : Int), v10 = .int .i64 x10_2 ∧ Aside0 (wireloomlaw05_DigraphComponents.l2 kq true t618 x6_1 x10_2 t613 t614 = some r) ∧ Aside0 (kq ≤ k1) ∧ Aside0 (Kd.S (Kd.slice 3 (Kd.int .i64)) 26 w' w.heap.size (fun k_ => some k_ ≠ (v622 : Value).ownBlock) (.slice Ao60 t618.length co60) t618) ∧ Aside0 (Kd.R (Kd.int .i64) 3 w' w.heap.size (fun _ => True) v622 x6_1) ∧ Aside0 (Kd.R k55 55 w' w.heap.size (fun _ => True) (.slice Ao15 t614.length co15) t614) ∧ Aside0 (w'.heap[gb611]? = some (.cells #[.int .u8 a0_0, .int .u8 a0_1, (.slice A0_2 l0_2.length c0_2)] 24 (0, 0))) ∧ Aside0 (w'.heap[gb617]? = some (.cells #[.int .i64 t613, (.slice Ao15 t614.length co15)] 31 (0, 0))) ∧ Aside0 (Below w.heap.size w w'))
        case atStart => exact ⟨(0), (by first | rfl | (simp; done) | (simp [*]; done)), H', ⟨Nat.le_refl _⟩, ⟨by (with_reducible repeat (first | apply Kd.S_alloc | apply Kd.S_drewN | apply Kd.S_drew)); exact HO_5.out⟩, ⟨rA HO_6.out⟩, ⟨rA HO_618001.out⟩, ⟨bA BK611.out⟩, ⟨bA BK617.out⟩, ⟨by repeat (first | (with_reducible first | exact HB.out | apply below_alloc | apply pw_below_drewN | apply below_drew1 | refine below_set ?_ GE611.out | refine below_set ?_ GE617.out) | exact HB.out)⟩⟩
        case round =>
         clear H'
         try clear c2
         try clear p2
         try clear c5
         try clear c6
         try clear p6
         try clear q6
         try clear hx6
         try clear qi6
         try clear c20
         try clear c20b0
         try clear c22
         try clear c23
         try clear c50
         try clear c50b0
         try clear c52
         try clear c53
         try clear c54
         try clear c55
         try clear c56
         try clear c59
         try clear c59b0
         try clear c59b1
         try clear c61
         try clear c62
         try clear p62
         try clear q62
         try clear hx62
         try clear hcz62_0
         try clear hcz62_1
         try clear hfz62_0
         try clear hfz62_1
         try clear hx624_0
         try clear hx645_0
         try clear hx646_0
         try clear hx647_0
         try clear hx648_0
         try clear hx649_0
         try clear p624
         try clear p645
         try clear p646
         try clear p647
         try clear p648
         try clear p649
         try clear q624
         try clear q645
         try clear q646
         try clear q647
         try clear q648
         try clear q649
         obtain ⟨x10_2, rfl, HA, HK2, HO_5, HO_6, HO_618001, BK611, BK617, HB⟩ := hrel
         cases gk with
         | zero => exact absurd HA.out (by simp [wireloomlaw05_DigraphComponents.l2])
         | succ k2 =>
          have H := HA.out
          clear HA
          simp only [wireloomlaw05_DigraphComponents.l2] at H
          by_cases c63 : x10_2 < t613
          ·rw [if_pos c63] at H
           have c63b0 : decide (x10_2 < t613) = true := decide_eq_true c63
           clear c63
           replace H := Option.bind_eq_some_iff.mp H
           obtain ⟨t650, A640, H⟩ := H
           replace H : (wireloomlaw05_DigraphComponents.l3 k2 true t618 x6_1 x10_2 t650 0 t613 t614) = some r := H
           have A64 := Aside0.mk A640
           clear A640
           have H' := Aside0.mk H
           clear H
           have hnb65 := NB617_611.out
           have hnc65 := NB611_617.out
           have hcz66_0 : wr.cell? ⟨gb617, 0, none⟩ = some (.int .i64 t613) := (blk_cell BK617.out 0).trans rfl
           have hcz66_1 : wr.cell? ⟨gb617, 1, none⟩ = some (.slice Ao15 t614.length co15) := (blk_cell BK617.out 1).trans rfl
           have hfz66_0 := blk_frozen BK617.out 0
           have hfz66_1 := blk_frozen BK617.out 1
           go_wp2_with (first | ((with_reducible refine gate_callee (f := 24) rfl ?_); refine goesL_ (some 156) rfl rfl Try.func24 (by kernel_rfl) rfl #[.int .i64 t613, .slice Ao15 t614.length co15, .int .i64 x10_2] rfl (by (try simp only [List.map_toArray, List.map_cons, List.map_nil]); first | done | rfl | (simp only [List.length_drop, List.length_take]; rfl)) ?_; (with_reducible refine (digraph_Reach.calls t613 _ _ t614 x10_2 t650 _ ?side1 ?side2 A64.out).mono ?_); (case side1 => repeat (first | exact (Kd.R_reads' HO_618001.out).2.2 | (with_reducible refine Kd.C_alloc ?_ _) | (with_reducible refine Kd.C_drewN ?_ _) | (with_reducible refine Kd.C_drew ?_))); (case side2 => exact (Kd.R_reads' HO_618001.out).2.1); rintro e w67 ⟨v651, rfl, ho0, hb⟩; refine ⟨_, rfl, ?_⟩; have n0_ := Aside0.mk (Kd.S_elder' (by (with_reducible repeat (first | apply Kd.S_alloc | apply Kd.S_drewN | apply Kd.S_drew)); exact HO_5.out) (Kd.R_base ho0) hb); have n1_ := Aside0.mk (Kd.R_elder' (rA HO_6.out) (Kd.R_base ho0) hb); have n2_ := Aside0.mk (Kd.R_below (rA HO_618001.out) hb); have n3_ := Aside0.mk (Kd.R_lower (Kd.R_new' ho0 (Kd.R_lt (rA HO_6.out))) (below_size (by repeat (first | (with_reducible first | exact HB.out | apply below_alloc | apply pw_below_drewN | apply below_drew1 | refine below_set ?_ GE611.out | refine below_set ?_ GE617.out) | exact HB.out)))); have n4_ := Aside0.mk (blk_below (g := gb611) (o := .cells #[.int .u8 a0_0, .int .u8 a0_1, .slice A0_2 l0_2.length c0_2] 24 (0, 0)) (bA BK611.out) hb); have n5_ := Aside0.mk (blk_below (g := gb617) (o := .cells #[.int .i64 t613, .slice Ao15 t614.length co15] 31 (0, 0)) (bA BK617.out) hb); have n6_ := Aside0.mk (below_step (by repeat (first | (with_reducible first | exact HB.out | apply below_alloc | apply pw_below_drewN | apply below_drew1 | refine below_set ?_ GE611.out | refine below_set ?_ GE617.out) | exact HB.out)) hb); clear HO_5; clear HO_6; clear HO_618001; clear BK611; clear BK617; clear HB; have HO_5 := n0_; have HO_6 := n1_; have HO_618001 := n2_; have HO652 := n3_; have BK611 := n4_; have BK617 := n5_; have HB := n6_; clear n0_ n1_ n2_ n3_ n4_ n5_ n6_; (try clear hb); (try clear hb2); (try clear hk); (try clear hi); (try clear ho0)))
           go_loopg [12] k2 (fun kq v12 w' => ∃ (x12_3 : Int), v12 = .int .i64 x12_3 ∧ Aside0 (wireloomlaw05_DigraphComponents.l3 kq true t618 x6_1 x10_2 t650 x12_3 t613 t614 = some r) ∧ Aside0 (kq ≤ k2) ∧ Aside0 (Kd.S (Kd.slice 3 (Kd.int .i64)) 26 w' w.heap.size (fun k_ => some k_ ≠ (v622 : Value).ownBlock ∧ some k_ ≠ (v651 : Value).ownBlock) (.slice Ao60 t618.length co60) t618) ∧ Aside0 (Kd.R (Kd.int .i64) 3 w' w.heap.size (fun k_ => some k_ ≠ (v651 : Value).ownBlock) v622 x6_1) ∧ Aside0 (Kd.R (Kd.int .i64) 3 w' w.heap.size (fun k_ => some k_ ≠ (v622 : Value).ownBlock) v651 t650) ∧ Aside0 (Kd.R k55 55 w' w.heap.size (fun _ => True) (.slice Ao15 t614.length co15) t614) ∧ Aside0 (w'.heap[gb611]? = some (.cells #[.int .u8 a0_0, .int .u8 a0_1, (.slice A0_2 l0_2.length c0_2)] 24 (0, 0))) ∧ Aside0 (w'.heap[gb617]? = some (.cells #[.int .i64 t613, (.slice Ao15 t614.length co15)] 31 (0, 0))) ∧ Aside0 (Below w.heap.size w w'))
           case atStart => exact ⟨(0), (by first | rfl | (simp; done) | (simp [*]; done)), H', ⟨Nat.le_refl _⟩, ⟨by (with_reducible repeat (first | apply Kd.S_alloc | apply Kd.S_drewN | apply Kd.S_drew)); exact HO_5.out⟩, ⟨by (with_reducible repeat (first | apply Kd.R_alloc | apply Kd.R_drewN | apply Kd.R_drew)); exact Kd.R_mono HO_6.out (fun _ hk => hk.2)⟩, ⟨by (with_reducible repeat (first | apply Kd.R_alloc | apply Kd.R_drewN | apply Kd.R_drew)); exact Kd.R_mono HO652.out (fun _ hk => hk.2)⟩, ⟨rA HO_618001.out⟩, ⟨bA BK611.out⟩, ⟨bA BK617.out⟩, ⟨by repeat (first | (with_reducible first | exact HB.out | apply below_alloc | apply pw_below_drewN | apply below_drew1 | refine below_set ?_ GE611.out | refine below_set ?_ GE617.out) | exact HB.out)⟩⟩
           case round =>
            clear H'
            try clear c2
            try clear p2
            try clear c5
            try clear c6
            try clear p6
            try clear q6
            try clear hx6
            try clear qi6
            try clear c20
            try clear c20b0
            try clear c22
            try clear c23
            try clear c24
            try clear c50
            try clear c50b0
            try clear c52
            try clear c53
            try clear c54
            try clear c55
            try clear c56
            try clear c59
            try clear c59b0
            try clear c59b1
            try clear c61
            try clear c62
            try clear p62
            try clear q62
            try clear hx62
            try clear c63
            try clear c63b0
            try clear c64
            try clear p64
            try clear q64
            try clear hx64
            try clear qi64
            try clear c65
            try clear hcz62_0
            try clear hcz62_1
            try clear hcz66_0
            try clear hcz66_1
            try clear hfz62_0
            try clear hfz62_1
            try clear hfz66_0
            try clear hfz66_1
            try clear hx624_0
            try clear hx645_0
            try clear hx646_0
            try clear hx647_0
            try clear hx648_0
            try clear hx649_0
            try clear p2
            try clear p6
            try clear p62
            try clear p624
            try clear p645
            try clear p646
            try clear p647
            try clear p648
            try clear p649
            try clear q6
            try clear q62
            try clear q624
            try clear q645
            try clear q646
            try clear q647
            try clear q648
            try clear q649
            obtain ⟨x12_3, rfl, HA, HK3, HO_5, HO_6, HO_11, HO_618001, BK611, BK617, HB⟩ := hrel
            cases gk with
            | zero => exact absurd HA.out (by simp [wireloomlaw05_DigraphComponents.l3])
            | succ k3 =>
             have H := HA.out
             clear HA
             simp only [wireloomlaw05_DigraphComponents.l3] at H
             by_cases c68 : x12_3 < t613
             ·rw [if_pos c68] at H
              have c68b0 : decide (x12_3 < t613) = true := decide_eq_true c68
              clear c68
              replace H := Option.bind_eq_some_iff.mp H
              obtain ⟨t653, A690, H⟩ := H
              replace H : (if t653 = true then ((digraph_Reach.f t613 t614 x12_3).bind fun t654 => ((wireloomref05_In.f k3 t654 x10_2).bind fun t657 => (if 0 ≤ x10_2 then (if x10_2 < (x6_1.length : Int) then (if 0 ≤ x12_3 then (if x12_3 < (x6_1.length : Int) then (if (t657 != ((rd x6_1 x10_2) == (rd x6_1 x12_3))) = true then (none) else (wireloomlaw05_DigraphComponents.l3 k3 true t618 x6_1 x10_2 t650 (wrap64 (x12_3 + 1)) t613 t614)) else (none)) else (none)) else (none)) else (none)))) else (if 0 ≤ x10_2 then (if x10_2 < (x6_1.length : Int) then (if 0 ≤ x12_3 then (if x12_3 < (x6_1.length : Int) then (if (false != ((rd x6_1 x10_2) == (rd x6_1 x12_3))) = true then (none) else (wireloomlaw05_DigraphComponents.l3 k3 true t618 x6_1 x10_2 t650 (wrap64 (x12_3 + 1)) t613 t614)) else (none)) else (none)) else (none)) else (none))) = some r := H
              have A69 := Aside0.mk A690
              clear A690
              by_cases c70 : t653 = true
              ·subst c70
               have H1 : ((digraph_Reach.f t613 t614 x12_3).bind fun t654 => ((wireloomref05_In.f k3 t654 x10_2).bind fun t657 => (if 0 ≤ x10_2 then (if x10_2 < (x6_1.length : Int) then (if 0 ≤ x12_3 then (if x12_3 < (x6_1.length : Int) then (if (t657 != ((rd x6_1 x10_2) == (rd x6_1 x12_3))) = true then (none) else (wireloomlaw05_DigraphComponents.l3 k3 true t618 x6_1 x10_2 t650 (wrap64 (x12_3 + 1)) t613 t614)) else (none)) else (none)) else (none)) else (none)))) = some r := by rw [if_pos rfl] at H; exact H
               clear H
               have H := H1
               clear H1
               replace H := Option.bind_eq_some_iff.mp H
               obtain ⟨t654, A710, H⟩ := H
               replace H : ((wireloomref05_In.f k3 t654 x10_2).bind fun t657 => (if 0 ≤ x10_2 then (if x10_2 < (x6_1.length : Int) then (if 0 ≤ x12_3 then (if x12_3 < (x6_1.length : Int) then (if (t657 != ((rd x6_1 x10_2) == (rd x6_1 x12_3))) = true then (none) else (wireloomlaw05_DigraphComponents.l3 k3 true t618 x6_1 x10_2 t650 (wrap64 (x12_3 + 1)) t613 t614)) else (none)) else (none)) else (none)) else (none))) = some r := H
               have A71 := Aside0.mk A710
               clear A710
               replace H := Option.bind_eq_some_iff.mp H
               obtain ⟨t657, A720, H⟩ := H
               replace H : (if 0 ≤ x10_2 then (if x10_2 < (x6_1.length : Int) then (if 0 ≤ x12_3 then (if x12_3 < (x6_1.length : Int) then (if (t657 != ((rd x6_1 x10_2) == (rd x6_1 x12_3))) = true then (none) else (wireloomlaw05_DigraphComponents.l3 k3 true t618 x6_1 x10_2 t650 (wrap64 (x12_3 + 1)) t613 t614)) else (none)) else (none)) else (none)) else (none)) = some r := H
               have A72 := Aside0.mk A720
               clear A720
               by_cases c73 : 0 ≤ x10_2
               ·rw [if_pos c73] at H
                have c73b0 : decide (0 ≤ x10_2) = true := decide_eq_true c73
                clear c73
                by_cases c74 : x10_2 < (x6_1.length : Int)
                ·rw [if_pos c74] at H
                 have c74b0 : decide (x10_2 < (x6_1.length : Int)) = true := decide_eq_true c74
                 clear c74
                 by_cases c75 : 0 ≤ x12_3
                 ·rw [if_pos c75] at H
                  have c75b0 : decide (0 ≤ x12_3) = true := decide_eq_true c75
                  clear c75
                  by_cases c76 : x12_3 < (x6_1.length : Int)
                  ·rw [if_pos c76] at H
                   have c76b0 : decide (x12_3 < (x6_1.length : Int)) = true := decide_eq_true c76
                   clear c76
                   by_cases c77 : (t657 != ((rd x6_1 x10_2) == (rd x6_1 x12_3))) = true
                   ·rw [if_pos c77] at H
                    exact absurd H (by simp)
                   ·rw [if_neg c77] at H
                    have c77b0 : (t657 != ((rd x6_1 x10_2) == (rd x6_1 x12_3))) = false := by simpa using c77
                    (try (have c77b1 : decide (t657 = ((rd x6_1 x10_2) == (rd x6_1 x12_3))) = true := by simpa using c77))
                    (try (have c77b2 : (t657 == ((rd x6_1 x10_2) == (rd x6_1 x12_3))) = true := by simpa using c77))
                    clear c77
                    have H' := Aside0.mk H
                    clear H
                    have hnb78 := NB617_611.out
                    have hnc78 := NB611_617.out
                    have hcz79_0 : wr.cell? ⟨gb617, 0, none⟩ = some (.int .i64 t613) := (blk_cell BK617.out 0).trans rfl
                    have hcz79_1 : wr.cell? ⟨gb617, 1, none⟩ = some (.slice Ao15 t614.length co15) := (blk_cell BK617.out 1).trans rfl
                    have hfz79_0 := blk_frozen BK617.out 0
                    have hfz79_1 := blk_frozen BK617.out 1
                    obtain ⟨Ao80, co80, eo80⟩ := Kd.R_slice HO_11.out
                    subst eo80
                    try go_wp2_with (first | ((with_reducible refine gate_callee (f := 31) rfl ?_); refine goesL_ (some 165) rfl rfl Try.func31 (by kernel_rfl) rfl #[.slice Ao80 t650.length co80, .int .i64 x12_3] rfl (by (try simp only [List.map_toArray, List.map_cons, List.map_nil]); first | done | rfl | (simp only [List.length_drop, List.length_take]; rfl)) ?_; (with_reducible refine (wireloomref05_In.calls k3 _ _ t650 x12_3 true _ ?side1 ?side2 A69.out).mono ?_); (case side1 => repeat (first | exact (Kd.R_reads' HO_11.out).2.2 | (with_reducible refine Kd.C_alloc ?_ _) | (with_reducible refine Kd.C_drewN ?_ _) | (with_reducible refine Kd.C_drew ?_))); (case side2 => exact (Kd.R_reads' HO_11.out).2.1); rintro e w' ⟨rfl, ⟨nd, rfl⟩⟩; refine ⟨_, rfl, ?_⟩) | (go_at_call 24; (with_reducible refine (digraph_Reach.calls t613 _ _ t614 x12_3 t654 _ ?side1 ?side2 A71.out).mono ?_); (case side1 => repeat (first | exact (Kd.R_reads' HO_618001.out).2.2 | (with_reducible refine Kd.C_alloc ?_ _) | (with_reducible refine Kd.C_drewN ?_ _) | (with_reducible refine Kd.C_drew ?_))); (case side2 => exact (Kd.R_reads' HO_618001.out).2.1); rintro e w81 ⟨v655, rfl, ho0, hb⟩; have n0_ := Aside0.mk (Kd.S_elder' (by (with_reducible repeat (first | apply Kd.S_alloc | apply Kd.S_drewN | apply Kd.S_drew)); exact HO_5.out) (Kd.R_base ho0) hb); have n1_ := Aside0.mk (Kd.R_elder' (rA HO_6.out) (Kd.R_base ho0) hb); have n2_ := Aside0.mk (Kd.R_elder' (rA HO_11.out) (Kd.R_base ho0) hb); have n3_ := Aside0.mk (Kd.R_below (rA HO_618001.out) hb); have n4_ := Aside0.mk (Kd.R_lower (Kd.R_new' (Kd.R_new' ho0 (Kd.R_lt (rA HO_6.out))) (Kd.R_lt (rA HO_11.out))) (below_size (by repeat (first | (with_reducible first | exact HB.out | apply below_alloc | apply pw_below_drewN | apply below_drew1 | refine below_set ?_ GE611.out | refine below_set ?_ GE617.out) | exact HB.out)))); have n5_ := Aside0.mk (blk_below (g := gb611) (o := .cells #[.int .u8 a0_0, .int .u8 a0_1, .slice A0_2 l0_2.length c0_2] 24 (0, 0)) (bA BK611.out) hb); have n6_ := Aside0.mk (blk_below (g := gb617) (o := .cells #[.int .i64 t613, .slice Ao15 t614.length co15] 31 (0, 0)) (bA BK617.out) hb); have n7_ := Aside0.mk (below_step (by repeat (first | (with_reducible first | exact HB.out | apply below_alloc | apply pw_below_drewN | apply below_drew1 | refine below_set ?_ GE611.out | refine below_set ?_ GE617.out) | exact HB.out)) hb); clear HO_5; clear HO_6; clear HO_11; clear HO_618001; clear BK611; clear BK617; clear HB; have HO_5 := n0_; have HO_6 := n1_; have HO_11 := n2_; have HO_618001 := n3_; have HO656 := n4_; have BK611 := n5_; have BK617 := n6_; have HB := n7_; clear n0_ n1_ n2_ n3_ n4_ n5_ n6_ n7_; (try clear hb); (try clear hb2); (try clear hk); (try clear hi); (try clear ho0); obtain ⟨Ao82, co82, eo82⟩ := Kd.R_slice HO656.out; subst eo82) | (go_at_call 31; (with_reducible refine (wireloomref05_In.calls k3 _ _ t654 x10_2 t657 _ ?side1 ?side2 A72.out).mono ?_); (case side1 => repeat (first | exact (Kd.R_reads' HO656.out).2.2 | (with_reducible refine Kd.C_alloc ?_ _) | (with_reducible refine Kd.C_drewN ?_ _) | (with_reducible refine Kd.C_drew ?_))); (case side2 => exact (Kd.R_reads' HO656.out).2.1); rintro e w' ⟨rfl, ⟨nd, rfl⟩⟩))
                    (try (rw [drewN_self w81]; generalize hq_ : World.drewN w81 _ = w81; have n0_ : Aside0 (Kd.R (Kd.int .i64) 3 w81 w.heap.size (fun k_ => some k_ ≠ (.slice Ao80 t650.length co80 : Value).ownBlock ∧ some k_ ≠ (v622 : Value).ownBlock) (.slice Ao82 t654.length co82) t654) := ⟨by rw [← hq_]; exact (by (with_reducible repeat (first | apply Kd.R_alloc | apply Kd.R_drewN | apply Kd.R_drew)); exact Kd.R_mono HO656.out (fun _ hk => ⟨hk.2, hk.1.2⟩))⟩; have n1_ : Aside0 (Kd.R (Kd.int .i64) 3 w81 w.heap.size (fun k_ => some k_ ≠ (.slice Ao82 t654.length co82 : Value).ownBlock ∧ some k_ ≠ (v622 : Value).ownBlock) (.slice Ao80 t650.length co80) t650) := ⟨by rw [← hq_]; exact (by (with_reducible repeat (first | apply Kd.R_alloc | apply Kd.R_drewN | apply Kd.R_drew)); exact Kd.R_mono HO_11.out (fun _ hk => ⟨hk.2, hk.1⟩))⟩; have n2_ : Aside0 (Kd.S (Kd.slice 3 (Kd.int .i64)) 26 w81 w.heap.size (fun k_ => some k_ ≠ (.slice Ao82 t654.length co82 : Value).ownBlock ∧ some k_ ≠ (.slice Ao80 t650.length co80 : Value).ownBlock ∧ some k_ ≠ (v622 : Value).ownBlock) (.slice Ao60 t618.length co60) t618) := ⟨by rw [← hq_]; exact (by (with_reducible repeat (first | apply Kd.S_alloc | apply Kd.S_drewN | apply Kd.S_drew)); exact Kd.S_mono HO_5.out (fun _ hk => ⟨hk.2, ⟨hk.1.2, hk.1.1⟩⟩))⟩; have n3_ : Aside0 (Kd.R (Kd.int .i64) 3 w81 w.heap.size (fun k_ => some k_ ≠ (.slice Ao82 t654.length co82 : Value).ownBlock ∧ some k_ ≠ (.slice Ao80 t650.length co80 : Value).ownBlock) v622 x6_1) := ⟨by rw [← hq_]; exact (by (with_reducible repeat (first | apply Kd.R_alloc | apply Kd.R_drewN | apply Kd.R_drew)); exact Kd.R_mono HO_6.out (fun _ hk => ⟨hk.2, hk.1⟩))⟩; have n4_ : Aside0 (Kd.R k55 55 w81 w.heap.size (fun _ => True) (.slice Ao15 t614.length co15) t614) := ⟨by rw [← hq_]; exact (rA HO_618001.out)⟩; have n5_ : Aside0 (w81.heap[gb611]? = some (.cells #[.int .u8 a0_0, .int .u8 a0_1, .slice A0_2 l0_2.length c0_2] 24 (0, 0))) := ⟨by rw [← hq_]; exact (bA BK611.out)⟩; have n6_ : Aside0 (w81.heap[gb617]? = some (.cells #[.int .i64 t613, .slice Ao15 t614.length co15] 31 (0, 0))) := ⟨by rw [← hq_]; exact (bA BK617.out)⟩; have n7_ : Aside0 (Below w.heap.size w w81) := ⟨by rw [← hq_]; exact (by repeat (first | (with_reducible first | exact HB.out | apply below_alloc | apply pw_below_drewN | apply below_drew1 | refine below_set ?_ GE611.out | refine below_set ?_ GE617.out) | exact HB.out))⟩; clear HO656 HO_11 HO_5 HO_6 HO_618001 BK611 BK617 HB hq_; have HO656 := n0_; have HO_11 := n1_; have HO_5 := n2_; have HO_6 := n3_; have HO_618001 := n4_; have BK611 := n5_; have BK617 := n6_; have HB := n7_; clear n0_ n1_ n2_ n3_ n4_ n5_ n6_ n7_))
                    have n0_ := Aside0.mk (Kd.S_drew HO_5.out)
                    have n1_ := Aside0.mk (Kd.R_drew HO_6.out)
                    have n2_ := Aside0.mk (Kd.R_drew HO_11.out)
                    have n3_ := Aside0.mk (Kd.R_drew HO_618001.out)
                    have n4_ := Aside0.mk (Kd.R_drew HO656.out)
                    have n5_ := Aside0.mk (blk_drew BK611.out)
                    have n6_ := Aside0.mk (blk_drew BK617.out)
                    have n7_ := Aside0.mk (below_drew1 HB.out)
                    clear HO_5
                    clear HO_6
                    clear HO_11
                    clear HO_618001
                    clear HO656
                    clear BK611
                    clear BK617
                    clear HB
                    have HO_5 := n0_
                    have HO_6 := n1_
                    have HO_11 := n2_
                    have HO_618001 := n3_
                    have HO656 := n4_
                    have BK611 := n5_
                    have BK617 := n6_
                    have HB := n7_
                    clear n0_ n1_ n2_ n3_ n4_ n5_ n6_ n7_
                    obtain ⟨Ao84, co84, eo84⟩ := Kd.R_slice HO_6.out
                    (first | subst eo84 | (injection eo84 with f1_ f2_ f3_; have f4_ := f1_.symm; have f5_ := f3_.symm; clear f1_ f2_ f3_; subst f4_; subst f5_))
                    have p658 : 0 ≤ (x10_2 : Int) := of_decide_eq_true (by first | (with_reducible assumption) | assumption)
                    have q658 : x10_2 < (x6_1.length : Int) := of_decide_eq_true (by first | (with_reducible assumption) | assumption)
                    obtain ⟨ad658, e658, hx658_0⟩ := Kd.at_int (Kd.R_reads' HO_6.out).2.2 x10_2 p658 q658
                    cases e658
                    replace p658 := eq_true p658
                    replace q658 := eq_true q658
                    have p659 : 0 ≤ (x12_3 : Int) := of_decide_eq_true (by first | (with_reducible assumption) | assumption)
                    have q659 : x12_3 < (x6_1.length : Int) := of_decide_eq_true (by first | (with_reducible assumption) | assumption)
                    obtain ⟨ad659, e659, hx659_0⟩ := Kd.at_int (Kd.R_reads' HO_6.out).2.2 x12_3 p659 q659
                    obtain rfl : ad658 = ad659 := (by injection e659)
                    replace p659 := eq_true p659
                    replace q659 := eq_true q659
                    refine start_ (n := 11) (S := fun w' => w'.cell? (ad658.add (x10_2).toNat) = some (.int .i64 (rd x6_1 x10_2)) ∧ w'.cell? (ad658.add (x12_3).toNat) = some (.int .i64 (rd x6_1 x12_3))) (ds := []) #[false, false, false, false, false, false, false, false, false, false, false] (by kernel_rfl) rfl rfl ⟨hx658_0, hx659_0⟩ (fun hHeld => ?_); refine with_tabW wireloomlaw05_DigraphComponents.tab30 wireloomlaw05_DigraphComponents.bits30 (fun HT_ HW_ => ?_)
                    generalize w81.drew = w83 at HO_5 HO_6 HO_11 HO_618001 HO656 BK611 BK617 HB hx658_0 hx659_0 hHeld ⊢
                    refine pV 0 176 (bz 11 0x1) HT_.out ?_
                    refine pV 1 177 (bz 11 0x3) HT_.out ?_
                    refine pV 2 178 (bz 11 0x7) HT_.out ?_
                    refine pV 3 179 (bz 11 0xf) HT_.out ?_
                    refine pV 5 181 (bz 11 0x2f) HT_.out ?_
                    refine pV 6 182 (bz 11 0x6f) HT_.out ?_
                    refine pV 7 183 (bz 11 0xef) HT_.out ?_
                    refine tV 4 180 (bz 11 0xff) HT_.out HW_.out hHeld rfl rfl (by rintro w' ⟨s0, s1⟩; go_simp; with_reducible rfl) ?_
                    refine tV 8 184 (bz 11 0x1ff) HT_.out HW_.out hHeld rfl rfl (by rintro w' ⟨s0, s1⟩; go_simp; with_reducible rfl) ?_
                    refine pV 9 185 (bz 11 0x3ff) HT_.out ?_
                    refine pV 10 186 (bz 11 0x7ff) HT_.out ?_
                    refine done_ (done_of HT_.out (by kernel_rfl)) ?_
                    try go_wp2
                    go_roundg k3
                    case measure => have := HK1.out; have := HK2.out; have := HK3.out; omega
                    case rel => exact ⟨(wrap64 (x12_3 + 1)), (by first | rfl | (simp; done) | (simp [*]; done)), H', ⟨by have := HK1.out; have := HK2.out; have := HK3.out; omega⟩, ⟨by (with_reducible repeat (first | apply Kd.S_alloc | apply Kd.S_drewN | apply Kd.S_drew)); exact Kd.S_mono HO_5.out (fun _ hk => by first | exact ⟨hk.1.1, hk.1.2⟩ | exact ⟨hk.2.1, hk.2.2⟩ | exact ⟨hk.2.2, hk.2.1⟩ | exact ⟨hk.1.2, hk.1.1⟩)⟩, ⟨by (with_reducible repeat (first | apply Kd.R_alloc | apply Kd.R_drewN | apply Kd.R_drew)); exact Kd.R_mono HO_6.out (fun _ hk => by first | exact hk.1 | exact hk.2)⟩, ⟨by (with_reducible repeat (first | apply Kd.R_alloc | apply Kd.R_drewN | apply Kd.R_drew)); exact Kd.R_mono HO_11.out (fun _ hk => by first | exact hk.1 | exact hk.2)⟩, ⟨rA HO_618001.out⟩, ⟨bA BK611.out⟩, ⟨bA BK617.out⟩, ⟨by repeat (first | (with_reducible first | exact HB.out | apply below_alloc | apply pw_below_drewN | apply below_drew1 | refine below_set ?_ GE611.out | refine below_set ?_ GE617.out) | exact HB.out)⟩⟩
                  ·rw [if_neg c76] at H
                   exact absurd H (by simp)
                 ·rw [if_neg c75] at H
                  exact absurd H (by simp)
                ·rw [if_neg c74] at H
                 exact absurd H (by simp)
               ·rw [if_neg c73] at H
                exact absurd H (by simp)
              ·replace c70 := Bool.eq_false_iff.mpr c70
               subst c70
               have H1 : (if 0 ≤ x10_2 then (if x10_2 < (x6_1.length : Int) then (if 0 ≤ x12_3 then (if x12_3 < (x6_1.length : Int) then (if (false != ((rd x6_1 x10_2) == (rd x6_1 x12_3))) = true then (none) else (wireloomlaw05_DigraphComponents.l3 k3 true t618 x6_1 x10_2 t650 (wrap64 (x12_3 + 1)) t613 t614)) else (none)) else (none)) else (none)) else (none)) = some r := by rw [if_neg (show ¬ (false = true) by decide)] at H; exact H
               clear H
               have H := H1
               clear H1
               by_cases c85 : 0 ≤ x10_2
               ·rw [if_pos c85] at H
                have c85b0 : decide (0 ≤ x10_2) = true := decide_eq_true c85
                clear c85
                by_cases c86 : x10_2 < (x6_1.length : Int)
                ·rw [if_pos c86] at H
                 have c86b0 : decide (x10_2 < (x6_1.length : Int)) = true := decide_eq_true c86
                 clear c86
                 by_cases c87 : 0 ≤ x12_3
                 ·rw [if_pos c87] at H
                  have c87b0 : decide (0 ≤ x12_3) = true := decide_eq_true c87
                  clear c87
                  by_cases c88 : x12_3 < (x6_1.length : Int)
                  ·rw [if_pos c88] at H
                   have c88b0 : decide (x12_3 < (x6_1.length : Int)) = true := decide_eq_true c88
                   clear c88
                   by_cases c89 : (false != ((rd x6_1 x10_2) == (rd x6_1 x12_3))) = true
                   ·rw [if_pos c89] at H
                    exact absurd H (by simp)
                   ·rw [if_neg c89] at H
                    have c89b0 : (false != ((rd x6_1 x10_2) == (rd x6_1 x12_3))) = false := by simpa using c89
                    (try (have c89b1 : decide (false = ((rd x6_1 x10_2) == (rd x6_1 x12_3))) = true := by simpa using c89))
                    (try (have c89b2 : (false == ((rd x6_1 x10_2) == (rd x6_1 x12_3))) = true := by simpa using c89))
                    clear c89
                    have H' := Aside0.mk H
                    clear H
                    have hnb90 := NB617_611.out
                    have hnc90 := NB611_617.out
                    have hcz91_0 : wr.cell? ⟨gb617, 0, none⟩ = some (.int .i64 t613) := (blk_cell BK617.out 0).trans rfl
                    have hcz91_1 : wr.cell? ⟨gb617, 1, none⟩ = some (.slice Ao15 t614.length co15) := (blk_cell BK617.out 1).trans rfl
                    have hfz91_0 := blk_frozen BK617.out 0
                    have hfz91_1 := blk_frozen BK617.out 1
                    obtain ⟨Ao92, co92, eo92⟩ := Kd.R_slice HO_11.out
                    subst eo92
                    try go_wp2_with (first | ((with_reducible refine gate_callee (f := 31) rfl ?_); refine goesL_ (some 165) rfl rfl Try.func31 (by kernel_rfl) rfl #[.slice Ao92 t650.length co92, .int .i64 x12_3] rfl (by (try simp only [List.map_toArray, List.map_cons, List.map_nil]); first | done | rfl | (simp only [List.length_drop, List.length_take]; rfl)) ?_; (with_reducible refine (wireloomref05_In.calls k3 _ _ t650 x12_3 false _ ?side1 ?side2 A69.out).mono ?_); (case side1 => repeat (first | exact (Kd.R_reads' HO_11.out).2.2 | (with_reducible refine Kd.C_alloc ?_ _) | (with_reducible refine Kd.C_drewN ?_ _) | (with_reducible refine Kd.C_drew ?_))); (case side2 => exact (Kd.R_reads' HO_11.out).2.1); rintro e w' ⟨rfl, ⟨nd, rfl⟩⟩; refine ⟨_, rfl, ?_⟩))
                    (try (rw [drewN_self wr]; generalize hq_ : World.drewN wr _ = wr; have n0_ : Aside0 (Kd.R (Kd.int .i64) 3 wr w.heap.size (fun k_ => some k_ ≠ (v622 : Value).ownBlock) (.slice Ao92 t650.length co92) t650) := ⟨by rw [← hq_]; exact (rA HO_11.out)⟩; have n1_ : Aside0 (Kd.S (Kd.slice 3 (Kd.int .i64)) 26 wr w.heap.size (fun k_ => some k_ ≠ (.slice Ao92 t650.length co92 : Value).ownBlock ∧ some k_ ≠ (v622 : Value).ownBlock) (.slice Ao60 t618.length co60) t618) := ⟨by rw [← hq_]; exact (by (with_reducible repeat (first | apply Kd.S_alloc | apply Kd.S_drewN | apply Kd.S_drew)); exact Kd.S_mono HO_5.out (fun _ hk => ⟨hk.2, hk.1⟩))⟩; have n2_ : Aside0 (Kd.R (Kd.int .i64) 3 wr w.heap.size (fun k_ => some k_ ≠ (.slice Ao92 t650.length co92 : Value).ownBlock) v622 x6_1) := ⟨by rw [← hq_]; exact (rA HO_6.out)⟩; have n3_ : Aside0 (Kd.R k55 55 wr w.heap.size (fun _ => True) (.slice Ao15 t614.length co15) t614) := ⟨by rw [← hq_]; exact (rA HO_618001.out)⟩; have n4_ : Aside0 (wr.heap[gb611]? = some (.cells #[.int .u8 a0_0, .int .u8 a0_1, .slice A0_2 l0_2.length c0_2] 24 (0, 0))) := ⟨by rw [← hq_]; exact (bA BK611.out)⟩; have n5_ : Aside0 (wr.heap[gb617]? = some (.cells #[.int .i64 t613, .slice Ao15 t614.length co15] 31 (0, 0))) := ⟨by rw [← hq_]; exact (bA BK617.out)⟩; have n6_ : Aside0 (Below w.heap.size w wr) := ⟨by rw [← hq_]; exact (by repeat (first | (with_reducible first | exact HB.out | apply below_alloc | apply pw_below_drewN | apply below_drew1 | refine below_set ?_ GE611.out | refine below_set ?_ GE617.out) | exact HB.out))⟩; clear HO_11 HO_5 HO_6 HO_618001 BK611 BK617 HB hq_; have HO_11 := n0_; have HO_5 := n1_; have HO_6 := n2_; have HO_618001 := n3_; have BK611 := n4_; have BK617 := n5_; have HB := n6_; clear n0_ n1_ n2_ n3_ n4_ n5_ n6_))
                    have n0_ := Aside0.mk (Kd.S_drew HO_5.out)
                    have n1_ := Aside0.mk (Kd.R_drew HO_6.out)
                    have n2_ := Aside0.mk (Kd.R_drew HO_11.out)
                    have n3_ := Aside0.mk (Kd.R_drew HO_618001.out)
                    have n4_ := Aside0.mk (blk_drew BK611.out)
                    have n5_ := Aside0.mk (blk_drew BK617.out)
                    have n6_ := Aside0.mk (below_drew1 HB.out)
                    clear HO_5
                    clear HO_6
                    clear HO_11
                    clear HO_618001
                    clear BK611
                    clear BK617
                    clear HB
                    have HO_5 := n0_
                    have HO_6 := n1_
                    have HO_11 := n2_
                    have HO_618001 := n3_
                    have BK611 := n4_
                    have BK617 := n5_
                    have HB := n6_
                    clear n0_ n1_ n2_ n3_ n4_ n5_ n6_
                    obtain ⟨Ao94, co94, eo94⟩ := Kd.R_slice HO_6.out
                    (first | subst eo94 | (injection eo94 with f1_ f2_ f3_; have f4_ := f1_.symm; have f5_ := f3_.symm; clear f1_ f2_ f3_; subst f4_; subst f5_))
                    have p660 : 0 ≤ (x10_2 : Int) := of_decide_eq_true (by first | (with_reducible assumption) | assumption)
                    have q660 : x10_2 < (x6_1.length : Int) := of_decide_eq_true (by first | (with_reducible assumption) | assumption)
                    obtain ⟨ad660, e660, hx660_0⟩ := Kd.at_int (Kd.R_reads' HO_6.out).2.2 x10_2 p660 q660
                    cases e660
                    replace p660 := eq_true p660
                    replace q660 := eq_true q660
                    have p661 : 0 ≤ (x12_3 : Int) := of_decide_eq_true (by first | (with_reducible assumption) | assumption)
                    have q661 : x12_3 < (x6_1.length : Int) := of_decide_eq_true (by first | (with_reducible assumption) | assumption)
                    obtain ⟨ad661, e661, hx661_0⟩ := Kd.at_int (Kd.R_reads' HO_6.out).2.2 x12_3 p661 q661
                    obtain rfl : ad660 = ad661 := (by injection e661)
                    replace p661 := eq_true p661
                    replace q661 := eq_true q661
                    refine start_ (n := 11) (S := fun w' => w'.cell? (ad660.add (x10_2).toNat) = some (.int .i64 (rd x6_1 x10_2)) ∧ w'.cell? (ad660.add (x12_3).toNat) = some (.int .i64 (rd x6_1 x12_3))) (ds := []) #[false, false, false, false, false, false, false, false, false, false, false] (by kernel_rfl) rfl rfl ⟨hx660_0, hx661_0⟩ (fun hHeld => ?_); refine with_tabW wireloomlaw05_DigraphComponents.tab30 wireloomlaw05_DigraphComponents.bits30 (fun HT_ HW_ => ?_)
                    generalize wr.drew = w93 at HO_5 HO_6 HO_11 HO_618001 BK611 BK617 HB hx660_0 hx661_0 hHeld ⊢
                    refine pV 0 176 (bz 11 0x1) HT_.out ?_
                    refine pV 1 177 (bz 11 0x3) HT_.out ?_
                    refine pV 2 178 (bz 11 0x7) HT_.out ?_
                    refine pV 3 179 (bz 11 0xf) HT_.out ?_
                    refine pV 5 181 (bz 11 0x2f) HT_.out ?_
                    refine pV 6 182 (bz 11 0x6f) HT_.out ?_
                    refine pV 7 183 (bz 11 0xef) HT_.out ?_
                    refine tV 4 180 (bz 11 0xff) HT_.out HW_.out hHeld rfl rfl (by rintro w' ⟨s0, s1⟩; go_simp; with_reducible rfl) ?_
                    refine tV 8 184 (bz 11 0x1ff) HT_.out HW_.out hHeld rfl rfl (by rintro w' ⟨s0, s1⟩; go_simp; with_reducible rfl) ?_
                    refine pV 9 185 (bz 11 0x3ff) HT_.out ?_
                    refine pV 10 186 (bz 11 0x7ff) HT_.out ?_
                    refine done_ (done_of HT_.out (by kernel_rfl)) ?_
                    try go_wp2
                    go_roundg k3
                    case measure => have := HK1.out; have := HK2.out; have := HK3.out; omega
                    case rel => exact ⟨(wrap64 (x12_3 + 1)), (by first | rfl | (simp; done) | (simp [*]; done)), H', ⟨by have := HK1.out; have := HK2.out; have := HK3.out; omega⟩, ⟨by (with_reducible repeat (first | apply Kd.S_alloc | apply Kd.S_drewN | apply Kd.S_drew)); first | exact HO_5.out | exact Kd.S_mono HO_5.out (fun _ hk => ⟨hk.2, hk.1⟩)⟩, ⟨rA HO_6.out⟩, ⟨rA HO_11.out⟩, ⟨rA HO_618001.out⟩, ⟨bA BK611.out⟩, ⟨bA BK617.out⟩, ⟨by repeat (first | (with_reducible first | exact HB.out | apply below_alloc | apply pw_below_drewN | apply below_drew1 | refine below_set ?_ GE611.out | refine below_set ?_ GE617.out) | exact HB.out)⟩⟩
                  ·rw [if_neg c88] at H
                   exact absurd H (by simp)
                 ·rw [if_neg c87] at H
                  exact absurd H (by simp)
                ·rw [if_neg c86] at H
                 exact absurd H (by simp)
               ·rw [if_neg c85] at H
                exact absurd H (by simp)
             ·rw [if_neg c68] at H
              have c68b0 : decide (x12_3 < t613) = false := decide_eq_false c68
              clear c68
              have H' := Aside0.mk H
              clear H
              have hnb95 := NB617_611.out
              have hnc95 := NB611_617.out
              have hcz96_0 : wr.cell? ⟨gb617, 0, none⟩ = some (.int .i64 t613) := (blk_cell BK617.out 0).trans rfl
              have hcz96_1 : wr.cell? ⟨gb617, 1, none⟩ = some (.slice Ao15 t614.length co15) := (blk_cell BK617.out 1).trans rfl
              have hfz96_0 := blk_frozen BK617.out 0
              have hfz96_1 := blk_frozen BK617.out 1
              go_wp2
              go_roundg k3
              case measure => have := HK1.out; have := HK2.out; have := HK3.out; omega
              case rel => exact ⟨(wrap64 (x10_2 + 1)), (by first | rfl | (simp; done) | (simp [*]; done)), H', ⟨by have := HK1.out; have := HK2.out; have := HK3.out; omega⟩, ⟨by (with_reducible repeat (first | apply Kd.S_alloc | apply Kd.S_drewN | apply Kd.S_drew)); exact Kd.S_mono HO_5.out (fun _ hk => by first | exact hk.1 | exact hk.2)⟩, ⟨by (with_reducible repeat (first | apply Kd.R_alloc | apply Kd.R_drewN | apply Kd.R_drew)); exact Kd.R_mono HO_6.out (fun _ hk => trivial)⟩, ⟨rA HO_618001.out⟩, ⟨bA BK611.out⟩, ⟨bA BK617.out⟩, ⟨by repeat (first | (with_reducible first | exact HB.out | apply below_alloc | apply pw_below_drewN | apply below_drew1 | refine below_set ?_ GE611.out | refine below_set ?_ GE617.out) | exact HB.out)⟩⟩
          ·rw [if_neg c63] at H
           have c63b0 : decide (x10_2 < t613) = false := decide_eq_false c63
           clear c63
           have H' := Aside0.mk H
           clear H
           have hnb97 := NB617_611.out
           have hnc97 := NB611_617.out
           have hcz98_0 : wr.cell? ⟨gb617, 0, none⟩ = some (.int .i64 t613) := (blk_cell BK617.out 0).trans rfl
           have hcz98_1 : wr.cell? ⟨gb617, 1, none⟩ = some (.slice Ao15 t614.length co15) := (blk_cell BK617.out 1).trans rfl
           have hfz98_0 := blk_frozen BK617.out 0
           have hfz98_1 := blk_frozen BK617.out 1
           go_wp2_with (first | ((with_reducible refine gate_dst (N := 14) rfl ?_); (try (refine gate_guard (by rfl) ?_; dsimp only)); refine box_event ?hg (N := 14) ?hd (cs := #[.int .i64 0, .slice none 0 0]) (t := 31) ?hr ?_; (case hd => rfl); (case hg => rfl); (case hr => first | (go_simp; done) | (go_simp; rfl)); intro gb662 hg w99 hbox hb; have n0_ := Aside0.mk (Kd.S_below (by (with_reducible repeat (first | apply Kd.S_alloc | apply Kd.S_drewN | apply Kd.S_drew)); exact HO_5.out) hb); have n1_ := Aside0.mk (Kd.R_below (rA HO_6.out) hb); have n2_ := Aside0.mk (Kd.R_below (rA HO_618001.out) hb); have n3_ := Aside0.mk (blk_below (g := gb611) (o := .cells #[.int .u8 a0_0, .int .u8 a0_1, .slice A0_2 l0_2.length c0_2] 24 (0, 0)) (bA BK611.out) hb); have n4_ := Aside0.mk (blk_below (g := gb617) (o := .cells #[.int .i64 t613, .slice Ao15 t614.length co15] 31 (0, 0)) (bA BK617.out) hb); have n5_ := Aside0.mk (below_step (by repeat (first | (with_reducible first | exact HB.out | apply below_alloc | apply pw_below_drewN | apply below_drew1 | refine below_set ?_ GE611.out | refine below_set ?_ GE617.out) | exact HB.out)) hb); have n6_ := Aside0.mk (hbox); have n7_ := Aside0.mk ((by rw [hg]; exact (below_size (by repeat (first | (with_reducible first | exact HB.out | apply below_alloc | apply pw_below_drewN | apply below_drew1 | refine below_set ?_ GE611.out | refine below_set ?_ GE617.out) | exact HB.out))) : w.heap.size ≤ gb662)); have n8_ := Aside0.mk ((by rw [hg]; exact (below_size (by repeat (first | (with_reducible first | exact HB.out | apply below_alloc | apply pw_below_drewN | apply below_drew1 | refine below_set ?_ GE611.out | refine below_set ?_ GE617.out) | exact HB.out))) : w.heap.size ≤ gb662)); have n9_ := Aside0.mk ((by rw [hg]; exact Nat.ne_of_lt (blk_lt (g := gb611) (o := .cells #[.int .u8 a0_0, .int .u8 a0_1, .slice A0_2 l0_2.length c0_2] 24 (0, 0)) (bA BK611.out)) : gb611 ≠ gb662)); have n10_ := Aside0.mk ((by rw [hg]; exact Nat.ne_of_gt (blk_lt (g := gb611) (o := .cells #[.int .u8 a0_0, .int .u8 a0_1, .slice A0_2 l0_2.length c0_2] 24 (0, 0)) (bA BK611.out)) : gb662 ≠ gb611)); have n11_ := Aside0.mk ((by rw [hg]; exact Nat.ne_of_lt (blk_lt (g := gb617) (o := .cells #[.int .i64 t613, .slice Ao15 t614.length co15] 31 (0, 0)) (bA BK617.out)) : gb617 ≠ gb662)); have n12_ := Aside0.mk ((by rw [hg]; exact Nat.ne_of_gt (blk_lt (g := gb617) (o := .cells #[.int .i64 t613, .slice Ao15 t614.length co15] 31 (0, 0)) (bA BK617.out)) : gb662 ≠ gb617)); clear HO_5; clear HO_6; clear HO_618001; clear BK611; clear BK617; clear HB; have HO_5 := n0_; have HO_6 := n1_; have HO_618001 := n2_; have BK611 := n3_; have BK617 := n4_; have HB := n5_; have BK662 := n6_; have GW662 := n7_; have GE662 := n8_; have NB611_662 := n9_; have NB662_611 := n10_; have NB617_662 := n11_; have NB662_617 := n12_; clear n0_ n1_ n2_ n3_ n4_ n5_ n6_ n7_ n8_ n9_ n10_ n11_ n12_; clear hb hbox hg; have hnb100 := NB662_611.out; have hnc100 := NB611_662.out; have hnb101 := NB662_617.out; have hnc101 := NB617_662.out; have hcz102_0 : w99.cell? ⟨gb662, 0, none⟩ = some (.int .i64 0) := (blk_cell BK662.out 0).trans rfl; have hcz102_1 : w99.cell? ⟨gb662, 1, none⟩ = some (.slice none 0 0) := (blk_cell BK662.out 1).trans rfl; have hfz102_0 := blk_frozen BK662.out 0; have hfz102_1 := blk_frozen BK662.out 1))
           go_loopg [15, 16] k2 (fun kq v15 v16 w' => ∃ (x15_3 : Bool) (x16_3 : Int) (x663001_3 : List (S55)) (u663001 : Value), v15 = .bool x15_3 ∧ v16 = .int .i64 x16_3 ∧ Aside0 (wireloomlaw05_DigraphComponents.l4 kq true t618 x6_1 x15_3 x16_3 t613 t614 (t618.length : Int) x663001_3 = some r) ∧ Aside0 (kq ≤ k2) ∧ Aside0 (Kd.S (Kd.slice 3 (Kd.int .i64)) 26 w' w.heap.size (fun k_ => some k_ ≠ (v622 : Value).ownBlock) (.slice Ao60 t618.length co60) t618) ∧ Aside0 (Kd.R (Kd.int .i64) 3 w' w.heap.size (fun _ => True) v622 x6_1) ∧ Aside0 (Kd.R k55 55 w' w.heap.size (fun k_ => some k_ ≠ (u663001 : Value).ownBlock) (.slice Ao15 t614.length co15) t614) ∧ Aside0 (Kd.R k55 55 w' w.heap.size (fun k_ => some k_ ≠ ((.slice Ao15 t614.length co15) : Value).ownBlock) u663001 x663001_3) ∧ Aside0 (w'.heap[gb611]? = some (.cells #[.int .u8 a0_0, .int .u8 a0_1, (.slice A0_2 l0_2.length c0_2)] 24 (0, 0))) ∧ Aside0 (w'.heap[gb617]? = some (.cells #[.int .i64 t613, (.slice Ao15 t614.length co15)] 31 (0, 0))) ∧ Aside0 (w'.heap[gb662]? = some (.cells #[.int .i64 (t618.length : Int), u663001] 31 (0, 0))) ∧ Aside0 (Below w.heap.size w w'))
           case atStart => exact ⟨(false), (0), (([] : List (S55))), (.slice none 0 0), (by first | rfl | (simp; done) | (simp [*]; done)), (by first | rfl | (simp; done) | (simp [*]; done)), H', ⟨Nat.le_refl _⟩, ⟨by (with_reducible repeat (first | apply Kd.S_alloc | apply Kd.S_drewN | apply Kd.S_drew)); exact Kd.S_mono (Kd.S_far (p := ⟨gb662, 1, none⟩) (Kd.S_far (p := ⟨gb662, 0, none⟩) (Kd.S_types HO_5.out BK662.out (by decide)) (fun _ hk => hk.2) (.int .i64 (t618.length : Int))) (fun _ hk => hk.2) (.slice none 0 0)) (fun _ hk => hk.1)⟩, ⟨by (with_reducible repeat (first | apply Kd.R_alloc | apply Kd.R_drewN | apply Kd.R_drew)); exact Kd.R_mono (Kd.R_far (p := ⟨gb662, 1, none⟩) (Kd.R_far (p := ⟨gb662, 0, none⟩) (Kd.R_types HO_6.out BK662.out (by decide)) (fun _ hk => hk.2) (.int .i64 (t618.length : Int))) (fun _ hk => hk.2) (.slice none 0 0)) (fun _ hk => trivial)⟩, ⟨by (with_reducible repeat (first | apply Kd.R_alloc | apply Kd.R_drewN | apply Kd.R_drew)); exact Kd.R_mono (Kd.R_far (p := ⟨gb662, 1, none⟩) (Kd.R_far (p := ⟨gb662, 0, none⟩) (Kd.R_types HO_618001.out BK662.out (by decide)) (fun _ hk => hk.2) (.int .i64 (t618.length : Int))) (fun _ hk => hk.2) (.slice none 0 0)) (fun _ hk => (by simp [Value.ownBlock]))⟩, ⟨by first | exact Kd.R_nil _ _ _ _ _ | exact Kd.N_nil _ _ _ _ _ | exact Kd.V_nil _ _ _ _ _ | exact Kd.Q_nil _ _ _ _ _ | exact Kd.S_nil _ _ _ _ _⟩, ⟨by (with_reducible repeat (first | refine blk_drewN ?_ _ | refine blk_drew ?_ | refine blk_alloc ?_ _)); refine blk_far ?_ NB611_662.out _; (with_reducible repeat (first | refine blk_drewN ?_ _ | refine blk_drew ?_ | refine blk_alloc ?_ _)); refine blk_far ?_ NB611_662.out _; (with_reducible repeat (first | refine blk_drewN ?_ _ | refine blk_drew ?_ | refine blk_alloc ?_ _)); exact BK611.out⟩, ⟨by (with_reducible repeat (first | refine blk_drewN ?_ _ | refine blk_drew ?_ | refine blk_alloc ?_ _)); refine blk_far ?_ NB617_662.out _; (with_reducible repeat (first | refine blk_drewN ?_ _ | refine blk_drew ?_ | refine blk_alloc ?_ _)); refine blk_far ?_ NB617_662.out _; (with_reducible repeat (first | refine blk_drewN ?_ _ | refine blk_drew ?_ | refine blk_alloc ?_ _)); exact BK617.out⟩, ⟨by (with_reducible repeat (first | refine blk_drewN ?_ _ | refine blk_drew ?_ | refine blk_alloc ?_ _)); refine blk_put (cs := #[.int .i64 (t618.length : Int), .slice none 0 0]) ?_ 1 _ rfl; (with_reducible repeat (first | refine blk_drewN ?_ _ | refine blk_drew ?_ | refine blk_alloc ?_ _)); refine blk_put (cs := #[.int .i64 0, .slice none 0 0]) ?_ 0 _ rfl; (with_reducible repeat (first | refine blk_drewN ?_ _ | refine blk_drew ?_ | refine blk_alloc ?_ _)); exact BK662.out⟩, ⟨by repeat (first | (with_reducible first | exact HB.out | apply below_alloc | apply pw_below_drewN | apply below_drew1 | refine below_set ?_ GE611.out | refine below_set ?_ GE617.out | refine below_set ?_ GE662.out) | exact HB.out)⟩⟩
           case round => as_aux_lemma =>
            clear H'
            try clear c1
            try clear c2
            try clear p2
            try clear c3
            try clear c5
            try clear c6
            try clear p6
            try clear q6
            try clear hx6
            try clear qi6
            try clear c7
            try clear c8
            try clear c9
            try clear c10
            try clear c20
            try clear c20b0
            try clear c22
            try clear c23
            try clear c24
            try clear c31
            try clear c50
            try clear c50b0
            try clear c52
            try clear c53
            try clear c54
            try clear c55
            try clear c56
            try clear c59
            try clear c59b0
            try clear c59b1
            try clear c61
            try clear c62
            try clear p62
            try clear q62
            try clear hx62
            try clear c63
            try clear c63b0
            try clear c64
            try clear p64
            try clear q64
            try clear hx64
            try clear qi64
            try clear c65
            try clear p65
            try clear q65
            try clear hx65
            try clear p66
            try clear q66
            try clear hx66
            try clear c68
            try clear c68b0
            try clear c70
            try clear c73
            try clear c73b0
            try clear c74
            try clear c74b0
            try clear c75
            try clear c75b0
            try clear c76
            try clear c76b0
            try clear c77
            try clear c77b0
            try clear c77b1
            try clear c77b2
            try clear c78
            try clear c85
            try clear c85b0
            try clear c86
            try clear c86b0
            try clear c87
            try clear c87b0
            try clear c88
            try clear c88b0
            try clear c89
            try clear c89b0
            try clear c89b1
            try clear c89b2
            try clear c90
            try clear c95
            try clear c97
            try clear c100
            try clear c101
            try clear hcz102_0
            try clear hcz102_1
            try clear hcz62_0
            try clear hcz62_1
            try clear hcz66_0
            try clear hcz66_1
            try clear hcz79_0
            try clear hcz79_1
            try clear hcz91_0
            try clear hcz91_1
            try clear hcz96_0
            try clear hcz96_1
            try clear hcz98_0
            try clear hcz98_1
            try clear hfz102_0
            try clear hfz102_1
            try clear hfz62_0
            try clear hfz62_1
            try clear hfz66_0
            try clear hfz66_1
            try clear hfz79_0
            try clear hfz79_1
            try clear hfz91_0
            try clear hfz91_1
            try clear hfz96_0
            try clear hfz96_1
            try clear hfz98_0
            try clear hfz98_1
            try clear hx624_0
            try clear hx645_0
            try clear hx646_0
            try clear hx647_0
            try clear hx648_0
            try clear hx649_0
            try clear hx658_0
            try clear hx659_0
            try clear hx660_0
            try clear hx661_0
            try clear p2
            try clear p6
            try clear p62
            try clear p624
            try clear p64
            try clear p645
            try clear p646
            try clear p647
            try clear p648
            try clear p649
            try clear p658
            try clear p659
            try clear p660
            try clear p661
            try clear q6
            try clear q62
            try clear q624
            try clear q64
            try clear q645
            try clear q646
            try clear q647
            try clear q648
            try clear q649
            try clear q658
            try clear q659
            try clear q660
            try clear q661
            obtain ⟨x15_3, x16_3, x663001_3, u663001, rfl, rfl, HA, HK3, HO_5, HO_6, HO_618001, HO_663001, BK611, BK617, BK662, HB⟩ := hrel
            cases gk with
            | zero => exact absurd HA.out (by simp [wireloomlaw05_DigraphComponents.l4])
            | succ k3 =>
             have H := HA.out
             clear HA
             simp only [wireloomlaw05_DigraphComponents.l4] at H
             by_cases c103 : x16_3 < (t614.length : Int)
             ·rw [if_pos c103] at H
              have c103b0 : decide (x16_3 < (t614.length : Int)) = true := decide_eq_true c103
              clear c103
              by_cases c104 : 0 ≤ x16_3
              ·rw [if_pos c104] at H
               have c104b0 : decide (0 ≤ x16_3) = true := decide_eq_true c104
               clear c104
               by_cases c105 : 0 ≤ ((rd_T55 t614 x16_3).f0)
               ·rw [if_pos c105] at H
                have c105b0 : decide (0 ≤ ((rd_T55 t614 x16_3).f0)) = true := decide_eq_true c105
                clear c105
                by_cases c106 : ((rd_T55 t614 x16_3).f0) < (x6_1.length : Int)
                ·rw [if_pos c106] at H
                 have c106b0 : decide (((rd_T55 t614 x16_3).f0) < (x6_1.length : Int)) = true := decide_eq_true c106
                 clear c106
                 by_cases c107 : 0 ≤ ((rd_T55 t614 x16_3).f1)
                 ·rw [if_pos c107] at H
                  have c107b0 : decide (0 ≤ ((rd_T55 t614 x16_3).f1)) = true := decide_eq_true c107
                  clear c107
                  by_cases c108 : ((rd_T55 t614 x16_3).f1) < (x6_1.length : Int)
                  ·rw [if_pos c108] at H
                   have c108b0 : decide (((rd_T55 t614 x16_3).f1) < (x6_1.length : Int)) = true := decide_eq_true c108
                   clear c108
                   by_cases c109 : x15_3 = true
                   ·subst c109
                    have H1 : (if (wrap64 ((rd x6_1 ((rd_T55 t614 x16_3).f0)) - 1)) = (wrap64 ((rd x6_1 ((rd_T55 t614 x16_3).f1)) - 1)) then (wireloomlaw05_DigraphComponents.l4 k3 true t618 x6_1 true (wrap64 (x16_3 + 1)) t613 t614 (t618.length : Int) x663001_3) else (if x663001_3.length < 8796093022208 then (wireloomlaw05_DigraphComponents.l4 k3 true t618 x6_1 true (wrap64 (x16_3 + 1)) t613 t614 (t618.length : Int) (x663001_3 ++ [(⟨wrap64 ((rd x6_1 ((rd_T55 t614 x16_3).f0)) - 1), wrap64 ((rd x6_1 ((rd_T55 t614 x16_3).f1)) - 1)⟩ : S55)])) else (none))) = some r := by rw [if_pos rfl] at H; exact H
                    clear H
                    have H := H1
                    clear H1
                    by_cases c110 : (wrap64 ((rd x6_1 ((rd_T55 t614 x16_3).f0)) - 1)) = (wrap64 ((rd x6_1 ((rd_T55 t614 x16_3).f1)) - 1))
                    ·rw [if_pos c110] at H
                     have c110b0 : ((wrap64 ((rd x6_1 ((rd_T55 t614 x16_3).f0)) - 1)) == (wrap64 ((rd x6_1 ((rd_T55 t614 x16_3).f1)) - 1))) = true := beq_iff_eq.mpr c110
                     have c110b1 : ((wrap64 ((rd x6_1 ((rd_T55 t614 x16_3).f0)) - 1)) != (wrap64 ((rd x6_1 ((rd_T55 t614 x16_3).f1)) - 1))) = false := bne_eq_false_iff_eq.mpr c110
                     clear c110
                     have H' := Aside0.mk H
                     clear H
                     have hnb111 := NB617_611.out
                     have hnc111 := NB611_617.out
                     have hnb112 := NB617_662.out
                     have hnc112 := NB662_617.out
                     have hcz113_0 : wr.cell? ⟨gb617, 0, none⟩ = some (.int .i64 t613) := (blk_cell BK617.out 0).trans rfl
                     have hcz113_1 : wr.cell? ⟨gb617, 1, none⟩ = some (.slice Ao15 t614.length co15) := (blk_cell BK617.out 1).trans rfl
                     have hfz113_0 := blk_frozen BK617.out 0
                     have hfz113_1 := blk_frozen BK617.out 1
                     have p663 : 0 ≤ (x16_3 : Int) := of_decide_eq_true (by first | (with_reducible assumption) | assumption)
                     have q663 : x16_3 < (t614.length : Int) := of_decide_eq_true (by first | (with_reducible assumption) | assumption)
                     obtain ⟨ad663, e663, hx663_0, hx663_1⟩ := at_T55 (Kd.R_reads' HO_618001.out).2.2 x16_3 p663 q663
                     cases e663
                     replace p663 := eq_true p663
                     replace q663 := eq_true q663
                     obtain ⟨Ao114, co114, eo114⟩ := Kd.R_slice HO_6.out
                     subst eo114
                     have p664 : 0 ≤ (((rd_T55 t614 x16_3).f0) : Int) := of_decide_eq_true (by first | (with_reducible assumption) | assumption)
                     have q664 : ((rd_T55 t614 x16_3).f0) < (x6_1.length : Int) := of_decide_eq_true (by first | (with_reducible assumption) | assumption)
                     obtain ⟨ad664, e664, hx664_0⟩ := Kd.at_int (Kd.R_reads' HO_6.out).2.2 ((rd_T55 t614 x16_3).f0) p664 q664
                     cases e664
                     replace p664 := eq_true p664
                     replace q664 := eq_true q664
                     have p665 : 0 ≤ (x16_3 : Int) := of_decide_eq_true (by first | (with_reducible assumption) | assumption)
                     have q665 : x16_3 < (t614.length : Int) := of_decide_eq_true (by first | (with_reducible assumption) | assumption)
                     obtain ⟨ad665, e665, hx665_0, hx665_1⟩ := at_T55 (Kd.R_reads' HO_618001.out).2.2 x16_3 p665 q665
                     obtain rfl : ad663 = ad665 := (by injection e665)
                     replace p665 := eq_true p665
                     replace q665 := eq_true q665
                     have p666 : 0 ≤ (((rd_T55 t614 x16_3).f1) : Int) := of_decide_eq_true (by first | (with_reducible assumption) | assumption)
                     have q666 : ((rd_T55 t614 x16_3).f1) < (x6_1.length : Int) := of_decide_eq_true (by first | (with_reducible assumption) | assumption)
                     obtain ⟨ad666, e666, hx666_0⟩ := Kd.at_int (Kd.R_reads' HO_6.out).2.2 ((rd_T55 t614 x16_3).f1) p666 q666
                     obtain rfl : ad664 = ad666 := (by injection e666)
                     replace p666 := eq_true p666
                     replace q666 := eq_true q666
                     try go_wp2
                     have n0_ := Aside0.mk (Kd.S_drew HO_5.out)
                     have n1_ := Aside0.mk (Kd.R_drew HO_6.out)
                     have n2_ := Aside0.mk (Kd.R_drew HO_618001.out)
                     have n3_ := Aside0.mk (Kd.R_drew HO_663001.out)
                     have n4_ := Aside0.mk (blk_drew BK611.out)
                     have n5_ := Aside0.mk (blk_drew BK617.out)
                     have n6_ := Aside0.mk (blk_drew BK662.out)
                     have n7_ := Aside0.mk (below_drew1 HB.out)
                     clear HO_5
                     clear HO_6
                     clear HO_618001
                     clear HO_663001
                     clear BK611
                     clear BK617
                     clear BK662
                     clear HB
                     have HO_5 := n0_
                     have HO_6 := n1_
                     have HO_618001 := n2_
                     have HO_663001 := n3_
                     have BK611 := n4_
                     have BK617 := n5_
                     have BK662 := n6_
                     have HB := n7_
                     clear n0_ n1_ n2_ n3_ n4_ n5_ n6_ n7_
                     refine start_ (n := 17) (S := fun w' => True) (ds := []) #[false, false, false, false, false, false, false, false, false, false, false, false, false, false, false, false, false] (by kernel_rfl) rfl rfl trivial (fun hHeld => ?_); refine with_tabW wireloomlaw05_DigraphComponents.tab39 wireloomlaw05_DigraphComponents.bits39 (fun HT_ HW_ => ?_)
                     generalize wr.drew = w115 at HO_5 HO_6 HO_618001 HO_663001 BK611 BK617 BK662 HB hHeld ⊢
                     refine pV 0 217 (bz 17 0x1) HT_.out ?_
                     refine pV 1 218 (bz 17 0x3) HT_.out ?_
                     refine pU 2 219 (bz 17 0x7) HT_.out ?_
                     refine pU 3 220 (bz 17 0xf) HT_.out ?_
                     refine pU 4 221 (bz 17 0x1f) HT_.out ?_
                     refine pU 5 222 (bz 17 0x3f) HT_.out ?_
                     refine pU 6 223 (bz 17 0x7f) HT_.out ?_
                     refine pU 7 224 (bz 17 0xff) HT_.out ?_
                     refine pU 8 225 (bz 17 0x1ff) HT_.out ?_
                     refine pU 9 226 (bz 17 0x3ff) HT_.out ?_
                     refine pU 10 227 (bz 17 0x7ff) HT_.out ?_
                     refine pU 11 228 (bz 17 0xfff) HT_.out ?_
                     refine pU 12 229 (bz 17 0x1fff) HT_.out ?_
                     refine pU 13 230 (bz 17 0x3fff) HT_.out ?_
                     refine pU 14 231 (bz 17 0x7fff) HT_.out ?_
                     refine pV 15 232 (bz 17 0xffff) HT_.out ?_
                     refine pV 16 15 (bz 17 0x1ffff) HT_.out ?_
                     refine done_ (done_of HT_.out (by kernel_rfl)) ?_
                     try go_wp2
                     go_roundg k3
                     case measure => have := HK1.out; have := HK2.out; have := HK3.out; omega
                     case rel => exact ⟨(true), (wrap64 (x16_3 + 1)), (x663001_3), (u663001), (by first | rfl | (simp; done) | (simp [*]; done)), (by first | rfl | (simp; done) | (simp [*]; done)), H', ⟨by have := HK1.out; have := HK2.out; have := HK3.out; omega⟩, ⟨by (with_reducible repeat (first | apply Kd.S_alloc | apply Kd.S_drewN | apply Kd.S_drew)); first | exact HO_5.out | exact Kd.S_mono HO_5.out (fun _ hk => ⟨hk.2, hk.1⟩)⟩, ⟨rA HO_6.out⟩, ⟨rA HO_618001.out⟩, ⟨rA HO_663001.out⟩, ⟨bA BK611.out⟩, ⟨bA BK617.out⟩, ⟨bA BK662.out⟩, ⟨by repeat (first | (with_reducible first | exact HB.out | apply below_alloc | apply pw_below_drewN | apply below_drew1 | refine below_set ?_ GE611.out | refine below_set ?_ GE617.out | refine below_set ?_ GE662.out) | exact HB.out)⟩⟩
                    ·rw [if_neg c110] at H
                     have c110b0 : ((wrap64 ((rd x6_1 ((rd_T55 t614 x16_3).f0)) - 1)) == (wrap64 ((rd x6_1 ((rd_T55 t614 x16_3).f1)) - 1))) = false := beq_eq_false_iff_ne.mpr c110
                     have c110b1 : ((wrap64 ((rd x6_1 ((rd_T55 t614 x16_3).f0)) - 1)) != (wrap64 ((rd x6_1 ((rd_T55 t614 x16_3).f1)) - 1))) = true := bne_iff_ne.mpr c110
                     by_cases c116 : x663001_3.length < 8796093022208
                     ·rw [if_pos c116] at H
                      have LMc116 := Aside0.mk c116
                      clear c116
                      obtain ⟨y667, hy667⟩ : ∃ y_ : List (S55), y_ = (x663001_3 ++ [(⟨wrap64 ((rd x6_1 ((rd_T55 t614 x16_3).f0)) - 1), wrap64 ((rd x6_1 ((rd_T55 t614 x16_3).f1)) - 1)⟩ : S55)]) := ⟨_, rfl⟩
                      replace H : (wireloomlaw05_DigraphComponents.l4 k3 true t618 x6_1 true (wrap64 (x16_3 + 1)) t613 t614 (t618.length : Int) y667) = some r := by first | (rw [hy667]; with_reducible exact H) | (have H2_ := (Option.bind_some _ _).symm.trans H; rw [hy667]; with_reducible exact H2_) | (have H2_ := (Option.bind_some _ _).symm.trans H; with_reducible exact H2_) | with_reducible exact H | (rw [hy667]; exact H) | exact H
                      have Ny667 := Aside0.mk hy667
                      clear hy667
                      have H' := Aside0.mk H
                      clear H
                      have hnb117 := NB617_611.out
                      have hnc117 := NB611_617.out
                      have hnb118 := NB617_662.out
                      have hnc118 := NB662_617.out
                      have hcz119_0 : wr.cell? ⟨gb617, 0, none⟩ = some (.int .i64 t613) := (blk_cell BK617.out 0).trans rfl
                      have hcz119_1 : wr.cell? ⟨gb617, 1, none⟩ = some (.slice Ao15 t614.length co15) := (blk_cell BK617.out 1).trans rfl
                      have hfz119_0 := blk_frozen BK617.out 0
                      have hfz119_1 := blk_frozen BK617.out 1
                      have p663 : 0 ≤ (x16_3 : Int) := of_decide_eq_true (by first | (with_reducible assumption) | assumption)
                      have q663 : x16_3 < (t614.length : Int) := of_decide_eq_true (by first | (with_reducible assumption) | assumption)
                      obtain ⟨ad663, e663, hx663_0, hx663_1⟩ := at_T55 (Kd.R_reads' HO_618001.out).2.2 x16_3 p663 q663
                      cases e663
                      replace p663 := eq_true p663
                      replace q663 := eq_true q663
                      obtain ⟨Ao120, co120, eo120⟩ := Kd.R_slice HO_6.out
                      subst eo120
                      have p664 : 0 ≤ (((rd_T55 t614 x16_3).f0) : Int) := of_decide_eq_true (by first | (with_reducible assumption) | assumption)
                      have q664 : ((rd_T55 t614 x16_3).f0) < (x6_1.length : Int) := of_decide_eq_true (by first | (with_reducible assumption) | assumption)
                      obtain ⟨ad664, e664, hx664_0⟩ := Kd.at_int (Kd.R_reads' HO_6.out).2.2 ((rd_T55 t614 x16_3).f0) p664 q664
                      cases e664
                      replace p664 := eq_true p664
                      replace q664 := eq_true q664
                      have p665 : 0 ≤ (x16_3 : Int) := of_decide_eq_true (by first | (with_reducible assumption) | assumption)
                      have q665 : x16_3 < (t614.length : Int) := of_decide_eq_true (by first | (with_reducible assumption) | assumption)
                      obtain ⟨ad665, e665, hx665_0, hx665_1⟩ := at_T55 (Kd.R_reads' HO_618001.out).2.2 x16_3 p665 q665
                      obtain rfl : ad663 = ad665 := (by injection e665)
                      replace p665 := eq_true p665
                      replace q665 := eq_true q665
                      have p666 : 0 ≤ (((rd_T55 t614 x16_3).f1) : Int) := of_decide_eq_true (by first | (with_reducible assumption) | assumption)
                      have q666 : ((rd_T55 t614 x16_3).f1) < (x6_1.length : Int) := of_decide_eq_true (by first | (with_reducible assumption) | assumption)
                      obtain ⟨ad666, e666, hx666_0⟩ := Kd.at_int (Kd.R_reads' HO_6.out).2.2 ((rd_T55 t614 x16_3).f1) p666 q666
                      obtain rfl : ad664 = ad666 := (by injection e666)
                      replace p666 := eq_true p666
                      replace q666 := eq_true q666
                      try go_wp2
                      have n0_ := Aside0.mk (Kd.S_drew HO_5.out)
                      have n1_ := Aside0.mk (Kd.R_drew HO_6.out)
                      have n2_ := Aside0.mk (Kd.R_drew HO_618001.out)
                      have n3_ := Aside0.mk (Kd.R_drew HO_663001.out)
                      have n4_ := Aside0.mk (blk_drew BK611.out)
                      have n5_ := Aside0.mk (blk_drew BK617.out)
                      have n6_ := Aside0.mk (blk_drew BK662.out)
                      have n7_ := Aside0.mk (below_drew1 HB.out)
                      clear HO_5
                      clear HO_6
                      clear HO_618001
                      clear HO_663001
                      clear BK611
                      clear BK617
                      clear BK662
                      clear HB
                      have HO_5 := n0_
                      have HO_6 := n1_
                      have HO_618001 := n2_
                      have HO_663001 := n3_
                      have BK611 := n4_
                      have BK617 := n5_
                      have BK662 := n6_
                      have HB := n7_
                      clear n0_ n1_ n2_ n3_ n4_ n5_ n6_ n7_
                      refine start_ (n := 17) (S := fun w' => True) (ds := []) #[false, false, false, false, false, false, false, false, false, false, false, false, false, false, false, false, false] (by kernel_rfl) rfl rfl trivial (fun hHeld => ?_); refine with_tabW wireloomlaw05_DigraphComponents.tab39 wireloomlaw05_DigraphComponents.bits39 (fun HT_ HW_ => ?_)
                      generalize wr.drew = w121 at HO_5 HO_6 HO_618001 HO_663001 BK611 BK617 BK662 HB hHeld ⊢
                      refine pV 0 217 (bz 17 0x1) HT_.out ?_
                      refine pV 1 218 (bz 17 0x3) HT_.out ?_
                      refine pU 2 219 (bz 17 0x7) HT_.out ?_
                      refine pU 3 220 (bz 17 0xf) HT_.out ?_
                      refine pU 4 221 (bz 17 0x1f) HT_.out ?_
                      refine pU 5 222 (bz 17 0x3f) HT_.out ?_
                      refine pU 6 223 (bz 17 0x7f) HT_.out ?_
                      refine pU 7 224 (bz 17 0xff) HT_.out ?_
                      refine pU 8 225 (bz 17 0x1ff) HT_.out ?_
                      refine pU 9 226 (bz 17 0x3ff) HT_.out ?_
                      refine pU 10 227 (bz 17 0x7ff) HT_.out ?_
                      refine pU 11 228 (bz 17 0xfff) HT_.out ?_
                      refine pU 12 229 (bz 17 0x1fff) HT_.out ?_
                      refine pU 13 230 (bz 17 0x3fff) HT_.out ?_
                      refine pU 14 231 (bz 17 0x7fff) HT_.out ?_
                      refine pV 15 232 (bz 17 0xffff) HT_.out ?_
                      refine pV 16 15 (bz 17 0x1ffff) HT_.out ?_
                      refine done_ (done_of HT_.out (by kernel_rfl)) ?_
                      have hnb122 := NB662_611.out
                      have hnc122 := NB611_662.out
                      have hcz123_0 : w121.cell? ⟨gb662, 0, none⟩ = some (.int .i64 (t618.length : Int)) := (blk_cell BK662.out 0).trans rfl
                      have hcz123_1 : w121.cell? ⟨gb662, 1, none⟩ = some (u663001) := (blk_cell BK662.out 1).trans rfl
                      have hfz123_0 := blk_frozen BK662.out 0
                      have hfz123_1 := blk_frozen BK662.out 1
                      try go_wp2_with (first | ((with_reducible refine gate_builtin (b := .append) (xs := #[.tmp 237, .tmp 241]) rfl ?_); (try (refine gate_guard (by rfl) ?_; dsimp only)); at_builtin; refine Kd.R_append k55 (w0 := w) w.heap.size rfl (.tmp 237) (.tmp 241) 25 55 (.agg #[(.int .i64 0), (.int .i64 0)]) 16 rfl Try.underlying25 info55 rfl (by decide) (by omega) u663001 x663001_3 (⟨wrap64 ((rd x6_1 ((rd_T55 t614 x16_3).f0)) - 1), wrap64 ((rd x6_1 ((rd_T55 t614 x16_3).f1)) - 1)⟩ : S55) [.int .i64 (wrap64 ((rd x6_1 ((rd_T55 t614 x16_3).f0)) - 1)), .int .i64 (wrap64 ((rd x6_1 ((rd_T55 t614 x16_3).f1)) - 1))] (fun k_ => some k_ ≠ (.slice (some ad663) t614.length co15 : Value).ownBlock) (fun _ => False) rfl rfl ?aP (fun _ hk => hk.elim) ?aF ?aO ?aB ?aS ?aL ?_; (case aP => exact k55_mkM _ _ _ (⟨wrap64 ((rd x6_1 ((rd_T55 t614 x16_3).f0)) - 1), wrap64 ((rd x6_1 ((rd_T55 t614 x16_3).f1)) - 1)⟩ : S55)); (case aB => exact (by repeat (first | (with_reducible first | exact HB.out | apply below_alloc | apply pw_below_drewN | apply below_drew1 | refine below_set ?_ GE611.out | refine below_set ?_ GE617.out | refine below_set ?_ GE662.out) | exact HB.out))); (case aF => exact (fun k_ hk => Kd.fresh' (Kd.R_lt (rA HO_618001.out)) k_ hk)); (case aO => exact (rA HO_663001.out)); (case aS => exact (below_size (by repeat (first | (with_reducible first | exact HB.out | apply below_alloc | apply pw_below_drewN | apply below_drew1 | refine below_set ?_ GE611.out | refine below_set ?_ GE617.out | refine below_set ?_ GE662.out) | exact HB.out)))); (case aL => have := LMc116.out; omega); intro v668 w124 ho hb hg hat; rw [← Ny667.out] at ho; have n0_ := Aside0.mk (Kd.S_over' (by (with_reducible repeat (first | apply Kd.S_alloc | apply Kd.S_drewN | apply Kd.S_drew)); exact HO_5.out) (Kd.R_typed (rA HO_663001.out)) (by decide) hg); have n1_ := Aside0.mk (Kd.R_over' (rA HO_6.out) (Kd.R_typed (rA HO_663001.out)) (by decide) hg); have n2_ := Aside0.mk (Kd.R_after (ok := (fun _ => True)) (by (with_reducible repeat (first | apply Kd.R_alloc | apply Kd.R_drewN | apply Kd.R_drew)); exact Kd.R_mono HO_618001.out (fun _ hk => ⟨trivial, hk⟩)) hg hat); have n3_ := Aside0.mk (blk_grown (g := gb611) (o := .cells #[.int .u8 a0_0, .int .u8 a0_1, .slice A0_2 l0_2.length c0_2] 24 (0, 0)) (bA BK611.out) hg (Kd.R_ne HO_663001.out BK611.out (by decide))); have n4_ := Aside0.mk (blk_grown (g := gb617) (o := .cells #[.int .i64 t613, .slice (some ad663) t614.length co15] 31 (0, 0)) (bA BK617.out) hg (Kd.R_ne HO_663001.out BK617.out (by decide))); have n5_ := Aside0.mk (blk_grown (g := gb662) (o := .cells #[.int .i64 (t618.length : Int), u663001] 31 (0, 0)) (bA BK662.out) hg (Kd.R_ne HO_663001.out BK662.out (by decide))); have n6_ := Aside0.mk (hb); have n7_ := Aside0.mk (ho); clear HO_5; clear HO_6; clear HO_618001; clear BK611; clear BK617; clear BK662; clear HB; clear HO_663001; have HO_5 := n0_; have HO_6 := n1_; have HO_618001 := n2_; have BK611 := n3_; have BK617 := n4_; have BK662 := n5_; have HB := n6_; have HO669 := n7_; clear n0_ n1_ n2_ n3_ n4_ n5_ n6_ n7_; clear ho hb hg hat; obtain ⟨Ao125, co125, eo125⟩ := Kd.R_slice HO669.out; subst eo125; have hcz126_0 : w124.cell? ⟨gb662, 0, none⟩ = some (.int .i64 (t618.length : Int)) := (blk_cell BK662.out 0).trans rfl; have hcz126_1 : w124.cell? ⟨gb662, 1, none⟩ = some (u663001) := (blk_cell BK662.out 1).trans rfl; have hfz126_0 := blk_frozen BK662.out 0; have hfz126_1 := blk_frozen BK662.out 1))
                      go_roundg k3
                      case measure => have := HK1.out; have := HK2.out; have := HK3.out; omega
                      case rel => exact ⟨(true), (wrap64 (x16_3 + 1)), (y667), (.slice Ao125 y667.length co125), (by first | rfl | (simp; done) | (simp [*]; done)), (by first | rfl | (simp; done) | (simp [*]; done)), H', ⟨by have := HK1.out; have := HK2.out; have := HK3.out; omega⟩, ⟨by (with_reducible repeat (first | apply Kd.S_alloc | apply Kd.S_drewN | apply Kd.S_drew)); exact Kd.S_mono (Kd.S_far (p := ⟨gb662, 1, none⟩) (Kd.S_types HO_5.out BK662.out (by decide)) (fun _ hk => hk.2) (.slice Ao125 y667.length co125)) (fun _ hk => by first | exact hk.1 | exact hk.2)⟩, ⟨by (with_reducible repeat (first | apply Kd.R_alloc | apply Kd.R_drewN | apply Kd.R_drew)); exact Kd.R_mono (Kd.R_far (p := ⟨gb662, 1, none⟩) (Kd.R_types HO_6.out BK662.out (by decide)) (fun _ hk => hk.2) (.slice Ao125 y667.length co125)) (fun _ hk => trivial)⟩, ⟨by (with_reducible repeat (first | apply Kd.R_alloc | apply Kd.R_drewN | apply Kd.R_drew)); exact Kd.R_mono (Kd.R_far (p := ⟨gb662, 1, none⟩) (Kd.R_types HO_618001.out BK662.out (by decide)) (fun _ hk => hk.2) (.slice Ao125 y667.length co125)) (fun _ hk => hk.1.2)⟩, ⟨by (with_reducible repeat (first | apply Kd.R_alloc | apply Kd.R_drewN | apply Kd.R_drew)); exact Kd.R_mono (Kd.R_far (p := ⟨gb662, 1, none⟩) (Kd.R_types HO669.out BK662.out (by decide)) (fun _ hk => hk.2) (.slice Ao125 y667.length co125)) (fun _ hk => by first | exact hk.1 | exact hk.2)⟩, ⟨by (with_reducible repeat (first | refine blk_drewN ?_ _ | refine blk_drew ?_ | refine blk_alloc ?_ _)); refine blk_far ?_ NB611_662.out _; (with_reducible repeat (first | refine blk_drewN ?_ _ | refine blk_drew ?_ | refine blk_alloc ?_ _)); exact BK611.out⟩, ⟨by (with_reducible repeat (first | refine blk_drewN ?_ _ | refine blk_drew ?_ | refine blk_alloc ?_ _)); refine blk_far ?_ NB617_662.out _; (with_reducible repeat (first | refine blk_drewN ?_ _ | refine blk_drew ?_ | refine blk_alloc ?_ _)); exact BK617.out⟩, ⟨by (with_reducible repeat (first | refine blk_drewN ?_ _ | refine blk_drew ?_ | refine blk_alloc ?_ _)); refine blk_put (cs := #[.int .i64 (t618.length : Int), u663001]) ?_ 1 _ rfl; (with_reducible repeat (first | refine blk_drewN ?_ _ | refine blk_drew ?_ | refine blk_alloc ?_ _)); exact BK662.out⟩, ⟨by repeat (first | (with_reducible first | exact HB.out | apply below_alloc | apply pw_below_drewN | apply below_drew1 | refine below_set ?_ GE611.out | refine below_set ?_ GE617.out | refine below_set ?_ GE662.out) | exact HB.out)⟩⟩
                     ·rw [if_neg c116] at H
                      exact absurd H (by simp)
                   ·replace c109 := Bool.eq_false_iff.mpr c109
                    subst c109
                    have H1 : (if (wrap64 ((rd x6_1 ((rd_T55 t614 x16_3).f0)) - 1)) = (wrap64 ((rd x6_1 ((rd_T55 t614 x16_3).f1)) - 1)) then (wireloomlaw05_DigraphComponents.l4 k3 true t618 x6_1 (((rd_T55 t614 x16_3).f0) == ((rd_T55 t614 x16_3).f1)) (wrap64 (x16_3 + 1)) t613 t614 (t618.length : Int) x663001_3) else (if x663001_3.length < 8796093022208 then (wireloomlaw05_DigraphComponents.l4 k3 true t618 x6_1 (((rd_T55 t614 x16_3).f0) == ((rd_T55 t614 x16_3).f1)) (wrap64 (x16_3 + 1)) t613 t614 (t618.length : Int) (x663001_3 ++ [(⟨wrap64 ((rd x6_1 ((rd_T55 t614 x16_3).f0)) - 1), wrap64 ((rd x6_1 ((rd_T55 t614 x16_3).f1)) - 1)⟩ : S55)])) else (none))) = some r := by rw [if_neg (show ¬ (false = true) by decide)] at H; exact H
                    clear H
                    have H := H1
                    clear H1
                    by_cases c127 : (wrap64 ((rd x6_1 ((rd_T55 t614 x16_3).f0)) - 1)) = (wrap64 ((rd x6_1 ((rd_T55 t614 x16_3).f1)) - 1))
                    ·rw [if_pos c127] at H
                     have c127b0 : ((wrap64 ((rd x6_1 ((rd_T55 t614 x16_3).f0)) - 1)) == (wrap64 ((rd x6_1 ((rd_T55 t614 x16_3).f1)) - 1))) = true := beq_iff_eq.mpr c127
                     have c127b1 : ((wrap64 ((rd x6_1 ((rd_T55 t614 x16_3).f0)) - 1)) != (wrap64 ((rd x6_1 ((rd_T55 t614 x16_3).f1)) - 1))) = false := bne_eq_false_iff_eq.mpr c127
                     clear c127
                     have H' := Aside0.mk H
                     clear H
                     have hnb128 := NB617_611.out
                     have hnc128 := NB611_617.out
                     have hnb129 := NB617_662.out
                     have hnc129 := NB662_617.out
                     have hcz130_0 : wr.cell? ⟨gb617, 0, none⟩ = some (.int .i64 t613) := (blk_cell BK617.out 0).trans rfl
                     have hcz130_1 : wr.cell? ⟨gb617, 1, none⟩ = some (.slice Ao15 t614.length co15) := (blk_cell BK617.out 1).trans rfl
                     have hfz130_0 := blk_frozen BK617.out 0
                     have hfz130_1 := blk_frozen BK617.out 1
                     have p663 : 0 ≤ (x16_3 : Int) := of_decide_eq_true (by first | (with_reducible assumption) | assumption)
                     have q663 : x16_3 < (t614.length : Int) := of_decide_eq_true (by first | (with_reducible assumption) | assumption)
                     obtain ⟨ad663, e663, hx663_0, hx663_1⟩ := at_T55 (Kd.R_reads' HO_618001.out).2.2 x16_3 p663 q663
                     cases e663
                     replace p663 := eq_true p663
                     replace q663 := eq_true q663
                     obtain ⟨Ao131, co131, eo131⟩ := Kd.R_slice HO_6.out
                     subst eo131
                     have p664 : 0 ≤ (((rd_T55 t614 x16_3).f0) : Int) := of_decide_eq_true (by first | (with_reducible assumption) | assumption)
                     have q664 : ((rd_T55 t614 x16_3).f0) < (x6_1.length : Int) := of_decide_eq_true (by first | (with_reducible assumption) | assumption)
                     obtain ⟨ad664, e664, hx664_0⟩ := Kd.at_int (Kd.R_reads' HO_6.out).2.2 ((rd_T55 t614 x16_3).f0) p664 q664
                     cases e664
                     replace p664 := eq_true p664
                     replace q664 := eq_true q664
                     have p665 : 0 ≤ (x16_3 : Int) := of_decide_eq_true (by first | (with_reducible assumption) | assumption)
                     have q665 : x16_3 < (t614.length : Int) := of_decide_eq_true (by first | (with_reducible assumption) | assumption)
                     obtain ⟨ad665, e665, hx665_0, hx665_1⟩ := at_T55 (Kd.R_reads' HO_618001.out).2.2 x16_3 p665 q665
                     obtain rfl : ad663 = ad665 := (by injection e665)
                     replace p665 := eq_true p665
                     replace q665 := eq_true q665
                     have p666 : 0 ≤ (((rd_T55 t614 x16_3).f1) : Int) := of_decide_eq_true (by first | (with_reducible assumption) | assumption)
                     have q666 : ((rd_T55 t614 x16_3).f1) < (x6_1.length : Int) := of_decide_eq_true (by first | (with_reducible assumption) | assumption)
                     obtain ⟨ad666, e666, hx666_0⟩ := Kd.at_int (Kd.R_reads' HO_6.out).2.2 ((rd_T55 t614 x16_3).f1) p666 q666
                     obtain rfl : ad664 = ad666 := (by injection e666)
                     replace p666 := eq_true p666
                     replace q666 := eq_true q666
                     try go_wp2
                     have n0_ := Aside0.mk (Kd.S_drew HO_5.out)
                     have n1_ := Aside0.mk (Kd.R_drew HO_6.out)
                     have n2_ := Aside0.mk (Kd.R_drew HO_618001.out)
                     have n3_ := Aside0.mk (Kd.R_drew HO_663001.out)
                     have n4_ := Aside0.mk (blk_drew BK611.out)
                     have n5_ := Aside0.mk (blk_drew BK617.out)
                     have n6_ := Aside0.mk (blk_drew BK662.out)
                     have n7_ := Aside0.mk (below_drew1 HB.out)
                     clear HO_5
                     clear HO_6
                     clear HO_618001
                     clear HO_663001
                     clear BK611
                     clear BK617
                     clear BK662
                     clear HB
                     have HO_5 := n0_
                     have HO_6 := n1_
                     have HO_618001 := n2_
                     have HO_663001 := n3_
                     have BK611 := n4_
                     have BK617 := n5_
                     have BK662 := n6_
                     have HB := n7_
                     clear n0_ n1_ n2_ n3_ n4_ n5_ n6_ n7_
                     have p670 : 0 ≤ (x16_3 : Int) := of_decide_eq_true (by first | (with_reducible assumption) | assumption)
                     have q670 : x16_3 < (t614.length : Int) := of_decide_eq_true (by first | (with_reducible assumption) | assumption)
                     obtain ⟨ad670, e670, hx670_0, hx670_1⟩ := at_T55 (Kd.R_reads' HO_618001.out).2.2 x16_3 p670 q670
                     obtain rfl : ad663 = ad670 := (by injection e670)
                     replace p670 := eq_true p670
                     replace q670 := eq_true q670
                     have p671 : 0 ≤ (x16_3 : Int) := of_decide_eq_true (by first | (with_reducible assumption) | assumption)
                     have q671 : x16_3 < (t614.length : Int) := of_decide_eq_true (by first | (with_reducible assumption) | assumption)
                     obtain ⟨ad671, e671, hx671_0, hx671_1⟩ := at_T55 (Kd.R_reads' HO_618001.out).2.2 x16_3 p671 q671
                     obtain rfl : ad663 = ad671 := (by injection e671)
                     replace p671 := eq_true p671
                     replace q671 := eq_true q671
                     refine start_ (n := 17) (S := fun w' => w'.cell? ⟨gb617, 0, none⟩ = some (.int .i64 t613) ∧ w'.cell? ⟨gb617, 1, none⟩ = some (.slice (some ad663) t614.length co15) ∧ w'.cell? (ad663.add ((x16_3).toNat * 2)) = some (.int .i64 ((rd_T55 t614 x16_3).f0)) ∧ w'.cell? ⟨(ad663.add ((x16_3).toNat * 2)).block, (ad663.add ((x16_3).toNat * 2)).off + 1, none⟩ = some (.int .i64 ((rd_T55 t614 x16_3).f1)) ∧ w'.cell? (ad663.add ((x16_3).toNat * 2)) = some (.int .i64 ((rd_T55 t614 x16_3).f0)) ∧ w'.cell? ⟨(ad663.add ((x16_3).toNat * 2)).block, (ad663.add ((x16_3).toNat * 2)).off + 1, none⟩ = some (.int .i64 ((rd_T55 t614 x16_3).f1))) (ds := []) #[false, false, false, false, false, false, false, false, false, false, false, false, false, false, false, false, false] (by kernel_rfl) rfl rfl ⟨(blk_cell BK617.out 0).trans rfl, (blk_cell BK617.out 1).trans rfl, hx670_0, hx670_1, hx671_0, hx671_1⟩ (fun hHeld => ?_); refine with_tabW wireloomlaw05_DigraphComponents.tab39 wireloomlaw05_DigraphComponents.bits39 (fun HT_ HW_ => ?_)
                     generalize wr.drew = w132 at HO_5 HO_6 HO_618001 HO_663001 BK611 BK617 BK662 HB hx670_0 hx670_1 hx671_0 hx671_1 hHeld ⊢
                     refine pV 0 217 (bz 17 0x1) HT_.out ?_
                     refine pV 1 218 (bz 17 0x3) HT_.out ?_
                     refine pV 2 219 (bz 17 0x7) HT_.out ?_
                     refine pV 4 221 (bz 17 0x17) HT_.out ?_
                     refine pV 8 225 (bz 17 0x117) HT_.out ?_
                     refine pV 10 227 (bz 17 0x517) HT_.out ?_
                     refine tV 3 220 (bz 17 0x51f) HT_.out HW_.out hHeld rfl rfl (by rintro w' ⟨s0, s1, s2, s3, s4, s5⟩; go_simp; with_reducible rfl) ?_
                     refine pV 5 222 (bz 17 0x53f) HT_.out ?_
                     refine pV 6 223 (bz 17 0x57f) HT_.out ?_
                     refine tV 7 224 (bz 17 0x5ff) HT_.out HW_.out hHeld rfl rfl (by rintro w' ⟨s0, s1, s2, s3, s4, s5⟩; go_simp; with_reducible rfl) ?_
                     refine tV 9 226 (bz 17 0x7ff) HT_.out HW_.out hHeld rfl rfl (by rintro w' ⟨s0, s1, s2, s3, s4, s5⟩; go_simp; with_reducible rfl) ?_
                     refine pV 11 228 (bz 17 0xfff) HT_.out ?_
                     refine pV 12 229 (bz 17 0x1fff) HT_.out ?_
                     refine tV 13 230 (bz 17 0x3fff) HT_.out HW_.out hHeld rfl rfl (by rintro w' ⟨s0, s1, s2, s3, s4, s5⟩; go_simp; with_reducible rfl) ?_
                     refine pV 14 231 (bz 17 0x7fff) HT_.out ?_
                     refine pV 15 232 (bz 17 0xffff) HT_.out ?_
                     refine pV 16 15 (bz 17 0x1ffff) HT_.out ?_
                     refine done_ (done_of HT_.out (by kernel_rfl)) ?_
                     try go_wp2
                     go_roundg k3
                     case measure => have := HK1.out; have := HK2.out; have := HK3.out; omega
                     case rel => exact ⟨((((rd_T55 t614 x16_3).f0) == ((rd_T55 t614 x16_3).f1))), (wrap64 (x16_3 + 1)), (x663001_3), (u663001), (by first | rfl | (simp; done) | (simp [*]; done)), (by first | rfl | (simp; done) | (simp [*]; done)), H', ⟨by have := HK1.out; have := HK2.out; have := HK3.out; omega⟩, ⟨by (with_reducible repeat (first | apply Kd.S_alloc | apply Kd.S_drewN | apply Kd.S_drew)); first | exact HO_5.out | exact Kd.S_mono HO_5.out (fun _ hk => ⟨hk.2, hk.1⟩)⟩, ⟨rA HO_6.out⟩, ⟨rA HO_618001.out⟩, ⟨rA HO_663001.out⟩, ⟨bA BK611.out⟩, ⟨bA BK617.out⟩, ⟨bA BK662.out⟩, ⟨by repeat (first | (with_reducible first | exact HB.out | apply below_alloc | apply pw_below_drewN | apply below_drew1 | refine below_set ?_ GE611.out | refine below_set ?_ GE617.out | refine below_set ?_ GE662.out) | exact HB.out)⟩⟩
                    ·rw [if_neg c127] at H
                     have c127b0 : ((wrap64 ((rd x6_1 ((rd_T55 t614 x16_3).f0)) - 1)) == (wrap64 ((rd x6_1 ((rd_T55 t614 x16_3).f1)) - 1))) = false := beq_eq_false_iff_ne.mpr c127
                     have c127b1 : ((wrap64 ((rd x6_1 ((rd_T55 t614 x16_3).f0)) - 1)) != (wrap64 ((rd x6_1 ((rd_T55 t614 x16_3).f1)) - 1))) = true := bne_iff_ne.mpr c127
                     by_cases c133 : x663001_3.length < 8796093022208
                     ·rw [if_pos c133] at H
                      have LMc133 := Aside0.mk c133
                      clear c133
                      obtain ⟨y672, hy672⟩ : ∃ y_ : List (S55), y_ = (x663001_3 ++ [(⟨wrap64 ((rd x6_1 ((rd_T55 t614 x16_3).f0)) - 1), wrap64 ((rd x6_1 ((rd_T55 t614 x16_3).f1)) - 1)⟩ : S55)]) := ⟨_, rfl⟩
                      replace H : (wireloomlaw05_DigraphComponents.l4 k3 true t618 x6_1 (((rd_T55 t614 x16_3).f0) == ((rd_T55 t614 x16_3).f1)) (wrap64 (x16_3 + 1)) t613 t614 (t618.length : Int) y672) = some r := by first | (rw [hy672]; with_reducible exact H) | (have H2_ := (Option.bind_some _ _).symm.trans H; rw [hy672]; with_reducible exact H2_) | (have H2_ := (Option.bind_some _ _).symm.trans H; with_reducible exact H2_) | with_reducible exact H | (rw [hy672]; exact H) | exact H
                      have Ny672 := Aside0.mk hy672
                      clear hy672
                      have H' := Aside0.mk H
                      clear H
                      have hnb134 := NB617_611.out
                      have hnc134 := NB611_617.out
                      have hnb135 := NB617_662.out
                      have hnc135 := NB662_617.out
                      have hcz136_0 : wr.cell? ⟨gb617, 0, none⟩ = some (.int .i64 t613) := (blk_cell BK617.out 0).trans rfl
                      have hcz136_1 : wr.cell? ⟨gb617, 1, none⟩ = some (.slice Ao15 t614.length co15) := (blk_cell BK617.out 1).trans rfl
                      have hfz136_0 := blk_frozen BK617.out 0
                      have hfz136_1 := blk_frozen BK617.out 1
                      have p663 : 0 ≤ (x16_3 : Int) := of_decide_eq_true (by first | (with_reducible assumption) | assumption)
                      have q663 : x16_3 < (t614.length : Int) := of_decide_eq_true (by first | (with_reducible assumption) | assumption)
                      obtain ⟨ad663, e663, hx663_0, hx663_1⟩ := at_T55 (Kd.R_reads' HO_618001.out).2.2 x16_3 p663 q663
                      cases e663
                      replace p663 := eq_true p663
                      replace q663 := eq_true q663
                      obtain ⟨Ao137, co137, eo137⟩ := Kd.R_slice HO_6.out
                      subst eo137
                      have p664 : 0 ≤ (((rd_T55 t614 x16_3).f0) : Int) := of_decide_eq_true (by first | (with_reducible assumption) | assumption)
                      have q664 : ((rd_T55 t614 x16_3).f0) < (x6_1.length : Int) := of_decide_eq_true (by first | (with_reducible assumption) | assumption)
                      obtain ⟨ad664, e664, hx664_0⟩ := Kd.at_int (Kd.R_reads' HO_6.out).2.2 ((rd_T55 t614 x16_3).f0) p664 q664
                      cases e664
                      replace p664 := eq_true p664
                      replace q664 := eq_true q664
                      have p665 : 0 ≤ (x16_3 : Int) := of_decide_eq_true (by first | (with_reducible assumption) | assumption)
                      have q665 : x16_3 < (t614.length : Int) := of_decide_eq_true (by first | (with_reducible assumption) | assumption)
                      obtain ⟨ad665, e665, hx665_0, hx665_1⟩ := at_T55 (Kd.R_reads' HO_618001.out).2.2 x16_3 p665 q665
                      obtain rfl : ad663 = ad665 := (by injection e665)
                      replace p665 := eq_true p665
                      replace q665 := eq_true q665
                      have p666 : 0 ≤ (((rd_T55 t614 x16_3).f1) : Int) := of_decide_eq_true (by first | (with_reducible assumption) | assumption)
                      have q666 : ((rd_T55 t614 x16_3).f1) < (x6_1.length : Int) := of_decide_eq_true (by first | (with_reducible assumption) | assumption)
                      obtain ⟨ad666, e666, hx666_0⟩ := Kd.at_int (Kd.R_reads' HO_6.out).2.2 ((rd_T55 t614 x16_3).f1) p666 q666
                      obtain rfl : ad664 = ad666 := (by injection e666)
                      replace p666 := eq_true p666
                      replace q666 := eq_true q666
                      try go_wp2
                      have n0_ := Aside0.mk (Kd.S_drew HO_5.out)
                      have n1_ := Aside0.mk (Kd.R_drew HO_6.out)
                      have n2_ := Aside0.mk (Kd.R_drew HO_618001.out)
                      have n3_ := Aside0.mk (Kd.R_drew HO_663001.out)
                      have n4_ := Aside0.mk (blk_drew BK611.out)
                      have n5_ := Aside0.mk (blk_drew BK617.out)
                      have n6_ := Aside0.mk (blk_drew BK662.out)
                      have n7_ := Aside0.mk (below_drew1 HB.out)
                      clear HO_5
                      clear HO_6
                      clear HO_618001
                      clear HO_663001
                      clear BK611
                      clear BK617
                      clear BK662
                      clear HB
                      have HO_5 := n0_
                      have HO_6 := n1_
                      have HO_618001 := n2_
                      have HO_663001 := n3_
                      have BK611 := n4_
                      have BK617 := n5_
                      have BK662 := n6_
                      have HB := n7_
                      clear n0_ n1_ n2_ n3_ n4_ n5_ n6_ n7_
                      have p670 : 0 ≤ (x16_3 : Int) := of_decide_eq_true (by first | (with_reducible assumption) | assumption)
                      have q670 : x16_3 < (t614.length : Int) := of_decide_eq_true (by first | (with_reducible assumption) | assumption)
                      obtain ⟨ad670, e670, hx670_0, hx670_1⟩ := at_T55 (Kd.R_reads' HO_618001.out).2.2 x16_3 p670 q670
                      obtain rfl : ad663 = ad670 := (by injection e670)
                      replace p670 := eq_true p670
                      replace q670 := eq_true q670
                      have p671 : 0 ≤ (x16_3 : Int) := of_decide_eq_true (by first | (with_reducible assumption) | assumption)
                      have q671 : x16_3 < (t614.length : Int) := of_decide_eq_true (by first | (with_reducible assumption) | assumption)
                      obtain ⟨ad671, e671, hx671_0, hx671_1⟩ := at_T55 (Kd.R_reads' HO_618001.out).2.2 x16_3 p671 q671
                      obtain rfl : ad663 = ad671 := (by injection e671)
                      replace p671 := eq_true p671
                      replace q671 := eq_true q671
                      refine start_ (n := 17) (S := fun w' => w'.cell? ⟨gb617, 0, none⟩ = some (.int .i64 t613) ∧ w'.cell? ⟨gb617, 1, none⟩ = some (.slice (some ad663) t614.length co15) ∧ w'.cell? (ad663.add ((x16_3).toNat * 2)) = some (.int .i64 ((rd_T55 t614 x16_3).f0)) ∧ w'.cell? ⟨(ad663.add ((x16_3).toNat * 2)).block, (ad663.add ((x16_3).toNat * 2)).off + 1, none⟩ = some (.int .i64 ((rd_T55 t614 x16_3).f1)) ∧ w'.cell? (ad663.add ((x16_3).toNat * 2)) = some (.int .i64 ((rd_T55 t614 x16_3).f0)) ∧ w'.cell? ⟨(ad663.add ((x16_3).toNat * 2)).block, (ad663.add ((x16_3).toNat * 2)).off + 1, none⟩ = some (.int .i64 ((rd_T55 t614 x16_3).f1))) (ds := []) #[false, false, false, false, false, false, false, false, false, false, false, false, false, false, false, false, false] (by kernel_rfl) rfl rfl ⟨(blk_cell BK617.out 0).trans rfl, (blk_cell BK617.out 1).trans rfl, hx670_0, hx670_1, hx671_0, hx671_1⟩ (fun hHeld => ?_); refine with_tabW wireloomlaw05_DigraphComponents.tab39 wireloomlaw05_DigraphComponents.bits39 (fun HT_ HW_ => ?_)
                      generalize wr.drew = w138 at HO_5 HO_6 HO_618001 HO_663001 BK611 BK617 BK662 HB hx670_0 hx670_1 hx671_0 hx671_1 hHeld ⊢
                      refine pV 0 217 (bz 17 0x1) HT_.out ?_
                      refine pV 1 218 (bz 17 0x3) HT_.out ?_
                      refine pV 2 219 (bz 17 0x7) HT_.out ?_
                      refine pV 4 221 (bz 17 0x17) HT_.out ?_
                      refine pV 8 225 (bz 17 0x117) HT_.out ?_
                      refine pV 10 227 (bz 17 0x517) HT_.out ?_
                      refine tV 3 220 (bz 17 0x51f) HT_.out HW_.out hHeld rfl rfl (by rintro w' ⟨s0, s1, s2, s3, s4, s5⟩; go_simp; with_reducible rfl) ?_
                      refine pV 5 222 (bz 17 0x53f) HT_.out ?_
                      refine pV 6 223 (bz 17 0x57f) HT_.out ?_
                      refine tV 7 224 (bz 17 0x5ff) HT_.out HW_.out hHeld rfl rfl (by rintro w' ⟨s0, s1, s2, s3, s4, s5⟩; go_simp; with_reducible rfl) ?_
                      refine tV 9 226 (bz 17 0x7ff) HT_.out HW_.out hHeld rfl rfl (by rintro w' ⟨s0, s1, s2, s3, s4, s5⟩; go_simp; with_reducible rfl) ?_
                      refine pV 11 228 (bz 17 0xfff) HT_.out ?_
                      refine pV 12 229 (bz 17 0x1fff) HT_.out ?_
                      refine tV 13 230 (bz 17 0x3fff) HT_.out HW_.out hHeld rfl rfl (by rintro w' ⟨s0, s1, s2, s3, s4, s5⟩; go_simp; with_reducible rfl) ?_
                      refine pV 14 231 (bz 17 0x7fff) HT_.out ?_
                      refine pV 15 232 (bz 17 0xffff) HT_.out ?_
                      refine pV 16 15 (bz 17 0x1ffff) HT_.out ?_
                      refine done_ (done_of HT_.out (by kernel_rfl)) ?_
                      have hnb139 := NB662_611.out
                      have hnc139 := NB611_662.out
                      have hcz140_0 : w138.cell? ⟨gb662, 0, none⟩ = some (.int .i64 (t618.length : Int)) := (blk_cell BK662.out 0).trans rfl
                      have hcz140_1 : w138.cell? ⟨gb662, 1, none⟩ = some (u663001) := (blk_cell BK662.out 1).trans rfl
                      have hfz140_0 := blk_frozen BK662.out 0
                      have hfz140_1 := blk_frozen BK662.out 1
                      try go_wp2_with (first | ((with_reducible refine gate_builtin (b := .append) (xs := #[.tmp 237, .tmp 241]) rfl ?_); (try (refine gate_guard (by rfl) ?_; dsimp only)); at_builtin; refine Kd.R_append k55 (w0 := w) w.heap.size rfl (.tmp 237) (.tmp 241) 25 55 (.agg #[(.int .i64 0), (.int .i64 0)]) 16 rfl Try.underlying25 info55 rfl (by decide) (by omega) u663001 x663001_3 (⟨wrap64 ((rd x6_1 ((rd_T55 t614 x16_3).f0)) - 1), wrap64 ((rd x6_1 ((rd_T55 t614 x16_3).f1)) - 1)⟩ : S55) [.int .i64 (wrap64 ((rd x6_1 ((rd_T55 t614 x16_3).f0)) - 1)), .int .i64 (wrap64 ((rd x6_1 ((rd_T55 t614 x16_3).f1)) - 1))] (fun k_ => some k_ ≠ (.slice (some ad663) t614.length co15 : Value).ownBlock) (fun _ => False) rfl rfl ?aP (fun _ hk => hk.elim) ?aF ?aO ?aB ?aS ?aL ?_; (case aP => exact k55_mkM _ _ _ (⟨wrap64 ((rd x6_1 ((rd_T55 t614 x16_3).f0)) - 1), wrap64 ((rd x6_1 ((rd_T55 t614 x16_3).f1)) - 1)⟩ : S55)); (case aB => exact (by repeat (first | (with_reducible first | exact HB.out | apply below_alloc | apply pw_below_drewN | apply below_drew1 | refine below_set ?_ GE611.out | refine below_set ?_ GE617.out | refine below_set ?_ GE662.out) | exact HB.out))); (case aF => exact (fun k_ hk => Kd.fresh' (Kd.R_lt (rA HO_618001.out)) k_ hk)); (case aO => exact (rA HO_663001.out)); (case aS => exact (below_size (by repeat (first | (with_reducible first | exact HB.out | apply below_alloc | apply pw_below_drewN | apply below_drew1 | refine below_set ?_ GE611.out | refine below_set ?_ GE617.out | refine below_set ?_ GE662.out) | exact HB.out)))); (case aL => have := LMc133.out; omega); intro v673 w141 ho hb hg hat; rw [← Ny672.out] at ho; have n0_ := Aside0.mk (Kd.S_over' (by (with_reducible repeat (first | apply Kd.S_alloc | apply Kd.S_drewN | apply Kd.S_drew)); exact HO_5.out) (Kd.R_typed (rA HO_663001.out)) (by decide) hg); have n1_ := Aside0.mk (Kd.R_over' (rA HO_6.out) (Kd.R_typed (rA HO_663001.out)) (by decide) hg); have n2_ := Aside0.mk (Kd.R_after (ok := (fun _ => True)) (by (with_reducible repeat (first | apply Kd.R_alloc | apply Kd.R_drewN | apply Kd.R_drew)); exact Kd.R_mono HO_618001.out (fun _ hk => ⟨trivial, hk⟩)) hg hat); have n3_ := Aside0.mk (blk_grown (g := gb611) (o := .cells #[.int .u8 a0_0, .int .u8 a0_1, .slice A0_2 l0_2.length c0_2] 24 (0, 0)) (bA BK611.out) hg (Kd.R_ne HO_663001.out BK611.out (by decide))); have n4_ := Aside0.mk (blk_grown (g := gb617) (o := .cells #[.int .i64 t613, .slice (some ad663) t614.length co15] 31 (0, 0)) (bA BK617.out) hg (Kd.R_ne HO_663001.out BK617.out (by decide))); have n5_ := Aside0.mk (blk_grown (g := gb662) (o := .cells #[.int .i64 (t618.length : Int), u663001] 31 (0, 0)) (bA BK662.out) hg (Kd.R_ne HO_663001.out BK662.out (by decide))); have n6_ := Aside0.mk (hb); have n7_ := Aside0.mk (ho); clear HO_5; clear HO_6; clear HO_618001; clear BK611; clear BK617; clear BK662; clear HB; clear HO_663001; have HO_5 := n0_; have HO_6 := n1_; have HO_618001 := n2_; have BK611 := n3_; have BK617 := n4_; have BK662 := n5_; have HB := n6_; have HO674 := n7_; clear n0_ n1_ n2_ n3_ n4_ n5_ n6_ n7_; clear ho hb hg hat; obtain ⟨Ao142, co142, eo142⟩ := Kd.R_slice HO674.out; subst eo142; have hcz143_0 : w141.cell? ⟨gb662, 0, none⟩ = some (.int .i64 (t618.length : Int)) := (blk_cell BK662.out 0).trans rfl; have hcz143_1 : w141.cell? ⟨gb662, 1, none⟩ = some (u663001) := (blk_cell BK662.out 1).trans rfl; have hfz143_0 := blk_frozen BK662.out 0; have hfz143_1 := blk_frozen BK662.out 1))
                      go_roundg k3
                      case measure => have := HK1.out; have := HK2.out; have := HK3.out; omega
                      case rel => exact ⟨((((rd_T55 t614 x16_3).f0) == ((rd_T55 t614 x16_3).f1))), (wrap64 (x16_3 + 1)), (y672), (.slice Ao142 y672.length co142), (by first | rfl | (simp; done) | (simp [*]; done)), (by first | rfl | (simp; done) | (simp [*]; done)), H', ⟨by have := HK1.out; have := HK2.out; have := HK3.out; omega⟩, ⟨by (with_reducible repeat (first | apply Kd.S_alloc | apply Kd.S_drewN | apply Kd.S_drew)); exact Kd.S_mono (Kd.S_far (p := ⟨gb662, 1, none⟩) (Kd.S_types HO_5.out BK662.out (by decide)) (fun _ hk => hk.2) (.slice Ao142 y672.length co142)) (fun _ hk => by first | exact hk.1 | exact hk.2)⟩, ⟨by (with_reducible repeat (first | apply Kd.R_alloc | apply Kd.R_drewN | apply Kd.R_drew)); exact Kd.R_mono (Kd.R_far (p := ⟨gb662, 1, none⟩) (Kd.R_types HO_6.out BK662.out (by decide)) (fun _ hk => hk.2) (.slice Ao142 y672.length co142)) (fun _ hk => trivial)⟩, ⟨by (with_reducible repeat (first | apply Kd.R_alloc | apply Kd.R_drewN | apply Kd.R_drew)); exact Kd.R_mono (Kd.R_far (p := ⟨gb662, 1, none⟩) (Kd.R_types HO_618001.out BK662.out (by decide)) (fun _ hk => hk.2) (.slice Ao142 y672.length co142)) (fun _ hk => hk.1.2)⟩, ⟨by (with_reducible repeat (first | apply Kd.R_alloc | apply Kd.R_drewN | apply Kd.R_drew)); exact Kd.R_mono (Kd.R_far (p := ⟨gb662, 1, none⟩) (Kd.R_types HO674.out BK662.out (by decide)) (fun _ hk => hk.2) (.slice Ao142 y672.length co142)) (fun _ hk => by first | exact hk.1 | exact hk.2)⟩, ⟨by (with_reducible repeat (first | refine blk_drewN ?_ _ | refine blk_drew ?_ | refine blk_alloc ?_ _)); refine blk_far ?_ NB611_662.out _; (with_reducible repeat (first | refine blk_drewN ?_ _ | refine blk_drew ?_ | refine blk_alloc ?_ _)); exact BK611.out⟩, ⟨by (with_reducible repeat (first | refine blk_drewN ?_ _ | refine blk_drew ?_ | refine blk_alloc ?_ _)); refine blk_far ?_ NB617_662.out _; (with_reducible repeat (first | refine blk_drewN ?_ _ | refine blk_drew ?_ | refine blk_alloc ?_ _)); exact BK617.out⟩, ⟨by (with_reducible repeat (first | refine blk_drewN ?_ _ | refine blk_drew ?_ | refine blk_alloc ?_ _)); refine blk_put (cs := #[.int .i64 (t618.length : Int), u663001]) ?_ 1 _ rfl; (with_reducible repeat (first | refine blk_drewN ?_ _ | refine blk_drew ?_ | refine blk_alloc ?_ _)); exact BK662.out⟩, ⟨by repeat (first | (with_reducible first | exact HB.out | apply below_alloc | apply pw_below_drewN | apply below_drew1 | refine below_set ?_ GE611.out | refine below_set ?_ GE617.out | refine below_set ?_ GE662.out) | exact HB.out)⟩⟩
                     ·rw [if_neg c133] at H
                      exact absurd H (by simp)
                  ·rw [if_neg c108] at H
                   exact absurd H (by simp)
                 ·rw [if_neg c107] at H
                  exact absurd H (by simp)
                ·rw [if_neg c106] at H
                 exact absurd H (by simp)
               ·rw [if_neg c105] at H
                exact absurd H (by simp)
              ·rw [if_neg c104] at H
               exact absurd H (by simp)
             ·rw [if_neg c103] at H
              have c103b0 : decide (x16_3 < (t614.length : Int)) = false := decide_eq_false c103
              clear c103
              replace H := Option.bind_eq_some_iff.mp H
              obtain ⟨⟨t675, t678⟩, A1440, H⟩ := H
              replace H : (if t678 = 0 then ((wireloomlaw05_order.f t613 t614).bind fun bt679 => (if (t618.length : Int) = t613 then (if ((bt679.2 == 0) == (!x15_3)) = true then (some true) else (none)) else (if ((bt679.2 == 0) == false) = true then (some true) else (none)))) else (none)) = some r := H
              have A144 := Aside0.mk A1440
              clear A1440
              by_cases c145 : t678 = 0
              ·rw [if_pos c145] at H
               have c145b0 : (t678 == 0) = true := beq_iff_eq.mpr c145
               have c145b1 : (t678 != 0) = false := bne_eq_false_iff_eq.mpr c145
               clear c145
               replace H := Option.bind_eq_some_iff.mp H
               obtain ⟨⟨t679, t682⟩, A1460, H⟩ := H
               replace H : (if (t618.length : Int) = t613 then (if ((t682 == 0) == (!x15_3)) = true then (some true) else (none)) else (if ((t682 == 0) == false) = true then (some true) else (none))) = some r := H
               have A146 := Aside0.mk A1460
               clear A1460
               by_cases c147 : (t618.length : Int) = t613
               ·rw [if_pos c147] at H
                have c147b0 : ((t618.length : Int) == t613) = true := beq_iff_eq.mpr c147
                have c147b1 : ((t618.length : Int) != t613) = false := bne_eq_false_iff_eq.mpr c147
                clear c147
                by_cases c148 : ((t682 == 0) == (!x15_3)) = true
                ·rw [if_pos c148] at H
                 have c148b0 : ((t682 == 0) == (!x15_3)) = true := c148
                 (try (have c148b1 : decide ((t682 == 0) = (!x15_3)) = true := by simpa using c148))
                 (try (have c148b2 : ((t682 == 0) == (!x15_3)) = true := by simpa using c148))
                 clear c148
                 obtain rfl := Option.some.inj H
                 have hnb149 := NB617_611.out
                 have hnc149 := NB611_617.out
                 have hnb150 := NB617_662.out
                 have hnc150 := NB662_617.out
                 have hcz151_0 : wr.cell? ⟨gb617, 0, none⟩ = some (.int .i64 t613) := (blk_cell BK617.out 0).trans rfl
                 have hcz151_1 : wr.cell? ⟨gb617, 1, none⟩ = some (.slice Ao15 t614.length co15) := (blk_cell BK617.out 1).trans rfl
                 have hfz151_0 := blk_frozen BK617.out 0
                 have hfz151_1 := blk_frozen BK617.out 1
                 try go_wp2
                 have n0_ := Aside0.mk (Kd.S_drew HO_5.out)
                 have n1_ := Aside0.mk (Kd.R_drew HO_6.out)
                 have n2_ := Aside0.mk (Kd.R_drew HO_618001.out)
                 have n3_ := Aside0.mk (Kd.R_drew HO_663001.out)
                 have n4_ := Aside0.mk (blk_drew BK611.out)
                 have n5_ := Aside0.mk (blk_drew BK617.out)
                 have n6_ := Aside0.mk (blk_drew BK662.out)
                 have n7_ := Aside0.mk (below_drew1 HB.out)
                 clear HO_5
                 clear HO_6
                 clear HO_618001
                 clear HO_663001
                 clear BK611
                 clear BK617
                 clear BK662
                 clear HB
                 have HO_5 := n0_
                 have HO_6 := n1_
                 have HO_618001 := n2_
                 have HO_663001 := n3_
                 have BK611 := n4_
                 have BK617 := n5_
                 have BK662 := n6_
                 have HB := n7_
                 clear n0_ n1_ n2_ n3_ n4_ n5_ n6_ n7_
                 obtain ⟨Ao153, co153, eo153⟩ := Kd.R_slice HO_663001.out
                 (first | subst eo153 | (injection eo153 with f1_ f2_ f3_; have f4_ := f1_.symm; have f5_ := f3_.symm; clear f1_ f2_ f3_; subst f4_; subst f5_))
                 refine start_ (n := 24) (S := fun w' => w'.cell? ⟨gb662, 0, none⟩ = some (.int .i64 (t618.length : Int)) ∧ w'.cell? ⟨gb662, 1, none⟩ = some (.slice Ao153 x663001_3.length co153) ∧ w'.cell? ⟨gb617, 0, none⟩ = some (.int .i64 t613) ∧ w'.cell? ⟨gb617, 1, none⟩ = some (.slice Ao15 t614.length co15)) (ds := []) #[false, false, false, false, false, false, false, false, false, false, false, false, false, false, false, false, false, false, false, false, false, false, false, false] (by kernel_rfl) rfl rfl ⟨(blk_cell BK662.out 0).trans rfl, (blk_cell BK662.out 1).trans rfl, (blk_cell BK617.out 0).trans rfl, (blk_cell BK617.out 1).trans rfl⟩ (fun hHeld => ?_); refine with_tabW wireloomlaw05_DigraphComponents.tab42 wireloomlaw05_DigraphComponents.bits42 (fun HT_ HW_ => ?_)
                 generalize wr.drew = w152 at HO_5 HO_6 HO_618001 HO_663001 BK611 BK617 BK662 HB hHeld ⊢
                 refine tV 0 244 (bz 24 0x1) HT_.out HW_.out hHeld rfl rfl (by rintro w' ⟨s0, s1, s2, s3⟩; go_simp; with_reducible rfl) ?_
                 refine one_ (i := 1) (N := some 245) (bz 24 0x3) rfl rfl (one_of HT_.out (by kernel_rfl)) (by decide) (fun K hK => ?_)
                 refine goes_ Try.func15 (by kernel_rfl) rfl #[.agg #[.int .i64 (t618.length : Int), .slice Ao153 x663001_3.length co153]] (by rfl) rfl rfl (by (try simp only [List.map_toArray, List.map_cons, List.map_nil]); first | done | rfl | (simp only [List.length_drop, List.length_take]; rfl)) ?_
                 with_reducible refine (wireloomlaw05_order.calls (t618.length : Int) _ _ x663001_3 t675 t678 _ ?side1 ?side2 A144.out).mono ?_
                 (case side1 => repeat (first | exact (Kd.R_reads' HO_663001.out).2.2 | (with_reducible refine Kd.C_alloc ?_ _) | (with_reducible refine Kd.C_drewN ?_ _) | (with_reducible refine Kd.C_drew ?_)))
                 (case side2 => exact (Kd.R_reads' HO_663001.out).2.1)
                 rintro e w154 ⟨v676, rfl, ho0, hb⟩
                 refine ⟨_, rfl, ?_⟩
                 have n0_ := Aside0.mk (Kd.S_elder' (by (with_reducible repeat (first | apply Kd.S_alloc | apply Kd.S_drewN | apply Kd.S_drew)); exact HO_5.out) (Kd.R_base ho0) hb)
                 have n1_ := Aside0.mk (Kd.R_elder' (rA HO_6.out) (Kd.R_base ho0) hb)
                 have n2_ := Aside0.mk (Kd.R_below (rA HO_618001.out) hb)
                 have n3_ := Aside0.mk (Kd.R_below (rA HO_663001.out) hb)
                 have n4_ := Aside0.mk (Kd.R_lower (Kd.R_new' ho0 (Kd.R_lt (rA HO_6.out))) (below_size (by repeat (first | (with_reducible first | exact HB.out | apply below_alloc | apply pw_below_drewN | apply below_drew1 | refine below_set ?_ GE611.out | refine below_set ?_ GE617.out | refine below_set ?_ GE662.out) | exact HB.out))))
                 have n5_ := Aside0.mk (blk_below (g := gb611) (o := .cells #[.int .u8 a0_0, .int .u8 a0_1, .slice A0_2 l0_2.length c0_2] 24 (0, 0)) (bA BK611.out) hb)
                 have n6_ := Aside0.mk (blk_below (g := gb617) (o := .cells #[.int .i64 t613, .slice Ao15 t614.length co15] 31 (0, 0)) (bA BK617.out) hb)
                 have n7_ := Aside0.mk (blk_below (g := gb662) (o := .cells #[.int .i64 (t618.length : Int), .slice Ao153 x663001_3.length co153] 31 (0, 0)) (bA BK662.out) hb)
                 have n8_ := Aside0.mk (below_step (by repeat (first | (with_reducible first | exact HB.out | apply below_alloc | apply pw_below_drewN | apply below_drew1 | refine below_set ?_ GE611.out | refine below_set ?_ GE617.out | refine below_set ?_ GE662.out) | exact HB.out)) hb)
                 clear HO_5
                 clear HO_6
                 clear HO_618001
                 clear HO_663001
                 clear BK611
                 clear BK617
                 clear BK662
                 clear HB
                 have HO_5 := n0_
                 have HO_6 := n1_
                 have HO_618001 := n2_
                 have HO_663001 := n3_
                 have HO677 := n4_
                 have BK611 := n5_
                 have BK617 := n6_
                 have BK662 := n7_
                 have HB := n8_
                 clear n0_ n1_ n2_ n3_ n4_ n5_ n6_ n7_ n8_
                 (try clear hb)
                 (try clear hb2)
                 (try clear hk)
                 (try clear hi)
                 (try clear ho0)
                 refine hK.out _ _ ⟨(blk_cell BK662.out 0).trans rfl, (blk_cell BK662.out 1).trans rfl, (blk_cell BK617.out 0).trans rfl, (blk_cell BK617.out 1).trans rfl⟩ (fun hHeld => ?_)
                 clear hK K
                 refine norm_ (a' := ?_) ?_ ?_
                 rotate_left
                 ·show Act.put _ (some 245) _ = _
                  simp only [Act.put, List.setIfInBounds_toArray, List.set_cons_zero, List.set_cons_succ, i64_w, i32_w]
                  rfl
                 refine pV 2 246 (bz 24 0x7) HT_.out ?_
                 refine pV 3 247 (bz 24 0xf) HT_.out ?_
                 refine pV 4 248 (bz 24 0x1f) HT_.out ?_
                 refine pV 9 253 (bz 24 0x21f) HT_.out ?_
                 refine pV 10 254 (bz 24 0x61f) HT_.out ?_
                 refine pV 11 255 (bz 24 0xe1f) HT_.out ?_
                 refine tV 5 249 (bz 24 0xe3f) HT_.out HW_.out hHeld rfl rfl (by rintro w' ⟨s0, s1, s2, s3⟩; go_simp; with_reducible rfl) ?_
                 refine tV 12 256 (bz 24 0x1e3f) HT_.out HW_.out hHeld rfl rfl (by rintro w' ⟨s0, s1, s2, s3⟩; go_simp; with_reducible rfl) ?_
                 refine pV 13 257 (bz 24 0x3e3f) HT_.out ?_
                 refine one_ (i := 6) (N := some 250) (bz 24 0x3e7f) rfl rfl (one_of HT_.out (by kernel_rfl)) (by decide) (fun K hK => ?_)
                 refine goes_ Try.func15 (by kernel_rfl) rfl #[.agg #[.int .i64 t613, .slice Ao15 t614.length co15]] (by rfl) rfl rfl (by (try simp only [List.map_toArray, List.map_cons, List.map_nil]); first | done | rfl | (simp only [List.length_drop, List.length_take]; rfl)) ?_
                 with_reducible refine (wireloomlaw05_order.calls t613 _ _ t614 t679 t682 _ ?side1 ?side2 A146.out).mono ?_
                 (case side1 => repeat (first | exact (Kd.R_reads' HO_618001.out).2.2 | (with_reducible refine Kd.C_alloc ?_ _) | (with_reducible refine Kd.C_drewN ?_ _) | (with_reducible refine Kd.C_drew ?_)))
                 (case side2 => exact (Kd.R_reads' HO_618001.out).2.1)
                 rintro e w155 ⟨v680, rfl, ho0, hb⟩
                 refine ⟨_, rfl, ?_⟩
                 have n0_ := Aside0.mk (Kd.S_elder' (by (with_reducible repeat (first | apply Kd.S_alloc | apply Kd.S_drewN | apply Kd.S_drew)); exact HO_5.out) (Kd.R_base ho0) hb)
                 have n1_ := Aside0.mk (Kd.R_elder' (rA HO_6.out) (Kd.R_base ho0) hb)
                 have n2_ := Aside0.mk (Kd.R_below (rA HO_618001.out) hb)
                 have n3_ := Aside0.mk (Kd.R_below (rA HO_663001.out) hb)
                 have n4_ := Aside0.mk (Kd.R_elder' (rA HO677.out) (Kd.R_base ho0) hb)
                 have n5_ := Aside0.mk (Kd.R_lower (Kd.R_new' (Kd.R_new' ho0 (Kd.R_lt (rA HO_6.out))) (Kd.R_lt (rA HO677.out))) (below_size (by repeat (first | (with_reducible first | exact HB.out | apply below_alloc | apply pw_below_drewN | apply below_drew1 | refine below_set ?_ GE611.out | refine below_set ?_ GE617.out | refine below_set ?_ GE662.out) | exact HB.out))))
                 have n6_ := Aside0.mk (blk_below (g := gb611) (o := .cells #[.int .u8 a0_0, .int .u8 a0_1, .slice A0_2 l0_2.length c0_2] 24 (0, 0)) (bA BK611.out) hb)
                 have n7_ := Aside0.mk (blk_below (g := gb617) (o := .cells #[.int .i64 t613, .slice Ao15 t614.length co15] 31 (0, 0)) (bA BK617.out) hb)
                 have n8_ := Aside0.mk (blk_below (g := gb662) (o := .cells #[.int .i64 (t618.length : Int), .slice Ao153 x663001_3.length co153] 31 (0, 0)) (bA BK662.out) hb)
                 have n9_ := Aside0.mk (below_step (by repeat (first | (with_reducible first | exact HB.out | apply below_alloc | apply pw_below_drewN | apply below_drew1 | refine below_set ?_ GE611.out | refine below_set ?_ GE617.out | refine below_set ?_ GE662.out) | exact HB.out)) hb)
                 clear HO_5
                 clear HO_6
                 clear HO_618001
                 clear HO_663001
                 clear HO677
                 clear BK611
                 clear BK617
                 clear BK662
                 clear HB
                 have HO_5 := n0_
                 have HO_6 := n1_
                 have HO_618001 := n2_
                 have HO_663001 := n3_
                 have HO677 := n4_
                 have HO681 := n5_
                 have BK611 := n6_
                 have BK617 := n7_
                 have BK662 := n8_
                 have HB := n9_
                 clear n0_ n1_ n2_ n3_ n4_ n5_ n6_ n7_ n8_ n9_
                 (try clear hb)
                 (try clear hb2)
                 (try clear hk)
                 (try clear hi)
                 (try clear ho0)
                 refine hK.out _ _ ⟨(blk_cell BK662.out 0).trans rfl, (blk_cell BK662.out 1).trans rfl, (blk_cell BK617.out 0).trans rfl, (blk_cell BK617.out 1).trans rfl⟩ (fun hHeld => ?_)
                 clear hK K
                 refine norm_ (a' := ?_) ?_ ?_
                 rotate_left
                 ·show Act.put _ (some 250) _ = _
                  simp only [Act.put, List.setIfInBounds_toArray, List.set_cons_zero, List.set_cons_succ, i64_w, i32_w]
                  rfl
                 refine pV 7 251 (bz 24 0x3eff) HT_.out ?_
                 refine pV 8 252 (bz 24 0x3fff) HT_.out ?_
                 refine pV 14 258 (bz 24 0x7fff) HT_.out ?_
                 refine pV 15 259 (bz 24 0xffff) HT_.out ?_
                 refine pV 16 260 (bz 24 0x1ffff) HT_.out ?_
                 refine pV 17 261 (bz 24 0x3ffff) HT_.out ?_
                 refine pV 18 262 (bz 24 0x7ffff) HT_.out ?_
                 refine pV 19 263 (bz 24 0xfffff) HT_.out ?_
                 refine pV 20 264 (bz 24 0x1fffff) HT_.out ?_
                 refine pV 21 265 (bz 24 0x3fffff) HT_.out ?_
                 refine pV 22 266 (bz 24 0x7fffff) HT_.out ?_
                 refine pV 23 2 (bz 24 0xffffff) HT_.out ?_
                 refine done_ (done_of HT_.out (by kernel_rfl)) ?_
                 try go_wp2
                 go_ret
                 exact ⟨by first | rfl | (simp [errW_none, errW_some] <;> rfl) | (simp [*, errW_none, errW_some] <;> rfl), by repeat (first | (with_reducible first | exact HB.out | apply below_alloc | apply pw_below_drewN | apply below_drew1 | refine below_set ?_ GE611.out | refine below_set ?_ GE617.out | refine below_set ?_ GE662.out) | exact HB.out)⟩
                ·rw [if_neg c148] at H
                 exact absurd H (by simp)
               ·rw [if_neg c147] at H
                have c147b0 : ((t618.length : Int) == t613) = false := beq_eq_false_iff_ne.mpr c147
                have c147b1 : ((t618.length : Int) != t613) = true := bne_iff_ne.mpr c147
                by_cases c156 : ((t682 == 0) == false) = true
                ·rw [if_pos c156] at H
                 have c156b0 : ((t682 == 0) == false) = true := c156
                 (try (have c156b1 : decide ((t682 == 0) = false) = true := by simpa using c156))
                 (try (have c156b2 : ((t682 == 0) == false) = true := by simpa using c156))
                 clear c156
                 obtain rfl := Option.some.inj H
                 have hnb157 := NB617_611.out
                 have hnc157 := NB611_617.out
                 have hnb158 := NB617_662.out
                 have hnc158 := NB662_617.out
                 have hcz159_0 : wr.cell? ⟨gb617, 0, none⟩ = some (.int .i64 t613) := (blk_cell BK617.out 0).trans rfl
                 have hcz159_1 : wr.cell? ⟨gb617, 1, none⟩ = some (.slice Ao15 t614.length co15) := (blk_cell BK617.out 1).trans rfl
                 have hfz159_0 := blk_frozen BK617.out 0
                 have hfz159_1 := blk_frozen BK617.out 1
                 try go_wp2
                 have n0_ := Aside0.mk (Kd.S_drew HO_5.out)
                 have n1_ := Aside0.mk (Kd.R_drew HO_6.out)
                 have n2_ := Aside0.mk (Kd.R_drew HO_618001.out)
                 have n3_ := Aside0.mk (Kd.R_drew HO_663001.out)
                 have n4_ := Aside0.mk (blk_drew BK611.out)
                 have n5_ := Aside0.mk (blk_drew BK617.out)
                 have n6_ := Aside0.mk (blk_drew BK662.out)
                 have n7_ := Aside0.mk (below_drew1 HB.out)
                 clear HO_5
                 clear HO_6
                 clear HO_618001
                 clear HO_663001
                 clear BK611
                 clear BK617
                 clear BK662
                 clear HB
                 have HO_5 := n0_
                 have HO_6 := n1_
                 have HO_618001 := n2_
                 have HO_663001 := n3_
                 have BK611 := n4_
                 have BK617 := n5_
                 have BK662 := n6_
                 have HB := n7_
                 clear n0_ n1_ n2_ n3_ n4_ n5_ n6_ n7_
                 obtain ⟨Ao161, co161, eo161⟩ := Kd.R_slice HO_663001.out
                 (first | subst eo161 | (injection eo161 with f1_ f2_ f3_; have f4_ := f1_.symm; have f5_ := f3_.symm; clear f1_ f2_ f3_; subst f4_; subst f5_))
                 refine start_ (n := 24) (S := fun w' => w'.cell? ⟨gb662, 0, none⟩ = some (.int .i64 (t618.length : Int)) ∧ w'.cell? ⟨gb662, 1, none⟩ = some (.slice Ao161 x663001_3.length co161) ∧ w'.cell? ⟨gb617, 0, none⟩ = some (.int .i64 t613) ∧ w'.cell? ⟨gb617, 1, none⟩ = some (.slice Ao15 t614.length co15)) (ds := []) #[false, false, false, false, false, false, false, false, false, false, false, false, false, false, false, false, false, false, false, false, false, false, false, false] (by kernel_rfl) rfl rfl ⟨(blk_cell BK662.out 0).trans rfl, (blk_cell BK662.out 1).trans rfl, (blk_cell BK617.out 0).trans rfl, (blk_cell BK617.out 1).trans rfl⟩ (fun hHeld => ?_); refine with_tabW wireloomlaw05_DigraphComponents.tab42 wireloomlaw05_DigraphComponents.bits42 (fun HT_ HW_ => ?_)
                 generalize wr.drew = w160 at HO_5 HO_6 HO_618001 HO_663001 BK611 BK617 BK662 HB hHeld ⊢
                 refine tV 0 244 (bz 24 0x1) HT_.out HW_.out hHeld rfl rfl (by rintro w' ⟨s0, s1, s2, s3⟩; go_simp; with_reducible rfl) ?_
                 refine one_ (i := 1) (N := some 245) (bz 24 0x3) rfl rfl (one_of HT_.out (by kernel_rfl)) (by decide) (fun K hK => ?_)
                 refine goes_ Try.func15 (by kernel_rfl) rfl #[.agg #[.int .i64 (t618.length : Int), .slice Ao161 x663001_3.length co161]] (by rfl) rfl rfl (by (try simp only [List.map_toArray, List.map_cons, List.map_nil]); first | done | rfl | (simp only [List.length_drop, List.length_take]; rfl)) ?_
                 with_reducible refine (wireloomlaw05_order.calls (t618.length : Int) _ _ x663001_3 t675 t678 _ ?side1 ?side2 A144.out).mono ?_
                 (case side1 => repeat (first | exact (Kd.R_reads' HO_663001.out).2.2 | (with_reducible refine Kd.C_alloc ?_ _) | (with_reducible refine Kd.C_drewN ?_ _) | (with_reducible refine Kd.C_drew ?_)))
                 (case side2 => exact (Kd.R_reads' HO_663001.out).2.1)
                 rintro e w162 ⟨v676, rfl, ho0, hb⟩
                 refine ⟨_, rfl, ?_⟩
                 have n0_ := Aside0.mk (Kd.S_elder' (by (with_reducible repeat (first | apply Kd.S_alloc | apply Kd.S_drewN | apply Kd.S_drew)); exact HO_5.out) (Kd.R_base ho0) hb)
                 have n1_ := Aside0.mk (Kd.R_elder' (rA HO_6.out) (Kd.R_base ho0) hb)
                 have n2_ := Aside0.mk (Kd.R_below (rA HO_618001.out) hb)
                 have n3_ := Aside0.mk (Kd.R_below (rA HO_663001.out) hb)
                 have n4_ := Aside0.mk (Kd.R_lower (Kd.R_new' ho0 (Kd.R_lt (rA HO_6.out))) (below_size (by repeat (first | (with_reducible first | exact HB.out | apply below_alloc | apply pw_below_drewN | apply below_drew1 | refine below_set ?_ GE611.out | refine below_set ?_ GE617.out | refine below_set ?_ GE662.out) | exact HB.out))))
                 have n5_ := Aside0.mk (blk_below (g := gb611) (o := .cells #[.int .u8 a0_0, .int .u8 a0_1, .slice A0_2 l0_2.length c0_2] 24 (0, 0)) (bA BK611.out) hb)
                 have n6_ := Aside0.mk (blk_below (g := gb617) (o := .cells #[.int .i64 t613, .slice Ao15 t614.length co15] 31 (0, 0)) (bA BK617.out) hb)
                 have n7_ := Aside0.mk (blk_below (g := gb662) (o := .cells #[.int .i64 (t618.length : Int), .slice Ao161 x663001_3.length co161] 31 (0, 0)) (bA BK662.out) hb)
                 have n8_ := Aside0.mk (below_step (by repeat (first | (with_reducible first | exact HB.out | apply below_alloc | apply pw_below_drewN | apply below_drew1 | refine below_set ?_ GE611.out | refine below_set ?_ GE617.out | refine below_set ?_ GE662.out) | exact HB.out)) hb)
                 clear HO_5
                 clear HO_6
                 clear HO_618001
                 clear HO_663001
                 clear BK611
                 clear BK617
                 clear BK662
                 clear HB
                 have HO_5 := n0_
                 have HO_6 := n1_
                 have HO_618001 := n2_
                 have HO_663001 := n3_
                 have HO677 := n4_
                 have BK611 := n5_
                 have BK617 := n6_
                 have BK662 := n7_
                 have HB := n8_
                 clear n0_ n1_ n2_ n3_ n4_ n5_ n6_ n7_ n8_
                 (try clear hb)
                 (try clear hb2)
                 (try clear hk)
                 (try clear hi)
                 (try clear ho0)
                 refine hK.out _ _ ⟨(blk_cell BK662.out 0).trans rfl, (blk_cell BK662.out 1).trans rfl, (blk_cell BK617.out 0).trans rfl, (blk_cell BK617.out 1).trans rfl⟩ (fun hHeld => ?_)
                 clear hK K
                 refine norm_ (a' := ?_) ?_ ?_
                 rotate_left
                 ·show Act.put _ (some 245) _ = _
                  simp only [Act.put, List.setIfInBounds_toArray, List.set_cons_zero, List.set_cons_succ, i64_w, i32_w]
                  rfl
                 refine pV 2 246 (bz 24 0x7) HT_.out ?_
                 refine pV 3 247 (bz 24 0xf) HT_.out ?_
                 refine pV 4 248 (bz 24 0x1f) HT_.out ?_
                 refine pV 9 253 (bz 24 0x21f) HT_.out ?_
                 refine pV 10 254 (bz 24 0x61f) HT_.out ?_
                 refine pV 11 255 (bz 24 0xe1f) HT_.out ?_
                 refine tV 5 249 (bz 24 0xe3f) HT_.out HW_.out hHeld rfl rfl (by rintro w' ⟨s0, s1, s2, s3⟩; go_simp; with_reducible rfl) ?_
                 refine tV 12 256 (bz 24 0x1e3f) HT_.out HW_.out hHeld rfl rfl (by rintro w' ⟨s0, s1, s2, s3⟩; go_simp; with_reducible rfl) ?_
                 refine pV 13 257 (bz 24 0x3e3f) HT_.out ?_
                 refine one_ (i := 6) (N := some 250) (bz 24 0x3e7f) rfl rfl (one_of HT_.out (by kernel_rfl)) (by decide) (fun K hK => ?_)
                 refine goes_ Try.func15 (by kernel_rfl) rfl #[.agg #[.int .i64 t613, .slice Ao15 t614.length co15]] (by rfl) rfl rfl (by (try simp only [List.map_toArray, List.map_cons, List.map_nil]); first | done | rfl | (simp only [List.length_drop, List.length_take]; rfl)) ?_
                 with_reducible refine (wireloomlaw05_order.calls t613 _ _ t614 t679 t682 _ ?side1 ?side2 A146.out).mono ?_
                 (case side1 => repeat (first | exact (Kd.R_reads' HO_618001.out).2.2 | (with_reducible refine Kd.C_alloc ?_ _) | (with_reducible refine Kd.C_drewN ?_ _) | (with_reducible refine Kd.C_drew ?_)))
                 (case side2 => exact (Kd.R_reads' HO_618001.out).2.1)
                 rintro e w163 ⟨v680, rfl, ho0, hb⟩
                 refine ⟨_, rfl, ?_⟩
                 have n0_ := Aside0.mk (Kd.S_elder' (by (with_reducible repeat (first | apply Kd.S_alloc | apply Kd.S_drewN | apply Kd.S_drew)); exact HO_5.out) (Kd.R_base ho0) hb)
                 have n1_ := Aside0.mk (Kd.R_elder' (rA HO_6.out) (Kd.R_base ho0) hb)
                 have n2_ := Aside0.mk (Kd.R_below (rA HO_618001.out) hb)
                 have n3_ := Aside0.mk (Kd.R_below (rA HO_663001.out) hb)
                 have n4_ := Aside0.mk (Kd.R_elder' (rA HO677.out) (Kd.R_base ho0) hb)
                 have n5_ := Aside0.mk (Kd.R_lower (Kd.R_new' (Kd.R_new' ho0 (Kd.R_lt (rA HO_6.out))) (Kd.R_lt (rA HO677.out))) (below_size (by repeat (first | (with_reducible first | exact HB.out | apply below_alloc | apply pw_below_drewN | apply below_drew1 | refine below_set ?_ GE611.out | refine below_set ?_ GE617.out | refine below_set ?_ GE662.out) | exact HB.out))))
                 have n6_ := Aside0.mk (blk_below (g := gb611) (o := .cells #[.int .u8 a0_0, .int .u8 a0_1, .slice A0_2 l0_2.length c0_2] 24 (0, 0)) (bA BK611.out) hb)
                 have n7_ := Aside0.mk (blk_below (g := gb617) (o := .cells #[.int .i64 t613, .slice Ao15 t614.length co15] 31 (0, 0)) (bA BK617.out) hb)
                 have n8_ := Aside0.mk (blk_below (g := gb662) (o := .cells #[.int .i64 (t618.length : Int), .slice Ao161 x663001_3.length co161] 31 (0, 0)) (bA BK662.out) hb)
                 have n9_ := Aside0.mk (below_step (by repeat (first | (with_reducible first | exact HB.out | apply below_alloc | apply pw_below_drewN | apply below_drew1 | refine below_set ?_ GE611.out | refine below_set ?_ GE617.out | refine below_set ?_ GE662.out) | exact HB.out)) hb)
                 clear HO_5
                 clear HO_6
                 clear HO_618001
                 clear HO_663001
                 clear HO677
                 clear BK611
                 clear BK617
                 clear BK662
                 clear HB
                 have HO_5 := n0_
                 have HO_6 := n1_
                 have HO_618001 := n2_
                 have HO_663001 := n3_
                 have HO677 := n4_
                 have HO681 := n5_
                 have BK611 := n6_
                 have BK617 := n7_
                 have BK662 := n8_
                 have HB := n9_
                 clear n0_ n1_ n2_ n3_ n4_ n5_ n6_ n7_ n8_ n9_
                 (try clear hb)
                 (try clear hb2)
                 (try clear hk)
                 (try clear hi)
                 (try clear ho0)
                 refine hK.out _ _ ⟨(blk_cell BK662.out 0).trans rfl, (blk_cell BK662.out 1).trans rfl, (blk_cell BK617.out 0).trans rfl, (blk_cell BK617.out 1).trans rfl⟩ (fun hHeld => ?_)
                 clear hK K
                 refine norm_ (a' := ?_) ?_ ?_
                 rotate_left
                 ·show Act.put _ (some 250) _ = _
                  simp only [Act.put, List.setIfInBounds_toArray, List.set_cons_zero, List.set_cons_succ, i64_w, i32_w]
                  rfl
                 refine pV 7 251 (bz 24 0x3eff) HT_.out ?_
                 refine pV 8 252 (bz 24 0x3fff) HT_.out ?_
                 refine pV 14 258 (bz 24 0x7fff) HT_.out ?_
                 refine pU 15 259 (bz 24 0xffff) HT_.out ?_
                 refine pU 16 260 (bz 24 0x1ffff) HT_.out ?_
                 refine pV 17 261 (bz 24 0x3ffff) HT_.out ?_
                 refine pV 18 262 (bz 24 0x7ffff) HT_.out ?_
                 refine pV 19 263 (bz 24 0xfffff) HT_.out ?_
                 refine pV 20 264 (bz 24 0x1fffff) HT_.out ?_
                 refine pV 21 265 (bz 24 0x3fffff) HT_.out ?_
                 refine pV 22 266 (bz 24 0x7fffff) HT_.out ?_
                 refine pV 23 2 (bz 24 0xffffff) HT_.out ?_
                 refine done_ (done_of HT_.out (by kernel_rfl)) ?_
                 try go_wp2
                 go_ret
                 exact ⟨by first | rfl | (simp [errW_none, errW_some] <;> rfl) | (simp [*, errW_none, errW_some] <;> rfl), by repeat (first | (with_reducible first | exact HB.out | apply below_alloc | apply pw_below_drewN | apply below_drew1 | refine below_set ?_ GE611.out | refine below_set ?_ GE617.out | refine below_set ?_ GE662.out) | exact HB.out)⟩
                ·rw [if_neg c156] at H
                 exact absurd H (by simp)
              ·rw [if_neg c145] at H
               exact absurd H (by simp)
       ·rw [if_neg c59] at H
        exact absurd H (by simp)
   ·rw [if_neg c7] at H
    exact absurd H (by simp)
  ·rw [if_neg c6] at H
   exact absurd H (by simp)
 ·replace c3 := Bool.eq_false_iff.mpr c3
  subst c3
  have H1 : (none) = some r := by rw [if_neg (show ¬ (false = true) by decide)] at H; exact H
  clear H
  have H := H1
  clear H1
  exact absurd H (by simp)
end Go.Proofs.Ytlldjinejckbaaa.PD

end
section
namespace Go.Proofs.Ytlldjinejckbaaa.Pg
open Go Go.RowKit Go.Proofs.YtlldjinejckbaaaW.PrintWords Go.Proofs.Ytlldjinejckbaaa.Mod Go.Proofs.Ytlldjinejckbaaa.Gs Go.Proofs.Ytlldjinejckbaaa.Lb Go.Proofs.Ytlldjinejckbaaa.Ng Go.Proofs.Ytlldjinejckbaaa.Rc Go.Proofs.Ytlldjinejckbaaa.PD
def E (l : List S55) (u v : Int) : Prop := ∃ e ∈ l, e.f0 = u ∧ e.f1 = v
def Ok (n : Nat) (l : List S55) : Prop := ∀ e ∈ l, 0 ≤ e.f0 ∧ e.f0 < n ∧ 0 ≤ e.f1 ∧ e.f1 < n
theorem E.ok {n : Nat} {l : List S55} (h : Ok n l) {u v : Int} (e : E l u v) : 0 ≤ u ∧ u < n ∧ 0 ≤ v ∧ v < n := by
 obtain ⟨x, hx, rfl, rfl⟩ := e
 exact h x hx
theorem compactUpTo_strict (d : Array Int) (hs : d.toList.Pairwise (· ≤ ·)) : ∀ m, m ≤ d.size → (Lib.compactUpTo d m).Pairwise (· < ·) ∧ (∀ x, x ∈ Lib.compactUpTo d m ↔ ∃ j, j < m ∧ d[j]! = x) := by
 have hle : ∀ i j, i ≤ j → j < d.size → d[i]! ≤ d[j]! := fun i j hij hj => by
  rw [getElem!_pos d i (by omega), getElem!_pos d j hj]
  rcases Nat.lt_or_eq_of_le hij with h | h
  ·have := List.pairwise_iff_getElem.1 hs i j (by simp; omega) (by simpa using hj) h
   simpa using this
  ·subst h; exact Int.le_refl _
 intro m
 induction m with
 | zero => intro _; simp [Lib.compactUpTo]
 | succ m ih =>
  intro hm
  obtain ⟨h1, h2⟩ := ih (by omega)
  rw [Lib.compactUpTo_succ]
  by_cases hk : Lib.keeps d m = true
  ·rw [if_pos hk]
   refine ⟨?_, fun x => ?_⟩
   ·rw [List.pairwise_append]
    refine ⟨h1, by simp, fun a ha b hb => ?_⟩
    rw [List.mem_singleton] at hb
    subst hb
    obtain ⟨j, hj, rfl⟩ := (h2 a).1 ha
    unfold Lib.keeps at hk
    rw [decide_eq_true_eq] at hk
    rcases hk with hk | hk
    ·omega
    ·have h3 := hle j (m - 1) (by omega) (by omega)
     have h4 := hle (m - 1) m (by omega) (by omega)
     omega
   ·rw [List.mem_append, List.mem_singleton, h2]
    constructor
    ·rintro (⟨j, hj, e⟩ | e)
     ·exact ⟨j, by omega, e⟩
     ·exact ⟨m, by omega, e.symm⟩
    ·rintro ⟨j, hj, e⟩
     rcases Nat.lt_or_eq_of_le (Nat.le_of_lt_succ hj) with h | h
     ·exact .inl ⟨j, h, e⟩
     ·subst h; exact .inr e.symm
  ·rw [if_neg hk, List.append_nil]
   refine ⟨h1, fun x => ?_⟩
   rw [h2]
   constructor
   ·rintro ⟨j, hj, e⟩; exact ⟨j, by omega, e⟩
   ·rintro ⟨j, hj, e⟩
    rcases Nat.lt_or_eq_of_le (Nat.le_of_lt_succ hj) with h | h
    ·exact ⟨j, h, e⟩
    ·subst h
     unfold Lib.keeps at hk
     rw [decide_eq_true_eq] at hk
     have h5 : ¬ j = 0 := fun h => hk (.inl h)
     have h6 : d[j]! = d[j - 1]! := Classical.byContradiction fun h => hk (.inr h)
     exact ⟨j - 1, by omega, by rw [← h6]; exact e⟩
theorem sortI_sorted (xs : List Int) : (sortI xs).Pairwise (· ≤ ·) := by
 unfold sortI
 have := List.pairwise_mergeSort (le := fun x y : Int => decide (x ≤ y)) (fun a b c h1 h2 => by simp at *; omega) (fun a b => by simp; omega) xs
 exact this.imp (fun h => by simpa using h)
theorem tidyRow (xs : List Int) : (Lib.compact (sortI xs)).Pairwise (· < ·) ∧ ∀ x, x ∈ Lib.compact (sortI xs) ↔ x ∈ xs := by
 unfold Lib.compact
 obtain ⟨h1, h2⟩ := compactUpTo_strict (sortI xs).toArray (by simpa using sortI_sorted xs) (sortI xs).length (by simp)
 refine ⟨h1, fun x => ?_⟩
 rw [h2, ← mem_sortI (r := xs)]
 constructor
 ·rintro ⟨j, hj, rfl⟩
  rw [getElem!_pos (sortI xs).toArray j (by simpa using hj)]
  simp
 ·intro h
  obtain ⟨j, hj, rfl⟩ := List.mem_iff_getElem.1 h
  exact ⟨j, hj, by rw [getElem!_pos (sortI xs).toArray j (by simpa using hj)]; simp⟩
theorem row_tidy (rows : List (List Int)) (v : Int) : row (tidy rows) v = Lib.compact (sortI (row rows v)) := by
 unfold row tidy
 rw [List.getD_eq_getElem?_getD, List.getD_eq_getElem?_getD, List.getElem?_map]
 cases h : rows[v.toNat]? with
 | none => simp [sortI, Lib.compact, Lib.compactUpTo]
 | some r => rfl
theorem row_built {n : Nat} : ∀ (l : List S55), Ok n l → ∀ (v x : Int), 0 ≤ v → v < n → ((x ∈ row (built n l true) v ↔ E l v x) ∧ (x ∈ row (built n l false) v ↔ E l x v)) := by
 have key : ∀ (l : List S55) (R : Bool → List (List Int)), Ok n l → (∀ b, (R b).length = n) → ∀ (b : Bool) (v x : Int), 0 ≤ v → v < n → (x ∈ row (l.foldl addE R b) v ↔ x ∈ row (R b) v ∨ (if b then E l v x else E l x v)) := by
  intro l
  induction l with
  | nil => intro R _ _ b v x _ _; cases b <;> simp [E]
  | cons e l ih =>
   intro R hok hR b v x h0 h1
   obtain ⟨e0, e1, e2, e3⟩ := hok e (by simp)
   rw [List.foldl_cons, ih (addE R e) (fun z hz => hok z (by simp [hz])) (fun b => by rw [addE_length]; exact hR b) b v x h0 h1]
   have hrow : x ∈ row (addE R e b) v ↔ x ∈ row (R b) v ∨ (if b then e.f0 = v ∧ e.f1 = x else e.f0 = x ∧ e.f1 = v) := by
    unfold addE
    cases b with
    | true =>
     rw [upd_other _ _ _ (by decide), upd_same]
     unfold row
     rw [List.getD_eq_getElem?_getD, List.getElem?_set]
     by_cases hv : e.f0 = v
     ·rw [if_pos (by omega), if_pos (by rw [hR]; omega)]
      subst hv
      simp [List.getD_eq_getElem?_getD, eq_comm]
     ·rw [if_neg (by omega), ← List.getD_eq_getElem?_getD]
      simp [hv]
    | false =>
     rw [upd_same, upd_other _ _ _ (by decide)]
     unfold row
     rw [List.getD_eq_getElem?_getD, List.getElem?_set]
     by_cases hv : e.f1 = v
     ·rw [if_pos (by omega), if_pos (by rw [hR]; omega)]
      subst hv
      simp [List.getD_eq_getElem?_getD, eq_comm]
     ·rw [if_neg (by omega), ← List.getD_eq_getElem?_getD]
      simp [hv]
   rw [hrow]
   have hE : ∀ a c, E (e :: l) a c ↔ (e.f0 = a ∧ e.f1 = c) ∨ E l a c := fun a c => by
    unfold E
    simp
   cases b with
   | true => simp only [if_true]; rw [hE]; exact or_assoc
   | false => simp only [Bool.false_eq_true, if_false]; rw [hE]; exact or_assoc
 intro l hok v x h0 h1
 have e : ∀ b : Bool, x ∈ row ((fun _ => List.replicate n ([] : List Int)) b) v ↔ False := fun b => by
  unfold row
  simp only [List.getD_eq_getElem?_getD, List.getElem?_replicate]
  split <;> simp
 have h1' := key l (fun _ => List.replicate n []) hok (fun _ => by simp) true v x h0 h1
 have h2' := key l (fun _ => List.replicate n []) hok (fun _ => by simp) false v x h0 h1
 rw [e true] at h1'
 rw [e false] at h2'
 exact ⟨by unfold built; rw [h1']; simp, by unfold built; rw [h2']; simp⟩
abbrev nx (n : Nat) (l : List S55) : List (List Int) := tidy (built n l true)
abbrev pv (n : Nat) (l : List S55) : List (List Int) := tidy (built n l false)
theorem mem_nx {n : Nat} {l : List S55} (h : Ok n l) {v : Int} (x : Int) (h0 : 0 ≤ v) (h1 : v < n) : x ∈ row (nx n l) v ↔ E l v x := by
 rw [row_tidy, (tidyRow _).2]; exact (row_built l h v x h0 h1).1
theorem mem_pv {n : Nat} {l : List S55} (h : Ok n l) {v : Int} (x : Int) (h0 : 0 ≤ v) (h1 : v < n) : x ∈ row (pv n l) v ↔ E l x v := by
 rw [row_tidy, (tidyRow _).2]; exact (row_built l h v x h0 h1).2
theorem row_strict (rows : List (List Int)) (v : Int) : (row (tidy rows) v).Pairwise (· < ·) := by rw [row_tidy]; exact (tidyRow _).1
theorem row_nodup (rows : List (List Int)) (v : Int) : (row (tidy rows) v).Nodup := (row_strict rows v).imp (fun h => by omega)
theorem len_nx (n : Nat) (l : List S55) : (nx n l).length = n := by unfold nx; rw [tidy_length, built_length]
theorem len_pv (n : Nat) (l : List S55) : (pv n l).length = n := by unfold pv; rw [tidy_length, built_length]
theorem strict_ext {a b : List Int} (ha : a.Pairwise (· < ·)) (hb : b.Pairwise (· < ·)) (h : ∀ x, x ∈ a ↔ x ∈ b) : a = b := by
 have na : a.Nodup := ha.imp (fun h => by omega)
 have nb : b.Nodup := hb.imp (fun h => by omega)
 have hp : a.Perm b := (List.perm_ext_iff_of_nodup na nb).2 h
 exact List.Perm.eq_of_pairwise (le := fun x y : Int => x < y) (fun x y _ _ h1 h2 => by omega) ha hb hp
theorem nodup_len {n : Nat} {a : List Int} (hn : a.Nodup) (h : ∀ x ∈ a, 0 ≤ x ∧ x < (n : Int)) : a.length ≤ n := by
 have hs : a ⊆ (List.range n).map (fun k : Nat => (k : Int)) := fun x hx => by
  obtain ⟨h0, h1⟩ := h x hx
  exact List.mem_map.2 ⟨x.toNat, List.mem_range.2 (by omega), by omega⟩
 have := hn.length_le_of_subset hs
 simpa using this
theorem nodup_all {n : Nat} {a : List Int} (hn : a.Nodup) (h : ∀ x ∈ a, 0 ≤ x ∧ x < (n : Int)) (hl : a.length = n) : ∀ x : Int, 0 ≤ x → x < n → x ∈ a := by
 have hs : a ⊆ (List.range n).map (fun k : Nat => (k : Int)) := fun x hx => by
  obtain ⟨h0, h1⟩ := h x hx
  exact List.mem_map.2 ⟨x.toNat, List.mem_range.2 (by omega), by omega⟩
 intro x h0 h1
 refine Classical.byContradiction fun hx => ?_
 have hs2 : (x :: a) ⊆ (List.range n).map (fun k : Nat => (k : Int)) := fun y hy => by
  rcases List.mem_cons.1 hy with hy | hy
  ·subst hy; exact List.mem_map.2 ⟨y.toNat, List.mem_range.2 (by omega), by omega⟩
  ·exact hs hy
 have := (List.nodup_cons.2 ⟨hx, hn⟩).length_le_of_subset hs2
 simp at this
 omega
end Go.Proofs.Ytlldjinejckbaaa.Pg

end
section
namespace Go.Proofs.Ytlldjinejckbaaa.Po
open Go Go.RowKit Go.Proofs.YtlldjinejckbaaaW.PrintWords Go.Proofs.Ytlldjinejckbaaa.Mod Go.Proofs.Ytlldjinejckbaaa.Lb Go.Proofs.Ytlldjinejckbaaa.Ng Go.Proofs.Ytlldjinejckbaaa.Rc Go.Proofs.Ytlldjinejckbaaa.PD Go.Proofs.Ytlldjinejckbaaa.Pg Go.Proofs.Ytlldjinejckbaaa.Od Go.Proofs.Ytlldjinejckbaaa.Ins
def Avail (n : Nat) (l : List S55) (out : List Int) (v : Int) : Prop := 0 ≤ v ∧ v < n ∧ v ∉ out ∧ ∀ u, E l u v → u ∈ out
def Greedy (n : Nat) (l : List S55) (out : List Int) : Prop := ∀ k : Nat, k < out.length → Avail n l (out.take k) (rd out k) ∧ ∀ u, Avail n l (out.take k) u → rd out k ≤ u
theorem rd_get {l : List Int} {k : Nat} (h : k < l.length) : rd l (k : Int) = l[k] := by
 unfold rd
 rw [Int.toNat_natCast, List.getD_eq_getElem?_getD, List.getElem?_eq_getElem h]
 rfl
theorem rd_mem {l : List Int} {k : Nat} (h : k < l.length) : rd l (k : Int) ∈ l := by rw [rd_get h]; exact List.getElem_mem _
theorem Greedy.nil (n : Nat) (l : List S55) : Greedy n l [] := fun k hk => absurd hk (Nat.not_lt_zero k)
theorem Greedy.snoc {n : Nat} {l : List S55} {out : List Int} (h : Greedy n l out) {v : Int} (ha : Avail n l out v) (hm : ∀ u, Avail n l out u → v ≤ u) : Greedy n l (out ++ [v]) := by
 intro k hk
 rw [List.length_append, List.length_singleton] at hk
 rcases Nat.lt_or_eq_of_le (Nat.le_of_lt_succ hk) with hk | hk
 ·have e1 : (out ++ [v]).take k = out.take k := by rw [List.take_append_of_le_length (Nat.le_of_lt hk)]
  have e2 : rd (out ++ [v]) (k : Int) = rd out (k : Int) := by rw [rd_get hk, rd_get (by simp; omega), List.getElem_append_left hk]
  rw [e1, e2]; exact h k hk
 ·subst hk
  have e1 : (out ++ [v]).take out.length = out := by simp
  have e2 : rd (out ++ [v]) (out.length : Int) = v := by rw [rd_get (by simp)]; simp
  rw [e1, e2]; exact ⟨ha, hm⟩
theorem Greedy.range {n : Nat} {l : List S55} {out : List Int} (h : Greedy n l out) : ∀ v ∈ out, 0 ≤ v ∧ v < (n : Int) := by
 intro v hv
 obtain ⟨k, hk, rfl⟩ := List.mem_iff_getElem.1 hv
 have := (h k hk).1
 rw [rd_get hk] at this
 exact ⟨this.1, this.2.1⟩
theorem Greedy.nodup {n : Nat} {l : List S55} {out : List Int} (h : Greedy n l out) : out.Nodup := by
 rw [List.nodup_iff_pairwise_ne, List.pairwise_iff_getElem]
 intro i j hi hj hij e
 have h2 := (h j hj).1.2.2.1
 rw [rd_get hj] at h2
 apply h2
 rw [List.mem_iff_getElem]
 exact ⟨i, by rw [List.length_take]; omega, by rw [List.getElem_take]; exact e⟩
theorem Greedy.before {n : Nat} {l : List S55} {out : List Int} (h : Greedy n l out) {k : Nat} (hk : k < out.length) {u : Int} (he : E l u (rd out k)) : u ∈ out.take k := (h k hk).1.2.2.2 u he
theorem Greedy.closed {n : Nat} {l : List S55} {out : List Int} (h : Greedy n l out) {u v : Int} (hv : v ∈ out) (he : E l u v) : u ∈ out := by
 obtain ⟨k, hk, rfl⟩ := List.mem_iff_getElem.1 hv
 rw [← rd_get hk] at he
 exact List.mem_of_mem_take (h.before hk he)
theorem Greedy.len {n : Nat} {l : List S55} {out : List Int} (h : Greedy n l out) : out.length ≤ n := nodup_len h.nodup h.range
theorem start1_spec (prevs : List (List Int)) (n : Nat) : ∀ k, k ≤ n → (start1 prevs n k).1.length = n ∧ (∀ v : Int, 0 ≤ v → v < k → rd (start1 prevs n k).1 v = ((row prevs v).length : Int)) ∧
  (start1 prevs n k).2.Pairwise (· < ·) ∧ (∀ v, v ∈ (start1 prevs n k).2 ↔ 0 ≤ v ∧ v < (k : Int) ∧ row prevs v = []) := by
 intro k
 induction k with
 | zero => intro _; refine ⟨by simp [start1], fun v h0 h1 => by omega, by simp [start1], fun v => ?_⟩; simp [start1]; intro h0 h1; omega
 | succ k ih =>
  intro hk
  obtain ⟨h1, h2, h3, h4⟩ := ih (by omega)
  rw [start1_succ]
  refine ⟨by simp [h1], fun v hv0 hv1 => ?_, ?_, fun v => ?_⟩
  ·by_cases e : v = (k : Int)
   ·subst e
    have := rd_set_same (start1 prevs n k).1 (k : Int) ((row prevs k).length : Int) hv0 (by rw [h1]; omega)
    rw [Int.toNat_natCast] at this
    exact this
   ·have := rd_set_other (start1 prevs n k).1 v (k : Int) ((row prevs k).length : Int) hv0 (by omega) e
    rw [Int.toNat_natCast] at this
    rw [this]
    exact h2 v hv0 (by omega)
  ·split
   ·rw [List.pairwise_append]
    refine ⟨h3, by simp, fun a ha b hb => ?_⟩
    rw [List.mem_singleton] at hb
    have := ((h4 a).1 ha).2.1
    omega
   ·exact h3
  ·split
   ·rename_i hz
    have hz2 : row prevs (k : Int) = [] := List.length_eq_zero_iff.1 (by omega)
    rw [List.mem_append, List.mem_singleton, h4]
    constructor
    ·rintro (⟨a, b, c⟩ | rfl)
     ·exact ⟨a, by omega, c⟩
     ·exact ⟨by omega, by omega, hz2⟩
    ·rintro ⟨a, b, c⟩
     by_cases e : v = (k : Int)
     ·exact .inr e
     ·exact .inl ⟨a, by omega, c⟩
   ·rename_i hz
    rw [h4]
    constructor
    ·rintro ⟨a, b, c⟩; exact ⟨a, by omega, c⟩
    ·rintro ⟨a, b, c⟩
     by_cases e : v = (k : Int)
     ·subst e; rw [c] at hz; simp at hz
     ·exact ⟨a, by omega, c⟩
theorem insert_strict (r : List Int) (x : Int) (h : r.Pairwise (· < ·)) (hx : x ∉ r) : (insertAt r (r.countP (· < x)) x).Pairwise (· < ·) ∧ ∀ y, y ∈ insertAt r (r.countP (· < x)) x ↔ y = x ∨ y ∈ r := by
 have hle := insert_sorted r x (h.imp (fun h => by omega))
 have hp : (insertAt r (r.countP (· < x)) x).Perm (x :: r) := by
  unfold insertAt
  have := List.perm_middle (a := x) (l₁ := r.take (r.countP (· < x))) (l₂ := r.drop (r.countP (· < x)))
  rwa [List.take_append_drop] at this
 have hn : (insertAt r (r.countP (· < x)) x).Nodup := hp.nodup_iff.2 (List.nodup_cons.2 ⟨hx, h.imp (fun h => by omega)⟩)
 refine ⟨?_, fun y => by rw [hp.mem_iff, List.mem_cons]⟩
 rw [List.pairwise_iff_getElem] at hle ⊢
 intro i j hi hj hij
 have h1 := hle i j hi hj hij
 have h2 := List.pairwise_iff_getElem.1 (List.nodup_iff_pairwise_ne.1 hn) i j hi hj hij
 omega
theorem wrap_small {x : Int} (h0 : -1000000 ≤ x) (h1 : x ≤ 1000000) : wrap64 x = x := by unfold wrap64; omega
theorem takeRow_spec : ∀ (xs w r : List Int), xs.Nodup → (∀ y ∈ xs, 0 ≤ y ∧ y < (w.length : Int)) → (∀ y ∈ xs, 1 ≤ rd w y ∧ rd w y ≤ 100000) → r.Pairwise (· < ·) → (∀ y ∈ xs, y ∉ r) →
  (takeRow xs w r).1.length = w.length ∧ (∀ y : Int, 0 ≤ y → rd (takeRow xs w r).1 y = rd w y - (if y ∈ xs then 1 else 0)) ∧ (takeRow xs w r).2.Pairwise (· < ·) ∧ ∀ y, y ∈ (takeRow xs w r).2 ↔ y ∈ r ∨ (y ∈ xs ∧ rd w y = 1)
 | [], w, r, _, _, _, hr, _ => ⟨rfl, fun y _ => by simp [takeRow], hr, fun y => by simp [takeRow]⟩
 | x :: xs, w, r, hn, hx, hb, hr, hnr => by
  obtain ⟨hx0, hx1⟩ := hx x (by simp)
  obtain ⟨hb0, hb1⟩ := hb x (by simp)
  rw [List.nodup_cons] at hn
  have hw : wrap64 (rd w x - 1) = rd w x - 1 := wrap_small (by omega) (by omega)
  have hset : ∀ y, 0 ≤ y → rd (w.set x.toNat (rd w x - 1)) y = if y = x then rd w x - 1 else rd w y := fun y hy => by
   by_cases e : y = x
   ·subst e; rw [if_pos rfl, rd_set_same _ _ _ hx0 hx1]
   ·rw [if_neg e, rd_set_other _ _ _ _ hy hx0 e]
  have hxs : ∀ y ∈ xs, y ≠ x := fun y hy e => hn.1 (by rw [← e]; exact hy)
  have h1 : ∀ y ∈ xs, 0 ≤ y ∧ y < ((w.set x.toNat (rd w x - 1)).length : Int) := fun y hy => by rw [List.length_set]; exact hx y (List.mem_cons_of_mem _ hy)
  have h2 : ∀ y ∈ xs, 1 ≤ rd (w.set x.toNat (rd w x - 1)) y ∧ rd (w.set x.toNat (rd w x - 1)) y ≤ 100000 := fun y hy => by
   rw [hset y (hx y (List.mem_cons_of_mem _ hy)).1, if_neg (hxs y hy)]; exact hb y (List.mem_cons_of_mem _ hy)
  have fin : ∀ (r' : List Int), r'.Pairwise (· < ·) → (∀ y ∈ xs, y ∉ r') → (∀ y, y ∈ r' ↔ y ∈ r ∨ (y = x ∧ rd w x = 1)) →
    (takeRow xs (w.set x.toNat (rd w x - 1)) r').1.length = w.length ∧ (∀ y : Int, 0 ≤ y → rd (takeRow xs (w.set x.toNat (rd w x - 1)) r').1 y = rd w y - (if y ∈ x :: xs then 1 else 0)) ∧
    (takeRow xs (w.set x.toNat (rd w x - 1)) r').2.Pairwise (· < ·) ∧ ∀ y, y ∈ (takeRow xs (w.set x.toNat (rd w x - 1)) r').2 ↔ y ∈ r ∨ (y ∈ x :: xs ∧ rd w y = 1) := by
   intro r' hr' hnr' hm
   obtain ⟨a, b, c, d⟩ := takeRow_spec xs (w.set x.toNat (rd w x - 1)) r' hn.2 h1 h2 hr' hnr'
   refine ⟨by rw [a, List.length_set], fun y hy => ?_, c, fun y => ?_⟩
   ·rw [b y hy, hset y hy]
    by_cases e : y = x
    ·subst e; rw [if_pos rfl, if_neg hn.1, if_pos (by simp)]; omega
    ·rw [if_neg e]
     by_cases hyx : y ∈ xs
     ·rw [if_pos hyx, if_pos (by simp [hyx])]
     ·rw [if_neg hyx, if_neg (by simp [hyx, e])]
   ·rw [d, hm]
    constructor
    ·rintro ((h | ⟨e, h⟩) | ⟨h, h'⟩)
     ·exact .inl h
     ·subst e; exact .inr ⟨by simp, h⟩
     ·rw [hset y (hx y (List.mem_cons_of_mem _ h)).1, if_neg (hxs y h)] at h'
      exact .inr ⟨by simp [h], h'⟩
    ·rintro (h | ⟨h, h'⟩)
     ·exact .inl (.inl h)
     ·rcases List.mem_cons.1 h with e | h
      ·subst e; exact .inl (.inr ⟨rfl, h'⟩)
      ·exact .inr ⟨h, by rw [hset y (hx y (List.mem_cons_of_mem _ h)).1, if_neg (hxs y h)]; exact h'⟩
  unfold takeRow
  rw [hw]
  by_cases hz : rd w x - 1 = 0
  ·rw [if_pos hz]
   obtain ⟨i1, i2⟩ := insert_strict r x hr (hnr x (by simp))
   exact fin _ i1 (fun y hy => by rw [i2]; rintro (e | e); exact hxs y hy e; exact hnr y (by simp [hy]) e) (fun y => by rw [i2]; constructor; (rintro (e | e); exact .inr ⟨e, by omega⟩; exact .inl e); (rintro (e | e); exact .inr e; exact .inl e.1))
  ·rw [if_neg hz]
   exact fin r hr (fun y hy => hnr y (by simp [hy])) (fun y => ⟨fun h => .inl h, fun h => h.elim id (fun h => absurd h.2 (by omega))⟩)
theorem countP_out (L : List Int) (hn : L.Nodup) (out : List Int) (v : Int) (hv : v ∉ out) : L.countP (fun u => decide (u ∉ out ++ [v])) + (if v ∈ L then 1 else 0) = L.countP (fun u => decide (u ∉ out)) := by
 induction L with
 | nil => simp
 | cons a L ih =>
  rw [List.nodup_cons] at hn
  have ih := ih hn.2
  rw [List.countP_cons, List.countP_cons]
  by_cases e : a = v
  ·subst e
   rw [if_neg hn.1] at ih
   simp [hv] at ih ⊢
   omega
  ·have e1 : (decide (a ∉ out ++ [v])) = decide (a ∉ out) := by simp [e]
   rw [e1]
   have e2 : (v ∈ a :: L) ↔ v ∈ L := by simp [Ne.symm e]
   by_cases hL : v ∈ L
   ·rw [if_pos hL] at ih; rw [if_pos (e2.2 hL)]; omega
   ·rw [if_neg hL] at ih; rw [if_neg (fun h => hL (e2.1 h))]; omega
structure KInv (n : Nat) (l : List S55) (w r out : List Int) : Prop where
 wl : w.length = n
 g : Greedy n l out
 cnt : ∀ v : Int, 0 ≤ v → v < n → v ∉ out → rd w v = ((row (pv n l) v).countP (fun u => decide (u ∉ out)) : Nat)
 rs : r.Pairwise (· < ·)
 rm : ∀ v, v ∈ r ↔ Avail n l out v
theorem KInv.step {n : Nat} (hn : n ≤ 1000) {l : List S55} (hl : Ok n l) {w q out : List Int} {v : Int} (h : KInv n l w (v :: q) out) : KInv n l (takeRow (row (nx n l) v) w q).1 (takeRow (row (nx n l) v) w q).2 (out ++ [v]) := by
 have hv : Avail n l out v := (h.rm v).1 (by simp)
 obtain ⟨hv0, hv1, hvo, hvp⟩ := hv
 have hrow : ∀ y, y ∈ row (nx n l) v ↔ E l v y := fun y => mem_nx hl y hv0 hv1
 have hq := List.pairwise_cons.1 h.rs
 have hs : ∀ y ∈ row (nx n l) v, 0 ≤ y ∧ y < (n : Int) ∧ y ∉ out ∧ y ≠ v := fun y hy => by
  have he := (hrow y).1 hy
  obtain ⟨_, _, y0, y1⟩ := he.ok hl
  exact ⟨y0, y1, fun hyo => hvo (h.g.closed hyo he), fun e => by subst e; exact hvo (hvp _ he)⟩
 have hb : ∀ y ∈ row (nx n l) v, 1 ≤ rd w y ∧ rd w y ≤ 100000 := fun y hy => by
  obtain ⟨y0, y1, y2, y3⟩ := hs y hy
  rw [h.cnt y y0 y1 y2]
  have h1 : 0 < (row (pv n l) y).countP (fun u => decide (u ∉ out)) := List.countP_pos_iff.2 ⟨v, (mem_pv hl v y0 y1).2 ((hrow y).1 hy), by simpa using hvo⟩
  have h2 : (row (pv n l) y).countP (fun u => decide (u ∉ out)) ≤ (row (pv n l) y).length := List.countP_le_length
  have h3 : (row (pv n l) y).length ≤ n := nodup_len (row_nodup _ _) (fun u hu => by have := ((mem_pv hl u y0 y1).1 hu).ok hl; exact ⟨this.1, this.2.1⟩)
  omega
 obtain ⟨t1, t2, t3, t4⟩ := takeRow_spec (row (nx n l) v) w q (row_nodup _ _) (fun y hy => by rw [h.wl]; exact ⟨(hs y hy).1, (hs y hy).2.1⟩) hb hq.2 (fun y hy hyq => hvo (((h.rm y).1 (by simp [hyq])).2.2.2 v ((hrow y).1 hy)))
 have hcnt : ∀ y : Int, 0 ≤ y → y < n → y ∉ out ++ [v] → rd (takeRow (row (nx n l) v) w q).1 y = ((row (pv n l) y).countP (fun u => decide (u ∉ out ++ [v])) : Nat) := fun y y0 y1 hy => by
  have hyo : y ∉ out := fun h => hy (by simp [h])
  have hc := countP_out (row (pv n l) y) (row_nodup _ _) out v hvo
  rw [t2 y y0, h.cnt y y0 y1 hyo]
  by_cases he : y ∈ row (nx n l) v
  ·rw [if_pos he]
   rw [if_pos ((mem_pv hl v y0 y1).2 ((hrow y).1 he))] at hc
   omega
  ·rw [if_neg he]
   rw [if_neg (fun h => he ((hrow y).2 ((mem_pv hl v y0 y1).1 h)))] at hc
   omega
 refine ⟨by rw [t1, h.wl], h.g.snoc ⟨hv0, hv1, hvo, hvp⟩ (fun u hu => ?_), hcnt, t3, fun y => ?_⟩
 ·have hur := (h.rm u).2 hu
  rcases List.mem_cons.1 hur with e | hur
  ·omega
  ·have := hq.1 u hur; omega
 ·rw [t4]
  have hcz : ∀ (o : List Int), 0 ≤ y → y < n → ((row (pv n l) y).countP (fun u => decide (u ∉ o)) = 0 ↔ ∀ u, E l u y → u ∈ o) := fun o y0 y1 => by
   rw [List.countP_eq_zero]
   constructor
   ·intro h u hu
    have := h u ((mem_pv hl u y0 y1).2 hu)
    simpa using this
   ·intro h u hu
    have := h u ((mem_pv hl u y0 y1).1 hu)
    simpa using this
  constructor
  ·rintro (hyq | ⟨hyr, hy1⟩)
   ·obtain ⟨y0, y1, y2, y3⟩ := (h.rm y).1 (by simp [hyq])
    have := hq.1 y hyq
    exact ⟨y0, y1, by simp [y2]; omega, fun u hu => by simp [y3 u hu]⟩
   ·obtain ⟨y0, y1, y2, y3⟩ := hs y hyr
    refine ⟨y0, y1, by simp [y2, y3], (hcz _ y0 y1).1 ?_⟩
    have hc := countP_out (row (pv n l) y) (row_nodup _ _) out v hvo
    rw [if_pos ((mem_pv hl v y0 y1).2 ((hrow y).1 hyr))] at hc
    rw [h.cnt y y0 y1 y2] at hy1
    omega
  ·rintro ⟨y0, y1, y2, y3⟩
   have hyo : y ∉ out := fun h => y2 (by simp [h])
   have hyv : y ≠ v := fun h => y2 (by simp [h])
   by_cases hall : ∀ u, E l u y → u ∈ out
   ·have := (h.rm y).2 ⟨y0, y1, hyo, hall⟩
    rcases List.mem_cons.1 this with e | hyq
    ·exact absurd e hyv
    ·exact .inl hyq
   ·have hev : E l v y := Classical.byContradiction fun hne => hall fun u hu => by
     have := y3 u hu
     rcases List.mem_append.1 this with h | h
     ·exact h
     ·rw [List.mem_singleton] at h; subst h; exact absurd hu hne
    refine .inr ⟨(hrow y).2 hev, ?_⟩
    have hc := countP_out (row (pv n l) y) (row_nodup _ _) out v hvo
    rw [if_pos ((mem_pv hl v y0 y1).2 hev), (hcz _ y0 y1).2 y3] at hc
    rw [h.cnt y y0 y1 hyo]
    omega
theorem ordGo_spec {n : Nat} (hn : n ≤ 1000) {l : List S55} (hl : Ok n l) : ∀ (k : Nat) (w r out : List Int), KInv n l w r out → out.length + k = n + 1 → ∃ o, ordGo (nx n l) k w r out = some o ∧ Greedy n l o ∧ ∀ v, ¬ Avail n l o v
 | 0, w, r, out, h, hk => by have := h.g.len; omega
 | k + 1, w, [], out, h, hk => ⟨out, rfl, h.g, fun v hv => by have := (h.rm v).2 hv; simp at this⟩
 | k + 1, w, v :: q, out, h, hk => by
  have hq := List.pairwise_cons.1 h.rs
  have hql : q.length ≤ n := nodup_len (hq.2.imp (fun h => by omega)) (fun u hu => by have := (h.rm u).1 (by simp [hu]); exact ⟨this.1, this.2.1⟩)
  unfold ordGo
  rw [if_neg (by omega)]
  exact ordGo_spec hn hl k _ _ _ (h.step hn hl) (by rw [List.length_append, List.length_singleton]; omega)
theorem order_spec {n : Nat} (hn : n ≤ 1000) {l : List S55} (hl : Ok n l) : ∃ o, orderOf n l = some (if o.length < n then ([], 50) else (o, 0)) ∧ Greedy n l o ∧ ∀ v, ¬ Avail n l o v := by
 obtain ⟨s1, s2, s3, s4⟩ := start1_spec (pv n l) n n (Nat.le_refl _)
 have h0 : KInv n l (start1 (pv n l) n n).1 (start1 (pv n l) n n).2 [] := by
  refine ⟨s1, Greedy.nil n l, fun v h0 h1 _ => ?_, s3, fun v => ?_⟩
  ·rw [s2 v h0 h1]
   congr 1
   rw [List.countP_eq_length.2 (fun u _ => by simp)]
  ·rw [s4]
   constructor
   ·rintro ⟨a, b, c⟩
    exact ⟨a, b, by simp, fun u hu => by have := (mem_pv hl u a b).2 hu; rw [c] at this; simp at this⟩
   ·rintro ⟨a, b, _, c⟩
    refine ⟨a, b, List.eq_nil_iff_forall_not_mem.2 fun u hu => ?_⟩
    have := c u ((mem_pv hl u a b).1 hu)
    simp at this
 obtain ⟨o, ho, hg, ha⟩ := ordGo_spec hn hl (n + 1) _ _ _ h0 (by simp)
 exact ⟨o, by unfold orderOf; rw [ho]; rfl, hg, ha⟩
end Go.Proofs.Ytlldjinejckbaaa.Po

end
