/- The law DigraphReaches of package digraph holds for every input: what it is called with is opened, the printed text of the law and its plain proof are joined. (Part 5 of 6 of its proof.) -/
import Derived.Test.YtlldjinejckbaaaZ03
section
namespace Go.Proofs.Ytlldjinejckbaaa.PD
open Go.RowKit Go.Proofs.YtlldjinejckbaaaW.PrintWords Go.Proofs.YtlldjinejckbaaaW.PrintLast Go.Proofs.YtlldjinejckbaaaW.PrintMore
attribute [local go_sem] max2_int min2_int max_two min_two max_three min_three max_four min_four
set_option linter.unusedVariables false
set_option linter.unusedSimpArgs false
mutual
def wireloomlaw05_DigraphReaches.l0 : Nat → Bool → Int → List Int → Int → Int → Int → Int → Int → List (S55) → Option (Bool)
 | 0, _, _, _, _, _, _, _, _, _ => none
 | k + 1, x5, x7, x8, x9, x536000, x536001, x536002, x542000, x542001 => if x9 < (x8.length : Int) then (if 0 ≤ x9 then (wireloomlaw05_DigraphReaches.l1 k x5 x7 x8 x9 ((rd x8 x9) == x7) 0 x536000 x536001 x536002 x542000 x542001) else (none)) else (if (x8.length : Int) = 0 then (none) else (if 0 ≤ (Int.tmod (wrap64 (x536001)) (x8.length : Int)) then (if (Int.tmod (wrap64 (x536001)) (x8.length : Int)) < (x8.length : Int) then ((digraph_Reach.f x542000 x542001 (rd x8 (Int.tmod (wrap64 (x536001)) (x8.length : Int)))).bind fun t568 => (if x542000 = 0 then (none) else ((wireloomref05_With.f x542000 x542001 (Int.tmod (wrap64 (x536001)) x542000) (Int.tmod (wrap64 (x536002)) x542000)).bind fun bt571 => ((digraph_Reach.f bt571.1 bt571.2 x7).bind fun t576 => (wireloomlaw05_DigraphReaches.l2 k x5 x8 t568 t576 0))))) else (none)) else (none)))
def wireloomlaw05_DigraphReaches.l1 : Nat → Bool → Int → List Int → Int → Bool → Int → Int → Int → Int → Int → List (S55) → Option (Bool)
 | 0, _, _, _, _, _, _, _, _, _, _, _ => none
 | k + 1, x5, x7, x8, x9, x10, x11, x536000, x536001, x536002, x542000, x542001 => if x11 < (x542001.length : Int) then (if 0 ≤ x11 then (if 0 ≤ x9 then (if x9 < (x8.length : Int) then (if ((rd_T55 x542001 x11).f0) = (rd x8 x9) then ((wireloomref05_In.f k x8 ((rd_T55 x542001 x11).f1)).bind fun t556 => (if t556 = true then (if x10 = true then (wireloomlaw05_DigraphReaches.l1 k x5 x7 x8 x9 true (wrap64 (x11 + 1)) x536000 x536001 x536002 x542000 x542001) else (if ((rd_T55 x542001 x11).f1) = (rd x8 x9) then (wireloomlaw05_DigraphReaches.l1 k x5 x7 x8 x9 false (wrap64 (x11 + 1)) x536000 x536001 x536002 x542000 x542001) else (wireloomlaw05_DigraphReaches.l1 k x5 x7 x8 x9 false (wrap64 (x11 + 1)) x536000 x536001 x536002 x542000 x542001))) else (none))) else (if x10 = true then (wireloomlaw05_DigraphReaches.l1 k x5 x7 x8 x9 true (wrap64 (x11 + 1)) x536000 x536001 x536002 x542000 x542001) else (if ((rd_T55 x542001 x11).f1) = (rd x8 x9) then ((wireloomref05_In.f k x8 ((rd_T55 x542001 x11).f0)).bind fun t566 => (wireloomlaw05_DigraphReaches.l1 k x5 x7 x8 x9 t566 (wrap64 (x11 + 1)) x536000 x536001 x536002 x542000 x542001)) else (wireloomlaw05_DigraphReaches.l1 k x5 x7 x8 x9 false (wrap64 (x11 + 1)) x536000 x536001 x536002 x542000 x542001)))) else (none)) else (none)) else (none)) else (if x10 = true then (if x9 > 0 then (if 0 ≤ (wrap64 (x9 - 1)) then (if (wrap64 (x9 - 1)) < (x8.length : Int) then (if 0 ≤ x9 then (if x9 < (x8.length : Int) then (if (rd x8 (wrap64 (x9 - 1))) ≥ (rd x8 x9) then (none) else (if (rd x8 x9) < 0 then (none) else (if (rd x8 x9) ≥ x542000 then (none) else (wireloomlaw05_DigraphReaches.l0 k x5 x7 x8 (wrap64 (x9 + 1)) x536000 x536001 x536002 x542000 x542001)))) else (none)) else (none)) else (none)) else (none)) else (if 0 ≤ x9 then (if x9 < (x8.length : Int) then (if (rd x8 x9) < 0 then (none) else (if (rd x8 x9) ≥ x542000 then (none) else (wireloomlaw05_DigraphReaches.l0 k x5 x7 x8 (wrap64 (x9 + 1)) x536000 x536001 x536002 x542000 x542001))) else (none)) else (none))) else (none))
def wireloomlaw05_DigraphReaches.l2 : Nat → Bool → List Int → List Int → List Int → Int → Option (Bool)
 | 0, _, _, _, _, _ => none
 | k + 1, x5, x8, x13, x15, x16 => if x16 < (x13.length : Int) then (if 0 ≤ x16 then ((wireloomref05_In.f k x8 (rd x13 x16)).bind fun t580 => (if t580 = true then (wireloomlaw05_DigraphReaches.l2 k x5 x8 x13 x15 (wrap64 (x16 + 1))) else (none))) else (none)) else (wireloomlaw05_DigraphReaches.l3 k x5 x8 x15 0)
def wireloomlaw05_DigraphReaches.l3 : Nat → Bool → List Int → List Int → Int → Option (Bool)
 | 0, _, _, _, _ => none
 | k + 1, x5, x8, x15, x17 => if x17 < (x8.length : Int) then (if 0 ≤ x17 then ((wireloomref05_In.f k x15 (rd x8 x17)).bind fun t582 => (if t582 = true then (wireloomlaw05_DigraphReaches.l3 k x5 x8 x15 (wrap64 (x17 + 1))) else (none))) else (none)) else (some x5)
end
def wireloomlaw05_DigraphReaches.f (k : Nat) (a0_0 : Int) (a0_1 : Int) (l0_2 : List Int) (a1_0 : Int) (a1_1 : Int) (a1_2 : Int) : Option (Bool) := (wireloomlaw05_examples.f k).bind fun t536 => (if t536 = true then ((wireloomref05_Made.f k a0_0 a0_1 l0_2).bind fun bt537 => (if bt537.1 = 0 then (some t536) else ((digraph_Reach.f bt537.1 bt537.2 (Int.tmod (wrap64 (a1_0)) bt537.1)).bind fun t542 => ((wireloomref05_In.f k t542 (Int.tmod (wrap64 (a1_0)) bt537.1)).bind fun t545 => (if t545 = true then (wireloomlaw05_DigraphReaches.l0 k t536 (Int.tmod (wrap64 (a1_0)) bt537.1) t542 0 a1_0 a1_1 a1_2 bt537.1 bt537.2) else (none)))))) else (none))
theorem wireloomlaw05_DigraphReaches.mono_l : ∀ k, (∀ y0 y1 y2 y3 y4 y5 y6 y7 y8, LeO (wireloomlaw05_DigraphReaches.l0 k y0 y1 y2 y3 y4 y5 y6 y7 y8) (wireloomlaw05_DigraphReaches.l0 (k + 1) y0 y1 y2 y3 y4 y5 y6 y7 y8)) ∧ (∀ y0 y1 y2 y3 y4 y5 y6 y7 y8 y9 y10, LeO (wireloomlaw05_DigraphReaches.l1 k y0 y1 y2 y3 y4 y5 y6 y7 y8 y9 y10) (wireloomlaw05_DigraphReaches.l1 (k + 1) y0 y1 y2 y3 y4 y5 y6 y7 y8 y9 y10)) ∧ (∀ y0 y1 y2 y3 y4, LeO (wireloomlaw05_DigraphReaches.l2 k y0 y1 y2 y3 y4) (wireloomlaw05_DigraphReaches.l2 (k + 1) y0 y1 y2 y3 y4)) ∧ (∀ y0 y1 y2 y3, LeO (wireloomlaw05_DigraphReaches.l3 k y0 y1 y2 y3) (wireloomlaw05_DigraphReaches.l3 (k + 1) y0 y1 y2 y3))
 | 0 => ⟨fun _ _ _ _ _ _ _ _ _ r h => by simp [wireloomlaw05_DigraphReaches.l0] at h, fun _ _ _ _ _ _ _ _ _ _ _ r h => by simp [wireloomlaw05_DigraphReaches.l1] at h, fun _ _ _ _ _ r h => by simp [wireloomlaw05_DigraphReaches.l2] at h, fun _ _ _ _ r h => by simp [wireloomlaw05_DigraphReaches.l3] at h⟩
 | k + 1 => by
  obtain ⟨ih0, ih1, ih2, ih3⟩ := wireloomlaw05_DigraphReaches.mono_l k
  refine ⟨?_, ?_, ?_, ?_⟩
  ·intro y0 y1 y2 y3 y4 y5 y6 y7 y8
   unfold wireloomlaw05_DigraphReaches.l0
   repeat' first
   | (with_reducible exact ih0 _ _ _ _ _ _ _ _ _)
   | (with_reducible exact ih1 _ _ _ _ _ _ _ _ _ _ _)
   | (with_reducible exact ih2 _ _ _ _ _)
   | (with_reducible exact ih3 _ _ _ _)
   | (with_reducible exact wireloomlaw05_examples.mono _)
   | (with_reducible exact wireloomref05_In.mono _ _ _)
   | (with_reducible exact wireloomref05_Made.mono _ _ _ _)
   | (with_reducible exact LeO.refl _)
   | (with_reducible exact LeO.none _)
   | (with_reducible refine LeO.ite ?_ ?_)
   | (with_reducible refine LeO.bind ?_ (fun _ => ?_))
   | exact ih0 _ _ _ _ _ _ _ _ _
   | exact ih1 _ _ _ _ _ _ _ _ _ _ _
   | exact ih2 _ _ _ _ _
   | exact ih3 _ _ _ _
   | exact wireloomlaw05_examples.mono _
   | exact wireloomref05_In.mono _ _ _
   | exact wireloomref05_Made.mono _ _ _ _
   | exact LeO.none _
   | refine LeO.ite ?_ ?_
   | refine LeO.bind ?_ (fun _ => ?_)
  ·intro y0 y1 y2 y3 y4 y5 y6 y7 y8 y9 y10
   unfold wireloomlaw05_DigraphReaches.l1
   repeat' first
   | (with_reducible exact ih0 _ _ _ _ _ _ _ _ _)
   | (with_reducible exact ih1 _ _ _ _ _ _ _ _ _ _ _)
   | (with_reducible exact ih2 _ _ _ _ _)
   | (with_reducible exact ih3 _ _ _ _)
   | (with_reducible exact wireloomlaw05_examples.mono _)
   | (with_reducible exact wireloomref05_In.mono _ _ _)
   | (with_reducible exact wireloomref05_Made.mono _ _ _ _)
   | (with_reducible exact LeO.refl _)
   | (with_reducible exact LeO.none _)
   | (with_reducible refine LeO.ite ?_ ?_)
   | (with_reducible refine LeO.bind ?_ (fun _ => ?_))
   | exact ih0 _ _ _ _ _ _ _ _ _
   | exact ih1 _ _ _ _ _ _ _ _ _ _ _
   | exact ih2 _ _ _ _ _
   | exact ih3 _ _ _ _
   | exact wireloomlaw05_examples.mono _
   | exact wireloomref05_In.mono _ _ _
   | exact wireloomref05_Made.mono _ _ _ _
   | exact LeO.none _
   | refine LeO.ite ?_ ?_
   | refine LeO.bind ?_ (fun _ => ?_)
  ·intro y0 y1 y2 y3 y4
   unfold wireloomlaw05_DigraphReaches.l2
   repeat' first
   | (with_reducible exact ih0 _ _ _ _ _ _ _ _ _)
   | (with_reducible exact ih1 _ _ _ _ _ _ _ _ _ _ _)
   | (with_reducible exact ih2 _ _ _ _ _)
   | (with_reducible exact ih3 _ _ _ _)
   | (with_reducible exact wireloomlaw05_examples.mono _)
   | (with_reducible exact wireloomref05_In.mono _ _ _)
   | (with_reducible exact wireloomref05_Made.mono _ _ _ _)
   | (with_reducible exact LeO.refl _)
   | (with_reducible exact LeO.none _)
   | (with_reducible refine LeO.ite ?_ ?_)
   | (with_reducible refine LeO.bind ?_ (fun _ => ?_))
   | exact ih0 _ _ _ _ _ _ _ _ _
   | exact ih1 _ _ _ _ _ _ _ _ _ _ _
   | exact ih2 _ _ _ _ _
   | exact ih3 _ _ _ _
   | exact wireloomlaw05_examples.mono _
   | exact wireloomref05_In.mono _ _ _
   | exact wireloomref05_Made.mono _ _ _ _
   | exact LeO.none _
   | refine LeO.ite ?_ ?_
   | refine LeO.bind ?_ (fun _ => ?_)
  ·intro y0 y1 y2 y3
   unfold wireloomlaw05_DigraphReaches.l3
   repeat' first
   | (with_reducible exact ih0 _ _ _ _ _ _ _ _ _)
   | (with_reducible exact ih1 _ _ _ _ _ _ _ _ _ _ _)
   | (with_reducible exact ih2 _ _ _ _ _)
   | (with_reducible exact ih3 _ _ _ _)
   | (with_reducible exact wireloomlaw05_examples.mono _)
   | (with_reducible exact wireloomref05_In.mono _ _ _)
   | (with_reducible exact wireloomref05_Made.mono _ _ _ _)
   | (with_reducible exact LeO.refl _)
   | (with_reducible exact LeO.none _)
   | (with_reducible refine LeO.ite ?_ ?_)
   | (with_reducible refine LeO.bind ?_ (fun _ => ?_))
   | exact ih0 _ _ _ _ _ _ _ _ _
   | exact ih1 _ _ _ _ _ _ _ _ _ _ _
   | exact ih2 _ _ _ _ _
   | exact ih3 _ _ _ _
   | exact wireloomlaw05_examples.mono _
   | exact wireloomref05_In.mono _ _ _
   | exact wireloomref05_Made.mono _ _ _ _
   | exact LeO.none _
   | refine LeO.ite ?_ ?_
   | refine LeO.bind ?_ (fun _ => ?_)
theorem wireloomlaw05_DigraphReaches.mono : ∀ a0 a1 a2 a3 a4 a5 k, LeO (wireloomlaw05_DigraphReaches.f k a0 a1 a2 a3 a4 a5) (wireloomlaw05_DigraphReaches.f (k + 1) a0 a1 a2 a3 a4 a5) := by
 intro a0 a1 a2 a3 a4 a5 k
 obtain ⟨ih0, ih1, ih2, ih3⟩ := wireloomlaw05_DigraphReaches.mono_l k
 unfold wireloomlaw05_DigraphReaches.f
 repeat' first
   | (with_reducible exact ih0 _ _ _ _ _ _ _ _ _)
   | (with_reducible exact ih1 _ _ _ _ _ _ _ _ _ _ _)
   | (with_reducible exact ih2 _ _ _ _ _)
   | (with_reducible exact ih3 _ _ _ _)
   | (with_reducible exact wireloomlaw05_examples.mono _)
   | (with_reducible exact wireloomref05_In.mono _ _ _)
   | (with_reducible exact wireloomref05_Made.mono _ _ _ _)
   | (with_reducible exact LeO.refl _)
   | (with_reducible exact LeO.none _)
   | (with_reducible refine LeO.ite ?_ ?_)
   | (with_reducible refine LeO.bind ?_ (fun _ => ?_))
   | exact ih0 _ _ _ _ _ _ _ _ _
   | exact ih1 _ _ _ _ _ _ _ _ _ _ _
   | exact ih2 _ _ _ _ _
   | exact ih3 _ _ _ _
   | exact wireloomlaw05_examples.mono _
   | exact wireloomref05_In.mono _ _ _
   | exact wireloomref05_Made.mono _ _ _ _
   | exact LeO.none _
   | refine LeO.ite ?_ ?_
   | refine LeO.bind ?_ (fun _ => ?_)
def wireloomlaw05_DigraphReaches.T18 : Bool × List (List Nat × List Nat) := (true, [([], []), ([0], [0]), ([], []), ([1, 2], [1, 2]), ([3], [3]), ([4], [4]), ([], []), ([], []), ([6, 7], [6, 7]), ([8], [8]), ([5, 9], [5, 9]), ([10], [10]), ([11], [11]), ([11], [11]), ([13, 11], [11, 13]), ([11], [11]), ([14, 15, 11], [11, 14, 15]), ([16, 11], [11, 16]), ([17, 11], [11, 17]), ([12, 18, 11, 11], [11, 12, 18]), ([19, 11], [11, 19]), ([11, 20], [11, 20])])
def wireloomlaw05_DigraphReaches.B18 : List Nat := [0, 1, 0, 7, 15, 31, 0, 0, 192, 448, 1023, 2047, 4095, 4095, 12287, 4095, 61439, 126975, 258047, 524287, 1048575, 2097151]
theorem wireloomlaw05_DigraphReaches.tab18 : rtab .any (opsOf Try.f6 18) = wireloomlaw05_DigraphReaches.T18 := by kernel_rfl
theorem wireloomlaw05_DigraphReaches.bits18 : waitsOk wireloomlaw05_DigraphReaches.T18.2 wireloomlaw05_DigraphReaches.B18 = true := by kernel_rfl
def wireloomlaw05_DigraphReaches.T20 : Bool × List (List Nat × List Nat) := (true, [([], []), ([0], [0]), ([1], [1]), ([2, 1], [1, 2]), ([1], [1]), ([3, 4, 1], [1, 3, 4]), ([5, 1], [1, 5]), ([6, 1], [1, 6]), ([1], [1]), ([1], [1]), ([8, 9, 1], [1, 8, 9]), ([10, 1], [1, 10]), ([7, 11, 1], [1, 7, 11]), ([12, 1, 1], [1, 12]), ([13], [13]), ([14, 13], [13, 14]), ([13], [13]), ([15, 16, 13], [13, 15, 16]), ([17, 13], [13, 17]), ([18, 13], [13, 18]), ([13], [13]), ([13], [13]), ([20, 21, 13], [13, 20, 21]), ([22, 13], [13, 22]), ([19, 23, 13], [13, 19, 23]), ([13, 24, 1], [1, 13, 24]), ([25, 13, 1], [1, 25]), ([26], [26]), ([26], [26]), ([28, 26], [26, 28]), ([26], [26]), ([29, 30, 26], [26, 29, 30]), ([31, 26], [26, 31]), ([32, 26], [26, 32]), ([27, 33, 26, 26], [26, 27, 33]), ([26, 34, 1], [1, 26, 34]), ([1, 35], [1, 35]), ([36, 34, 0, 1, 2, 3, 4, 5, 6, 7, 8, 9, 10, 11, 12, 13, 14, 15, 16, 17, 18, 19, 20, 21, 22, 23, 24, 25, 26, 27, 28, 29, 30, 31, 32, 33, 34, 35, 36], [0, 36])])
def wireloomlaw05_DigraphReaches.B20 : List Nat := [0, 1, 3, 7, 3, 31, 63, 127, 3, 3, 771, 1795, 4095, 8191, 16383, 32767, 16383, 131071, 262143, 524287, 16383, 16383, 3162111, 7356415, 16777215, 33554431, 67108863, 134217727, 134217727, 402653183, 134217727, 2013265919, 4160749567, 8455716863, 17179869183, 34359738367, 68719476735, 137438953471]
theorem wireloomlaw05_DigraphReaches.tab20 : rtab .any (opsOf Try.f6 20) = wireloomlaw05_DigraphReaches.T20 := by kernel_rfl
theorem wireloomlaw05_DigraphReaches.bits20 : waitsOk wireloomlaw05_DigraphReaches.T20.2 wireloomlaw05_DigraphReaches.B20 = true := by kernel_rfl
def wireloomlaw05_DigraphReaches.T21 : Bool × List (List Nat × List Nat) := (true, [([], []), ([0], [0]), ([1], [1]), ([2], [2]), ([3, 2], [2, 3]), ([4, 2, 2], [2, 4]), ([5], [5]), ([5], [5]), ([7, 5], [5, 7]), ([6, 8, 5], [5, 6, 8]), ([9, 5], [5, 9]), ([5], [5]), ([5], [5]), ([11, 12, 5], [5, 11, 12]), ([13, 5], [5, 13]), ([10, 14, 5], [5, 10, 14]), ([5, 15, 2], [2, 5, 15]), ([2, 16], [2, 16]), ([17, 5], [17]), ([18], [18]), ([18], [18]), ([19, 20, 18], [18, 19, 20]), ([21, 18], [18, 21]), ([22, 18], [18, 22]), ([18, 23], [18, 23]), ([24, 18], [24]), ([25], [25]), ([25], [25]), ([26, 27, 25], [25, 26, 27]), ([28, 25], [25, 28]), ([25], [25]), ([30, 25], [25, 30]), ([29, 31, 25], [25, 29, 31]), ([25, 32], [25, 32])])
def wireloomlaw05_DigraphReaches.B21 : List Nat := [0, 1, 3, 7, 15, 31, 63, 63, 191, 511, 1023, 63, 63, 6207, 14399, 32767, 65535, 131071, 262143, 524287, 524287, 2097151, 4194303, 8388607, 16777215, 33554431, 67108863, 67108863, 268435455, 536870911, 67108863, 1140850687, 4294967295, 8589934591]
theorem wireloomlaw05_DigraphReaches.tab21 : rtab .any (opsOf Try.f6 21) = wireloomlaw05_DigraphReaches.T21 := by kernel_rfl
theorem wireloomlaw05_DigraphReaches.bits21 : waitsOk wireloomlaw05_DigraphReaches.T21.2 wireloomlaw05_DigraphReaches.B21 = true := by kernel_rfl
def wireloomlaw05_DigraphReaches.T25 : Bool × List (List Nat × List Nat) := (true, [([], []), ([], []), ([1], [1]), ([2], [2]), ([], []), ([4], [4]), ([3, 5], [3, 5]), ([], []), ([7], [7]), ([8], [8]), ([], []), ([10], [10]), ([9, 11], [9, 11]), ([0, 6, 12], [0, 6, 12]), ([], []), ([14, 13, 13, 0, 1, 2, 3, 4, 5, 6, 7, 8, 9, 10, 11, 12, 13, 14], [13, 14])])
def wireloomlaw05_DigraphReaches.B25 : List Nat := [0, 0, 2, 6, 0, 16, 62, 0, 128, 384, 0, 1024, 3968, 8191, 0, 32767]
theorem wireloomlaw05_DigraphReaches.tab25 : rtab .any (opsOf Try.f6 25) = wireloomlaw05_DigraphReaches.T25 := by kernel_rfl
theorem wireloomlaw05_DigraphReaches.bits25 : waitsOk wireloomlaw05_DigraphReaches.T25.2 wireloomlaw05_DigraphReaches.B25 = true := by kernel_rfl
set_option maxHeartbeats 8000000 in
set_option maxRecDepth 100000 in
theorem wireloomlaw05_DigraphReaches.calls (k : Nat) (a0_0 : Int) (a0_1 : Int) (A0_2 : Option Addr) (c0_2 : Nat) (l0_2 : List Int) (a1_0 : Int) (a1_1 : Int) (a1_2 : Int) (r : Bool) (w : World) (hr0_2 : Kd.C (Kd.int .u8) w A0_2 l0_2.length l0_2) (hc0_2 : l0_2.length ≤ c0_2) (h : wireloomlaw05_DigraphReaches.f k a0_0 a0_1 l0_2 a1_0 a1_1 a1_2 = some r) :
  Calls Try.prog 6 #[.agg #[.int .u8 a0_0, .int .u8 a0_1, .slice A0_2 l0_2.length c0_2], .agg #[.int .u8 a1_0, .int .u8 a1_1, .int .u8 a1_2]] w fun e w' => e = .returned (.bool r) ∧ Below w.heap.size w w' := by
 have hu24 := Try.underlying24
 have hu52 := Try.underlying52
 have hu31 := Try.underlying31
 have HR0_2 := Aside0.mk hr0_2
 have HC0_2 := Aside0.mk hc0_2
 clear hr0_2 hc0_2
 have HB := Aside0.mk (Below.refl w.heap.size w)
 have H : ((wireloomlaw05_examples.f k).bind fun t536 => (if t536 = true then ((wireloomref05_Made.f k a0_0 a0_1 l0_2).bind fun bt537 => (if bt537.1 = 0 then (some t536) else ((digraph_Reach.f bt537.1 bt537.2 (Int.tmod (wrap64 (a1_0)) bt537.1)).bind fun t542 => ((wireloomref05_In.f k t542 (Int.tmod (wrap64 (a1_0)) bt537.1)).bind fun t545 => (if t545 = true then (wireloomlaw05_DigraphReaches.l0 k t536 (Int.tmod (wrap64 (a1_0)) bt537.1) t542 0 a1_0 a1_1 a1_2 bt537.1 bt537.2) else (none)))))) else (none))) = some r := h
 clear h
 replace H := Option.bind_eq_some_iff.mp H
 obtain ⟨t536, A30, H⟩ := H
 replace H : (if t536 = true then ((wireloomref05_Made.f k a0_0 a0_1 l0_2).bind fun bt537 => (if bt537.1 = 0 then (some t536) else ((digraph_Reach.f bt537.1 bt537.2 (Int.tmod (wrap64 (a1_0)) bt537.1)).bind fun t542 => ((wireloomref05_In.f k t542 (Int.tmod (wrap64 (a1_0)) bt537.1)).bind fun t545 => (if t545 = true then (wireloomlaw05_DigraphReaches.l0 k t536 (Int.tmod (wrap64 (a1_0)) bt537.1) t542 0 a1_0 a1_1 a1_2 bt537.1 bt537.2) else (none)))))) else (none)) = some r := H
 have A3 := Aside0.mk A30
 clear A30
 by_cases c4 : t536 = true
 ·subst c4
  have H1 : ((wireloomref05_Made.f k a0_0 a0_1 l0_2).bind fun bt537 => (if bt537.1 = 0 then (some true) else ((digraph_Reach.f bt537.1 bt537.2 (Int.tmod (wrap64 (a1_0)) bt537.1)).bind fun t542 => ((wireloomref05_In.f k t542 (Int.tmod (wrap64 (a1_0)) bt537.1)).bind fun t545 => (if t545 = true then (wireloomlaw05_DigraphReaches.l0 k true (Int.tmod (wrap64 (a1_0)) bt537.1) t542 0 a1_0 a1_1 a1_2 bt537.1 bt537.2) else (none)))))) = some r := by rw [if_pos rfl] at H; exact H
  clear H
  have H := H1
  clear H1
  replace H := Option.bind_eq_some_iff.mp H
  obtain ⟨⟨t537, t538⟩, A50, H⟩ := H
  replace H : (if t537 = 0 then (some true) else ((digraph_Reach.f t537 t538 (Int.tmod (wrap64 (a1_0)) t537)).bind fun t542 => ((wireloomref05_In.f k t542 (Int.tmod (wrap64 (a1_0)) t537)).bind fun t545 => (if t545 = true then (wireloomlaw05_DigraphReaches.l0 k true (Int.tmod (wrap64 (a1_0)) t537) t542 0 a1_0 a1_1 a1_2 t537 t538) else (none))))) = some r := H
  have A5 := Aside0.mk A50
  clear A50
  by_cases c6 : t537 = 0
  ·rw [if_pos c6] at H
   have c6b0 : (t537 == 0) = true := beq_iff_eq.mpr c6
   have c6b1 : (t537 != 0) = false := bne_eq_false_iff_eq.mpr c6
   clear c6
   obtain rfl := Option.some.inj H
   go_enter Try.func6, Try.ntmps6
   go_wp2_with (first | ((with_reducible refine gate_dst (N := 2) rfl ?_); refine box_event ?hg (N := 2) ?hd (cs := #[.int .u8 a0_0, .int .u8 a0_1, .slice A0_2 l0_2.length c0_2]) (t := 24) ?hr ?_; (case hd => rfl); (case hg => rfl); (case hr => first | (go_simp; done) | (go_simp; rfl)); intro gb534 hg w7 hbox hb; have n0_ := Aside0.mk (below_step (by repeat (first | (with_reducible first | exact HB.out | apply below_alloc | apply pw_below_drewN | apply below_drew1) | exact HB.out)) hb); have n1_ := Aside0.mk (hbox); have n2_ := Aside0.mk ((by rw [hg]; exact (below_size (by repeat (first | (with_reducible first | exact HB.out | apply below_alloc | apply pw_below_drewN | apply below_drew1) | exact HB.out))) : w.heap.size ≤ gb534)); have n3_ := Aside0.mk ((by rw [hg]; exact (below_size (by repeat (first | (with_reducible first | exact HB.out | apply below_alloc | apply pw_below_drewN | apply below_drew1) | exact HB.out))) : w.heap.size ≤ gb534)); clear HB; have HB := n0_; have BK534 := n1_; have GW534 := n2_; have GE534 := n3_; clear n0_ n1_ n2_ n3_; clear hb hbox hg) | ((with_reducible refine gate_dst (N := 3) rfl ?_); refine box_event ?hg (N := 3) ?hd (cs := #[.int .u8 a1_0, .int .u8 a1_1, .int .u8 a1_2]) (t := 52) ?hr ?_; (case hd => rfl); (case hg => rfl); (case hr => first | (go_simp; done) | (go_simp; rfl)); intro gb535 hg w8 hbox hb; have n0_ := Aside0.mk (blk_below (g := gb534) (o := .cells #[.int .u8 a0_0, .int .u8 a0_1, .slice A0_2 l0_2.length c0_2] 24 (0, 0)) (bA BK534.out) hb); have n1_ := Aside0.mk (below_step (by repeat (first | (with_reducible first | exact HB.out | apply below_alloc | apply pw_below_drewN | apply below_drew1 | refine below_set ?_ GE534.out) | exact HB.out)) hb); have n2_ := Aside0.mk (hbox); have n3_ := Aside0.mk ((by rw [hg]; exact (below_size (by repeat (first | (with_reducible first | exact HB.out | apply below_alloc | apply pw_below_drewN | apply below_drew1 | refine below_set ?_ GE534.out) | exact HB.out))) : w.heap.size ≤ gb535)); have n4_ := Aside0.mk ((by rw [hg]; exact (below_size (by repeat (first | (with_reducible first | exact HB.out | apply below_alloc | apply pw_below_drewN | apply below_drew1 | refine below_set ?_ GE534.out) | exact HB.out))) : w.heap.size ≤ gb535)); have n5_ := Aside0.mk ((by rw [hg]; exact Nat.ne_of_lt (blk_lt (g := gb534) (o := .cells #[.int .u8 a0_0, .int .u8 a0_1, .slice A0_2 l0_2.length c0_2] 24 (0, 0)) (bA BK534.out)) : gb534 ≠ gb535)); have n6_ := Aside0.mk ((by rw [hg]; exact Nat.ne_of_gt (blk_lt (g := gb534) (o := .cells #[.int .u8 a0_0, .int .u8 a0_1, .slice A0_2 l0_2.length c0_2] 24 (0, 0)) (bA BK534.out)) : gb535 ≠ gb534)); clear BK534; clear HB; have BK534 := n0_; have HB := n1_; have BK535 := n2_; have GW535 := n3_; have GE535 := n4_; have NB534_535 := n5_; have NB535_534 := n6_; clear n0_ n1_ n2_ n3_ n4_ n5_ n6_; clear hb hbox hg) | ((with_reducible refine gate_callee (f := 10) rfl ?_); refine goesL_ (some 18) rfl rfl Try.func10 (by kernel_rfl) rfl #[] rfl (by (try simp only [List.map_toArray, List.map_cons, List.map_nil]); first | done | rfl | (simp only [List.length_drop, List.length_take]; rfl)) ?_; (with_reducible refine (wireloomlaw05_examples.calls k  true _ A3.out).mono ?_); rintro e w9 ⟨rfl, hb⟩; refine ⟨_, rfl, ?_⟩; have n0_ := Aside0.mk (blk_below (g := gb534) (o := .cells #[.int .u8 a0_0, .int .u8 a0_1, .slice A0_2 l0_2.length c0_2] 24 (0, 0)) (bA BK534.out) hb); have n1_ := Aside0.mk (blk_below (g := gb535) (o := .cells #[.int .u8 a1_0, .int .u8 a1_1, .int .u8 a1_2] 52 (0, 0)) (bA BK535.out) hb); have n2_ := Aside0.mk (below_step (by repeat (first | (with_reducible first | exact HB.out | apply below_alloc | apply pw_below_drewN | apply below_drew1 | refine below_set ?_ GE534.out | refine below_set ?_ GE535.out) | exact HB.out)) hb); clear BK534; clear BK535; clear HB; have BK534 := n0_; have BK535 := n1_; have HB := n2_; clear n0_ n1_ n2_; (try clear hb); (try clear hb2); (try clear hk); (try clear hi); have hnb10 := NB534_535.out; have hnc10 := NB535_534.out; have hcz11_0 : w9.cell? ⟨gb534, 0, none⟩ = some (.int .u8 a0_0) := (blk_cell BK534.out 0).trans rfl; have hcz11_1 : w9.cell? ⟨gb534, 1, none⟩ = some (.int .u8 a0_1) := (blk_cell BK534.out 1).trans rfl; have hcz11_2 : w9.cell? ⟨gb534, 2, none⟩ = some (.slice A0_2 l0_2.length c0_2) := (blk_cell BK534.out 2).trans rfl; have hfz11_0 := blk_frozen BK534.out 0; have hfz11_1 := blk_frozen BK534.out 1; have hfz11_2 := blk_frozen BK534.out 2) | ((with_reducible refine gate_callee (f := 11) rfl ?_); refine goesL_ (some 22) rfl rfl Try.func11 (by kernel_rfl) rfl #[.agg #[.int .u8 a0_0, .int .u8 a0_1, .slice A0_2 l0_2.length c0_2]] rfl (by (try simp only [List.map_toArray, List.map_cons, List.map_nil]); first | done | rfl | (simp only [List.length_drop, List.length_take]; rfl)) ?_; (with_reducible refine (wireloomref05_Made.calls k a0_0 a0_1 _ _ l0_2 t537 t538 _ ?side1 ?side2 A5.out).mono ?_); (case side1 => repeat (first | exact (Kd.C_below HR0_2.out HB.out) | (with_reducible refine Kd.C_alloc ?_ _) | (with_reducible refine Kd.C_drewN ?_ _) | (with_reducible refine Kd.C_drew ?_))); (case side2 => exact HC0_2.out); rintro e w12 ⟨v539, rfl, ho0, hb⟩; refine ⟨_, rfl, ?_⟩; have n0_ := Aside0.mk (Kd.R_lower ho0 (below_size (by repeat (first | (with_reducible first | exact HB.out | apply below_alloc | apply pw_below_drewN | apply below_drew1 | refine below_set ?_ GE534.out | refine below_set ?_ GE535.out) | exact HB.out)))); have n1_ := Aside0.mk (blk_below (g := gb534) (o := .cells #[.int .u8 a0_0, .int .u8 a0_1, .slice A0_2 l0_2.length c0_2] 24 (0, 0)) (bA BK534.out) hb); have n2_ := Aside0.mk (blk_below (g := gb535) (o := .cells #[.int .u8 a1_0, .int .u8 a1_1, .int .u8 a1_2] 52 (0, 0)) (bA BK535.out) hb); have n3_ := Aside0.mk (below_step (by repeat (first | (with_reducible first | exact HB.out | apply below_alloc | apply pw_below_drewN | apply below_drew1 | refine below_set ?_ GE534.out | refine below_set ?_ GE535.out) | exact HB.out)) hb); clear BK534; clear BK535; clear HB; have HO540 := n0_; have BK534 := n1_; have BK535 := n2_; have HB := n3_; clear n0_ n1_ n2_ n3_; (try clear hb); (try clear hb2); (try clear hk); (try clear hi); (try clear ho0)) | ((with_reducible refine gate_dst (N := 6) rfl ?_); refine box_event ?hg (N := 6) ?hd (cs := #[.int .i64 0, .slice none 0 0]) (t := 31) ?hr ?_; (case hd => rfl); (case hg => rfl); (case hr => first | (go_simp; done) | (go_simp; rfl)); intro gb541 hg w13 hbox hb; have n0_ := Aside0.mk (Kd.R_below (rA HO540.out) hb); have n1_ := Aside0.mk (blk_below (g := gb534) (o := .cells #[.int .u8 a0_0, .int .u8 a0_1, .slice A0_2 l0_2.length c0_2] 24 (0, 0)) (bA BK534.out) hb); have n2_ := Aside0.mk (blk_below (g := gb535) (o := .cells #[.int .u8 a1_0, .int .u8 a1_1, .int .u8 a1_2] 52 (0, 0)) (bA BK535.out) hb); have n3_ := Aside0.mk (below_step (by repeat (first | (with_reducible first | exact HB.out | apply below_alloc | apply pw_below_drewN | apply below_drew1 | refine below_set ?_ GE534.out | refine below_set ?_ GE535.out) | exact HB.out)) hb); have n4_ := Aside0.mk (hbox); have n5_ := Aside0.mk ((by rw [hg]; exact (below_size (by repeat (first | (with_reducible first | exact HB.out | apply below_alloc | apply pw_below_drewN | apply below_drew1 | refine below_set ?_ GE534.out | refine below_set ?_ GE535.out) | exact HB.out))) : w.heap.size ≤ gb541)); have n6_ := Aside0.mk ((by rw [hg]; exact (below_size (by repeat (first | (with_reducible first | exact HB.out | apply below_alloc | apply pw_below_drewN | apply below_drew1 | refine below_set ?_ GE534.out | refine below_set ?_ GE535.out) | exact HB.out))) : w.heap.size ≤ gb541)); have n7_ := Aside0.mk ((by rw [hg]; exact Nat.ne_of_lt (blk_lt (g := gb534) (o := .cells #[.int .u8 a0_0, .int .u8 a0_1, .slice A0_2 l0_2.length c0_2] 24 (0, 0)) (bA BK534.out)) : gb534 ≠ gb541)); have n8_ := Aside0.mk ((by rw [hg]; exact Nat.ne_of_gt (blk_lt (g := gb534) (o := .cells #[.int .u8 a0_0, .int .u8 a0_1, .slice A0_2 l0_2.length c0_2] 24 (0, 0)) (bA BK534.out)) : gb541 ≠ gb534)); have n9_ := Aside0.mk ((by rw [hg]; exact Nat.ne_of_lt (blk_lt (g := gb535) (o := .cells #[.int .u8 a1_0, .int .u8 a1_1, .int .u8 a1_2] 52 (0, 0)) (bA BK535.out)) : gb535 ≠ gb541)); have n10_ := Aside0.mk ((by rw [hg]; exact Nat.ne_of_gt (blk_lt (g := gb535) (o := .cells #[.int .u8 a1_0, .int .u8 a1_1, .int .u8 a1_2] 52 (0, 0)) (bA BK535.out)) : gb541 ≠ gb535)); clear HO540; clear BK534; clear BK535; clear HB; have HO540 := n0_; have BK534 := n1_; have BK535 := n2_; have HB := n3_; have BK541 := n4_; have GW541 := n5_; have GE541 := n6_; have NB534_541 := n7_; have NB541_534 := n8_; have NB535_541 := n9_; have NB541_535 := n10_; clear n0_ n1_ n2_ n3_ n4_ n5_ n6_ n7_ n8_ n9_ n10_; clear hb hbox hg; have hnb14 := NB541_534.out; have hnc14 := NB534_541.out; have hnb15 := NB541_535.out; have hnc15 := NB535_541.out; have hcz16_0 : w13.cell? ⟨gb541, 0, none⟩ = some (.int .i64 0) := (blk_cell BK541.out 0).trans rfl; have hcz16_1 : w13.cell? ⟨gb541, 1, none⟩ = some (.slice none 0 0) := (blk_cell BK541.out 1).trans rfl; have hfz16_0 := blk_frozen BK541.out 0; have hfz16_1 := blk_frozen BK541.out 1; obtain ⟨Ao17, co17, eo17⟩ := Kd.R_slice HO540.out; subst eo17))
   go_ret
   exact ⟨by first | rfl | (simp [errW_none, errW_some] <;> rfl) | (simp [*, errW_none, errW_some] <;> rfl), by repeat (first | (with_reducible first | exact HB.out | apply below_alloc | apply pw_below_drewN | apply below_drew1 | refine below_set ?_ GE534.out | refine below_set ?_ GE535.out | refine below_set ?_ GE541.out) | exact HB.out)⟩
  ·rw [if_neg c6] at H
   have c6b0 : (t537 == 0) = false := beq_eq_false_iff_ne.mpr c6
   have c6b1 : (t537 != 0) = true := bne_iff_ne.mpr c6
   replace H := Option.bind_eq_some_iff.mp H
   obtain ⟨t542, A180, H⟩ := H
   replace H : ((wireloomref05_In.f k t542 (Int.tmod (wrap64 (a1_0)) t537)).bind fun t545 => (if t545 = true then (wireloomlaw05_DigraphReaches.l0 k true (Int.tmod (wrap64 (a1_0)) t537) t542 0 a1_0 a1_1 a1_2 t537 t538) else (none))) = some r := H
   have A18 := Aside0.mk A180
   clear A180
   replace H := Option.bind_eq_some_iff.mp H
   obtain ⟨t545, A190, H⟩ := H
   replace H : (if t545 = true then (wireloomlaw05_DigraphReaches.l0 k true (Int.tmod (wrap64 (a1_0)) t537) t542 0 a1_0 a1_1 a1_2 t537 t538) else (none)) = some r := H
   have A19 := Aside0.mk A190
   clear A190
   by_cases c20 : t545 = true
   ·subst c20
    have H1 : (wireloomlaw05_DigraphReaches.l0 k true (Int.tmod (wrap64 (a1_0)) t537) t542 0 a1_0 a1_1 a1_2 t537 t538) = some r := by rw [if_pos rfl] at H; exact H
    clear H
    have H := H1
    clear H1
    have H' := Aside0.mk H
    clear H
    go_enter Try.func6, Try.ntmps6
    go_wp2_with (first | ((with_reducible refine gate_dst (N := 2) rfl ?_); refine box_event ?hg (N := 2) ?hd (cs := #[.int .u8 a0_0, .int .u8 a0_1, .slice A0_2 l0_2.length c0_2]) (t := 24) ?hr ?_; (case hd => rfl); (case hg => rfl); (case hr => first | (go_simp; done) | (go_simp; rfl)); intro gb534 hg w21 hbox hb; have n0_ := Aside0.mk (below_step (by repeat (first | (with_reducible first | exact HB.out | apply below_alloc | apply pw_below_drewN | apply below_drew1) | exact HB.out)) hb); have n1_ := Aside0.mk (hbox); have n2_ := Aside0.mk ((by rw [hg]; exact (below_size (by repeat (first | (with_reducible first | exact HB.out | apply below_alloc | apply pw_below_drewN | apply below_drew1) | exact HB.out))) : w.heap.size ≤ gb534)); have n3_ := Aside0.mk ((by rw [hg]; exact (below_size (by repeat (first | (with_reducible first | exact HB.out | apply below_alloc | apply pw_below_drewN | apply below_drew1) | exact HB.out))) : w.heap.size ≤ gb534)); clear HB; have HB := n0_; have BK534 := n1_; have GW534 := n2_; have GE534 := n3_; clear n0_ n1_ n2_ n3_; clear hb hbox hg) | ((with_reducible refine gate_dst (N := 3) rfl ?_); refine box_event ?hg (N := 3) ?hd (cs := #[.int .u8 a1_0, .int .u8 a1_1, .int .u8 a1_2]) (t := 52) ?hr ?_; (case hd => rfl); (case hg => rfl); (case hr => first | (go_simp; done) | (go_simp; rfl)); intro gb535 hg w22 hbox hb; have n0_ := Aside0.mk (blk_below (g := gb534) (o := .cells #[.int .u8 a0_0, .int .u8 a0_1, .slice A0_2 l0_2.length c0_2] 24 (0, 0)) (bA BK534.out) hb); have n1_ := Aside0.mk (below_step (by repeat (first | (with_reducible first | exact HB.out | apply below_alloc | apply pw_below_drewN | apply below_drew1 | refine below_set ?_ GE534.out) | exact HB.out)) hb); have n2_ := Aside0.mk (hbox); have n3_ := Aside0.mk ((by rw [hg]; exact (below_size (by repeat (first | (with_reducible first | exact HB.out | apply below_alloc | apply pw_below_drewN | apply below_drew1 | refine below_set ?_ GE534.out) | exact HB.out))) : w.heap.size ≤ gb535)); have n4_ := Aside0.mk ((by rw [hg]; exact (below_size (by repeat (first | (with_reducible first | exact HB.out | apply below_alloc | apply pw_below_drewN | apply below_drew1 | refine below_set ?_ GE534.out) | exact HB.out))) : w.heap.size ≤ gb535)); have n5_ := Aside0.mk ((by rw [hg]; exact Nat.ne_of_lt (blk_lt (g := gb534) (o := .cells #[.int .u8 a0_0, .int .u8 a0_1, .slice A0_2 l0_2.length c0_2] 24 (0, 0)) (bA BK534.out)) : gb534 ≠ gb535)); have n6_ := Aside0.mk ((by rw [hg]; exact Nat.ne_of_gt (blk_lt (g := gb534) (o := .cells #[.int .u8 a0_0, .int .u8 a0_1, .slice A0_2 l0_2.length c0_2] 24 (0, 0)) (bA BK534.out)) : gb535 ≠ gb534)); clear BK534; clear HB; have BK534 := n0_; have HB := n1_; have BK535 := n2_; have GW535 := n3_; have GE535 := n4_; have NB534_535 := n5_; have NB535_534 := n6_; clear n0_ n1_ n2_ n3_ n4_ n5_ n6_; clear hb hbox hg) | ((with_reducible refine gate_callee (f := 10) rfl ?_); refine goesL_ (some 18) rfl rfl Try.func10 (by kernel_rfl) rfl #[] rfl (by (try simp only [List.map_toArray, List.map_cons, List.map_nil]); first | done | rfl | (simp only [List.length_drop, List.length_take]; rfl)) ?_; (with_reducible refine (wireloomlaw05_examples.calls k  true _ A3.out).mono ?_); rintro e w23 ⟨rfl, hb⟩; refine ⟨_, rfl, ?_⟩; have n0_ := Aside0.mk (blk_below (g := gb534) (o := .cells #[.int .u8 a0_0, .int .u8 a0_1, .slice A0_2 l0_2.length c0_2] 24 (0, 0)) (bA BK534.out) hb); have n1_ := Aside0.mk (blk_below (g := gb535) (o := .cells #[.int .u8 a1_0, .int .u8 a1_1, .int .u8 a1_2] 52 (0, 0)) (bA BK535.out) hb); have n2_ := Aside0.mk (below_step (by repeat (first | (with_reducible first | exact HB.out | apply below_alloc | apply pw_below_drewN | apply below_drew1 | refine below_set ?_ GE534.out | refine below_set ?_ GE535.out) | exact HB.out)) hb); clear BK534; clear BK535; clear HB; have BK534 := n0_; have BK535 := n1_; have HB := n2_; clear n0_ n1_ n2_; (try clear hb); (try clear hb2); (try clear hk); (try clear hi); have hnb24 := NB534_535.out; have hnc24 := NB535_534.out; have hcz25_0 : w23.cell? ⟨gb534, 0, none⟩ = some (.int .u8 a0_0) := (blk_cell BK534.out 0).trans rfl; have hcz25_1 : w23.cell? ⟨gb534, 1, none⟩ = some (.int .u8 a0_1) := (blk_cell BK534.out 1).trans rfl; have hcz25_2 : w23.cell? ⟨gb534, 2, none⟩ = some (.slice A0_2 l0_2.length c0_2) := (blk_cell BK534.out 2).trans rfl; have hfz25_0 := blk_frozen BK534.out 0; have hfz25_1 := blk_frozen BK534.out 1; have hfz25_2 := blk_frozen BK534.out 2) | ((with_reducible refine gate_callee (f := 11) rfl ?_); refine goesL_ (some 22) rfl rfl Try.func11 (by kernel_rfl) rfl #[.agg #[.int .u8 a0_0, .int .u8 a0_1, .slice A0_2 l0_2.length c0_2]] rfl (by (try simp only [List.map_toArray, List.map_cons, List.map_nil]); first | done | rfl | (simp only [List.length_drop, List.length_take]; rfl)) ?_; (with_reducible refine (wireloomref05_Made.calls k a0_0 a0_1 _ _ l0_2 t537 t538 _ ?side1 ?side2 A5.out).mono ?_); (case side1 => repeat (first | exact (Kd.C_below HR0_2.out HB.out) | (with_reducible refine Kd.C_alloc ?_ _) | (with_reducible refine Kd.C_drewN ?_ _) | (with_reducible refine Kd.C_drew ?_))); (case side2 => exact HC0_2.out); rintro e w26 ⟨v539, rfl, ho0, hb⟩; refine ⟨_, rfl, ?_⟩; have n0_ := Aside0.mk (Kd.R_lower ho0 (below_size (by repeat (first | (with_reducible first | exact HB.out | apply below_alloc | apply pw_below_drewN | apply below_drew1 | refine below_set ?_ GE534.out | refine below_set ?_ GE535.out) | exact HB.out)))); have n1_ := Aside0.mk (blk_below (g := gb534) (o := .cells #[.int .u8 a0_0, .int .u8 a0_1, .slice A0_2 l0_2.length c0_2] 24 (0, 0)) (bA BK534.out) hb); have n2_ := Aside0.mk (blk_below (g := gb535) (o := .cells #[.int .u8 a1_0, .int .u8 a1_1, .int .u8 a1_2] 52 (0, 0)) (bA BK535.out) hb); have n3_ := Aside0.mk (below_step (by repeat (first | (with_reducible first | exact HB.out | apply below_alloc | apply pw_below_drewN | apply below_drew1 | refine below_set ?_ GE534.out | refine below_set ?_ GE535.out) | exact HB.out)) hb); clear BK534; clear BK535; clear HB; have HO540 := n0_; have BK534 := n1_; have BK535 := n2_; have HB := n3_; clear n0_ n1_ n2_ n3_; (try clear hb); (try clear hb2); (try clear hk); (try clear hi); (try clear ho0)) | ((with_reducible refine gate_dst (N := 6) rfl ?_); refine box_event ?hg (N := 6) ?hd (cs := #[.int .i64 0, .slice none 0 0]) (t := 31) ?hr ?_; (case hd => rfl); (case hg => rfl); (case hr => first | (go_simp; done) | (go_simp; rfl)); intro gb541 hg w27 hbox hb; have n0_ := Aside0.mk (Kd.R_below (rA HO540.out) hb); have n1_ := Aside0.mk (blk_below (g := gb534) (o := .cells #[.int .u8 a0_0, .int .u8 a0_1, .slice A0_2 l0_2.length c0_2] 24 (0, 0)) (bA BK534.out) hb); have n2_ := Aside0.mk (blk_below (g := gb535) (o := .cells #[.int .u8 a1_0, .int .u8 a1_1, .int .u8 a1_2] 52 (0, 0)) (bA BK535.out) hb); have n3_ := Aside0.mk (below_step (by repeat (first | (with_reducible first | exact HB.out | apply below_alloc | apply pw_below_drewN | apply below_drew1 | refine below_set ?_ GE534.out | refine below_set ?_ GE535.out) | exact HB.out)) hb); have n4_ := Aside0.mk (hbox); have n5_ := Aside0.mk ((by rw [hg]; exact (below_size (by repeat (first | (with_reducible first | exact HB.out | apply below_alloc | apply pw_below_drewN | apply below_drew1 | refine below_set ?_ GE534.out | refine below_set ?_ GE535.out) | exact HB.out))) : w.heap.size ≤ gb541)); have n6_ := Aside0.mk ((by rw [hg]; exact (below_size (by repeat (first | (with_reducible first | exact HB.out | apply below_alloc | apply pw_below_drewN | apply below_drew1 | refine below_set ?_ GE534.out | refine below_set ?_ GE535.out) | exact HB.out))) : w.heap.size ≤ gb541)); have n7_ := Aside0.mk ((by rw [hg]; exact Nat.ne_of_lt (blk_lt (g := gb534) (o := .cells #[.int .u8 a0_0, .int .u8 a0_1, .slice A0_2 l0_2.length c0_2] 24 (0, 0)) (bA BK534.out)) : gb534 ≠ gb541)); have n8_ := Aside0.mk ((by rw [hg]; exact Nat.ne_of_gt (blk_lt (g := gb534) (o := .cells #[.int .u8 a0_0, .int .u8 a0_1, .slice A0_2 l0_2.length c0_2] 24 (0, 0)) (bA BK534.out)) : gb541 ≠ gb534)); have n9_ := Aside0.mk ((by rw [hg]; exact Nat.ne_of_lt (blk_lt (g := gb535) (o := .cells #[.int .u8 a1_0, .int .u8 a1_1, .int .u8 a1_2] 52 (0, 0)) (bA BK535.out)) : gb535 ≠ gb541)); have n10_ := Aside0.mk ((by rw [hg]; exact Nat.ne_of_gt (blk_lt (g := gb535) (o := .cells #[.int .u8 a1_0, .int .u8 a1_1, .int .u8 a1_2] 52 (0, 0)) (bA BK535.out)) : gb541 ≠ gb535)); clear HO540; clear BK534; clear BK535; clear HB; have HO540 := n0_; have BK534 := n1_; have BK535 := n2_; have HB := n3_; have BK541 := n4_; have GW541 := n5_; have GE541 := n6_; have NB534_541 := n7_; have NB541_534 := n8_; have NB535_541 := n9_; have NB541_535 := n10_; clear n0_ n1_ n2_ n3_ n4_ n5_ n6_ n7_ n8_ n9_ n10_; clear hb hbox hg; have hnb28 := NB541_534.out; have hnc28 := NB534_541.out; have hnb29 := NB541_535.out; have hnc29 := NB535_541.out; have hcz30_0 : w27.cell? ⟨gb541, 0, none⟩ = some (.int .i64 0) := (blk_cell BK541.out 0).trans rfl; have hcz30_1 : w27.cell? ⟨gb541, 1, none⟩ = some (.slice none 0 0) := (blk_cell BK541.out 1).trans rfl; have hfz30_0 := blk_frozen BK541.out 0; have hfz30_1 := blk_frozen BK541.out 1; obtain ⟨Ao31, co31, eo31⟩ := Kd.R_slice HO540.out; subst eo31; have hcz32_0 : w27.cell? ⟨gb535, 0, none⟩ = some (.int .u8 a1_0) := (blk_cell BK535.out 0).trans rfl; have hcz32_1 : w27.cell? ⟨gb535, 1, none⟩ = some (.int .u8 a1_1) := (blk_cell BK535.out 1).trans rfl; have hcz32_2 : w27.cell? ⟨gb535, 2, none⟩ = some (.int .u8 a1_2) := (blk_cell BK535.out 2).trans rfl; have hfz32_0 := blk_frozen BK535.out 0; have hfz32_1 := blk_frozen BK535.out 1; have hfz32_2 := blk_frozen BK535.out 2) | ((with_reducible refine gate_callee (f := 24) rfl ?_); refine goesL_ (some 38) rfl rfl Try.func24 (by kernel_rfl) rfl #[.int .i64 t537, .slice Ao31 t538.length co31, .int .i64 (Int.tmod (wrap64 (a1_0)) t537)] rfl (by (try simp only [List.map_toArray, List.map_cons, List.map_nil]); first | done | rfl | (simp only [List.length_drop, List.length_take]; rfl)) ?_; (with_reducible refine (digraph_Reach.calls t537 _ _ t538 (Int.tmod (wrap64 (a1_0)) t537) t542 _ ?side1 ?side2 A18.out).mono ?_); (case side1 => refine (Kd.R_reads' (e := 55) (base := w.heap.size) (ok := fun k_ => True) (n := t538.length) (c := co31) ?_).2.2; exact (by (with_reducible repeat (first | apply Kd.R_alloc | apply Kd.R_drewN | apply Kd.R_drew)); exact (Kd.R_mono (Kd.R_far (p := ⟨gb541, 1, none⟩) (Kd.R_far (p := ⟨gb541, 0, none⟩) (Kd.R_types HO540.out BK541.out (by decide)) (fun _ hk => hk.2) (.int .i64 t537)) (fun _ hk => hk.2) (.slice Ao31 t538.length co31)) (fun _ h_ => h_.1)))); (case side2 => exact (Kd.R_reads' HO540.out).2.1); rintro e w33 ⟨v543, rfl, ho0, hb⟩; refine ⟨_, rfl, ?_⟩; have n0_ := Aside0.mk (Kd.R_below (by (with_reducible repeat (first | apply Kd.R_alloc | apply Kd.R_drewN | apply Kd.R_drew)); exact (Kd.R_mono (Kd.R_far (p := ⟨gb541, 1, none⟩) (Kd.R_far (p := ⟨gb541, 0, none⟩) (Kd.R_types HO540.out BK541.out (by decide)) (fun _ hk => hk.2) (.int .i64 t537)) (fun _ hk => hk.2) (.slice Ao31 t538.length co31)) (fun _ h_ => h_.1))) hb); have n1_ := Aside0.mk (Kd.R_lower ho0 (below_size (by repeat (first | (with_reducible first | exact HB.out | apply below_alloc | apply pw_below_drewN | apply below_drew1 | refine below_set ?_ GE534.out | refine below_set ?_ GE535.out | refine below_set ?_ GE541.out) | exact HB.out)))); have n2_ := Aside0.mk (blk_below (g := gb534) (o := .cells #[.int .u8 a0_0, .int .u8 a0_1, .slice A0_2 l0_2.length c0_2] 24 (0, 0)) (by (with_reducible repeat (first | refine blk_drewN ?_ _ | refine blk_drew ?_ | refine blk_alloc ?_ _)); refine blk_far ?_ NB534_541.out _; (with_reducible repeat (first | refine blk_drewN ?_ _ | refine blk_drew ?_ | refine blk_alloc ?_ _)); refine blk_far ?_ NB534_541.out _; (with_reducible repeat (first | refine blk_drewN ?_ _ | refine blk_drew ?_ | refine blk_alloc ?_ _)); exact BK534.out) hb); have n3_ := Aside0.mk (blk_below (g := gb535) (o := .cells #[.int .u8 a1_0, .int .u8 a1_1, .int .u8 a1_2] 52 (0, 0)) (by (with_reducible repeat (first | refine blk_drewN ?_ _ | refine blk_drew ?_ | refine blk_alloc ?_ _)); refine blk_far ?_ NB535_541.out _; (with_reducible repeat (first | refine blk_drewN ?_ _ | refine blk_drew ?_ | refine blk_alloc ?_ _)); refine blk_far ?_ NB535_541.out _; (with_reducible repeat (first | refine blk_drewN ?_ _ | refine blk_drew ?_ | refine blk_alloc ?_ _)); exact BK535.out) hb); have n4_ := Aside0.mk (blk_below (g := gb541) (o := .cells #[.int .i64 t537, .slice Ao31 t538.length co31] 31 (0, 0)) (by (with_reducible repeat (first | refine blk_drewN ?_ _ | refine blk_drew ?_ | refine blk_alloc ?_ _)); refine blk_put (cs := #[.int .i64 t537, .slice none 0 0]) ?_ 1 _ rfl; (with_reducible repeat (first | refine blk_drewN ?_ _ | refine blk_drew ?_ | refine blk_alloc ?_ _)); refine blk_put (cs := #[.int .i64 0, .slice none 0 0]) ?_ 0 _ rfl; (with_reducible repeat (first | refine blk_drewN ?_ _ | refine blk_drew ?_ | refine blk_alloc ?_ _)); exact BK541.out) hb); have n5_ := Aside0.mk (below_step (by repeat (first | (with_reducible first | exact HB.out | apply below_alloc | apply pw_below_drewN | apply below_drew1 | refine below_set ?_ GE534.out | refine below_set ?_ GE535.out | refine below_set ?_ GE541.out) | exact HB.out)) hb); clear HO540; clear BK534; clear BK535; clear BK541; clear HB; have HO540 := n0_; have HO544 := n1_; have BK534 := n2_; have BK535 := n3_; have BK541 := n4_; have HB := n5_; clear n0_ n1_ n2_ n3_ n4_ n5_; (try clear hb); (try clear hb2); (try clear hk); (try clear hi); (try clear ho0); obtain ⟨Ao34, co34, eo34⟩ := Kd.R_slice HO544.out; subst eo34) | ((with_reducible refine gate_callee (f := 31) rfl ?_); refine goesL_ (some 41) rfl rfl Try.func31 (by kernel_rfl) rfl #[.slice Ao34 t542.length co34, .int .i64 (Int.tmod (wrap64 (a1_0)) t537)] rfl (by (try simp only [List.map_toArray, List.map_cons, List.map_nil]); first | done | rfl | (simp only [List.length_drop, List.length_take]; rfl)) ?_; (with_reducible refine (wireloomref05_In.calls k _ _ t542 (Int.tmod (wrap64 (a1_0)) t537) true _ ?side1 ?side2 A19.out).mono ?_); (case side1 => repeat (first | exact (Kd.R_reads' HO544.out).2.2 | (with_reducible refine Kd.C_alloc ?_ _) | (with_reducible refine Kd.C_drewN ?_ _) | (with_reducible refine Kd.C_drew ?_))); (case side2 => exact (Kd.R_reads' HO544.out).2.1); rintro e w' ⟨rfl, ⟨nd, rfl⟩⟩; refine ⟨_, rfl, ?_⟩))
    go_loopg [9] k (fun kq v9 w' => ∃ (x9_1 : Int), v9 = .int .i64 x9_1 ∧ Aside0 (wireloomlaw05_DigraphReaches.l0 kq true (Int.tmod (wrap64 (a1_0)) t537) t542 x9_1 a1_0 a1_1 a1_2 t537 t538 = some r) ∧ Aside0 (kq ≤ k) ∧ Aside0 (Kd.R (Kd.int .i64) 3 w' w.heap.size (fun _ => True) (.slice Ao34 t542.length co34) t542) ∧ Aside0 (Kd.R k55 55 w' w.heap.size (fun _ => True) (.slice Ao31 t538.length co31) t538) ∧ Aside0 (w'.heap[gb534]? = some (.cells #[.int .u8 a0_0, .int .u8 a0_1, (.slice A0_2 l0_2.length c0_2)] 24 (0, 0))) ∧ Aside0 (w'.heap[gb535]? = some (.cells #[.int .u8 a1_0, .int .u8 a1_1, .int .u8 a1_2] 52 (0, 0))) ∧ Aside0 (w'.heap[gb541]? = some (.cells #[.int .i64 t537, (.slice Ao31 t538.length co31)] 31 (0, 0))) ∧ Aside0 (Below w.heap.size w w'))
    case atStart => exact ⟨(0), (by first | rfl | (simp; done) | (simp [*]; done)), H', ⟨Nat.le_refl _⟩, ⟨rA HO544.out⟩, ⟨rA HO540.out⟩, ⟨bA BK534.out⟩, ⟨bA BK535.out⟩, ⟨bA BK541.out⟩, ⟨by repeat (first | (with_reducible first | exact HB.out | apply below_alloc | apply pw_below_drewN | apply below_drew1 | refine below_set ?_ GE534.out | refine below_set ?_ GE535.out | refine below_set ?_ GE541.out) | exact HB.out)⟩⟩
    case round =>
     clear H'
     try clear c1
     try clear c2
     try clear p2
     try clear c3
     try clear c4
     try clear c6
     try clear c6b0
     try clear c6b1
     try clear p6
     try clear c10
     try clear c11
     try clear c14
     try clear c15
     try clear c20
     try clear c24
     try clear c28
     try clear c29
     try clear c31
     try clear hcz11_0
     try clear hcz11_1
     try clear hcz11_2
     try clear hcz16_0
     try clear hcz16_1
     try clear hcz25_0
     try clear hcz25_1
     try clear hcz25_2
     try clear hcz30_0
     try clear hcz30_1
     try clear hcz32_0
     try clear hcz32_1
     try clear hcz32_2
     try clear hfz11_0
     try clear hfz11_1
     try clear hfz11_2
     try clear hfz16_0
     try clear hfz16_1
     try clear hfz25_0
     try clear hfz25_1
     try clear hfz25_2
     try clear hfz30_0
     try clear hfz30_1
     try clear hfz32_0
     try clear hfz32_1
     try clear hfz32_2
     obtain ⟨x9_1, rfl, HA, HK1, HO_8, HO_542001, BK534, BK535, BK541, HB⟩ := hrel
     cases gk with
     | zero => exact absurd HA.out (by simp [wireloomlaw05_DigraphReaches.l0])
     | succ k1 =>
      have H := HA.out
      clear HA
      simp only [wireloomlaw05_DigraphReaches.l0] at H
      by_cases c35 : x9_1 < (t542.length : Int)
      ·rw [if_pos c35] at H
       have c35b0 : decide (x9_1 < (t542.length : Int)) = true := decide_eq_true c35
       clear c35
       by_cases c36 : 0 ≤ x9_1
       ·rw [if_pos c36] at H
        have c36b0 : decide (0 ≤ x9_1) = true := decide_eq_true c36
        clear c36
        have H' := Aside0.mk H
        clear H
        have p546 : 0 ≤ (x9_1 : Int) := of_decide_eq_true (by first | (with_reducible assumption) | assumption)
        have q546 : x9_1 < (t542.length : Int) := of_decide_eq_true (by first | (with_reducible assumption) | assumption)
        obtain ⟨ad546, e546, hx546_0⟩ := Kd.at_int (Kd.R_reads' HO_8.out).2.2 x9_1 p546 q546
        cases e546
        replace p546 := eq_true p546
        replace q546 := eq_true q546
        go_wp2
        go_loopg [10, 11] k1 (fun kq v10 v11 w' => ∃ (x10_2 : Bool) (x11_2 : Int), v10 = .bool x10_2 ∧ v11 = .int .i64 x11_2 ∧ Aside0 (wireloomlaw05_DigraphReaches.l1 kq true (Int.tmod (wrap64 (a1_0)) t537) t542 x9_1 x10_2 x11_2 a1_0 a1_1 a1_2 t537 t538 = some r) ∧ Aside0 (kq ≤ k1) ∧ Aside0 (Kd.R (Kd.int .i64) 3 w' w.heap.size (fun _ => True) (.slice (some ad546) t542.length co34) t542) ∧ Aside0 (Kd.R k55 55 w' w.heap.size (fun _ => True) (.slice Ao31 t538.length co31) t538) ∧ Aside0 (w'.heap[gb534]? = some (.cells #[.int .u8 a0_0, .int .u8 a0_1, (.slice A0_2 l0_2.length c0_2)] 24 (0, 0))) ∧ Aside0 (w'.heap[gb535]? = some (.cells #[.int .u8 a1_0, .int .u8 a1_1, .int .u8 a1_2] 52 (0, 0))) ∧ Aside0 (w'.heap[gb541]? = some (.cells #[.int .i64 t537, (.slice Ao31 t538.length co31)] 31 (0, 0))) ∧ Aside0 (Below w.heap.size w w'))
        case atStart => exact ⟨(((rd t542 x9_1) == (Int.tmod (wrap64 (a1_0)) t537))), (0), (by first | rfl | (simp; done) | (simp [*]; done)), (by first | rfl | (simp; done) | (simp [*]; done)), H', ⟨Nat.le_refl _⟩, ⟨rA HO_8.out⟩, ⟨rA HO_542001.out⟩, ⟨bA BK534.out⟩, ⟨bA BK535.out⟩, ⟨bA BK541.out⟩, ⟨by repeat (first | (with_reducible first | exact HB.out | apply below_alloc | apply pw_below_drewN | apply below_drew1 | refine below_set ?_ GE534.out | refine below_set ?_ GE535.out | refine below_set ?_ GE541.out) | exact HB.out)⟩⟩
        case round =>
         clear H'
         try clear c1
         try clear c2
         try clear p2
         try clear c3
         try clear c4
         try clear p5
         try clear q5
         try clear hx5
         try clear c6
         try clear c6b0
         try clear c6b1
         try clear p6
         try clear c10
         try clear c11
         try clear c14
         try clear c15
         try clear c20
         try clear c24
         try clear c28
         try clear c29
         try clear c31
         try clear c35
         try clear c35b0
         try clear c36
         try clear c36b0
         try clear hcz11_0
         try clear hcz11_1
         try clear hcz11_2
         try clear hcz16_0
         try clear hcz16_1
         try clear hcz25_0
         try clear hcz25_1
         try clear hcz25_2
         try clear hcz30_0
         try clear hcz30_1
         try clear hcz32_0
         try clear hcz32_1
         try clear hcz32_2
         try clear hfz11_0
         try clear hfz11_1
         try clear hfz11_2
         try clear hfz16_0
         try clear hfz16_1
         try clear hfz25_0
         try clear hfz25_1
         try clear hfz25_2
         try clear hfz30_0
         try clear hfz30_1
         try clear hfz32_0
         try clear hfz32_1
         try clear hfz32_2
         try clear hx546_0
         try clear p2
         try clear p546
         try clear p6
         try clear q546
         obtain ⟨x10_2, x11_2, rfl, rfl, HA, HK2, HO_8, HO_542001, BK534, BK535, BK541, HB⟩ := hrel
         cases gk with
         | zero => exact absurd HA.out (by simp [wireloomlaw05_DigraphReaches.l1])
         | succ k2 =>
          have H := HA.out
          clear HA
          simp only [wireloomlaw05_DigraphReaches.l1] at H
          by_cases c37 : x11_2 < (t538.length : Int)
          ·rw [if_pos c37] at H
           have c37b0 : decide (x11_2 < (t538.length : Int)) = true := decide_eq_true c37
           clear c37
           by_cases c38 : 0 ≤ x11_2
           ·rw [if_pos c38] at H
            have c38b0 : decide (0 ≤ x11_2) = true := decide_eq_true c38
            clear c38
            by_cases c39 : 0 ≤ x9_1
            ·rw [if_pos c39] at H
             have c39b0 : decide (0 ≤ x9_1) = true := decide_eq_true c39
             clear c39
             by_cases c40 : x9_1 < (t542.length : Int)
             ·rw [if_pos c40] at H
              have c40b0 : decide (x9_1 < (t542.length : Int)) = true := decide_eq_true c40
              clear c40
              by_cases c41 : ((rd_T55 t538 x11_2).f0) = (rd t542 x9_1)
              ·rw [if_pos c41] at H
               have c41b0 : (((rd_T55 t538 x11_2).f0) == (rd t542 x9_1)) = true := beq_iff_eq.mpr c41
               have c41b1 : (((rd_T55 t538 x11_2).f0) != (rd t542 x9_1)) = false := bne_eq_false_iff_eq.mpr c41
               clear c41
               replace H := Option.bind_eq_some_iff.mp H
               obtain ⟨t556, A420, H⟩ := H
               replace H : (if t556 = true then (if x10_2 = true then (wireloomlaw05_DigraphReaches.l1 k2 true (Int.tmod (wrap64 (a1_0)) t537) t542 x9_1 true (wrap64 (x11_2 + 1)) a1_0 a1_1 a1_2 t537 t538) else (if ((rd_T55 t538 x11_2).f1) = (rd t542 x9_1) then (wireloomlaw05_DigraphReaches.l1 k2 true (Int.tmod (wrap64 (a1_0)) t537) t542 x9_1 false (wrap64 (x11_2 + 1)) a1_0 a1_1 a1_2 t537 t538) else (wireloomlaw05_DigraphReaches.l1 k2 true (Int.tmod (wrap64 (a1_0)) t537) t542 x9_1 false (wrap64 (x11_2 + 1)) a1_0 a1_1 a1_2 t537 t538))) else (none)) = some r := H
               have A42 := Aside0.mk A420
               clear A420
               by_cases c43 : t556 = true
               ·subst c43
                have H1 : (if x10_2 = true then (wireloomlaw05_DigraphReaches.l1 k2 true (Int.tmod (wrap64 (a1_0)) t537) t542 x9_1 true (wrap64 (x11_2 + 1)) a1_0 a1_1 a1_2 t537 t538) else (if ((rd_T55 t538 x11_2).f1) = (rd t542 x9_1) then (wireloomlaw05_DigraphReaches.l1 k2 true (Int.tmod (wrap64 (a1_0)) t537) t542 x9_1 false (wrap64 (x11_2 + 1)) a1_0 a1_1 a1_2 t537 t538) else (wireloomlaw05_DigraphReaches.l1 k2 true (Int.tmod (wrap64 (a1_0)) t537) t542 x9_1 false (wrap64 (x11_2 + 1)) a1_0 a1_1 a1_2 t537 t538))) = some r := by rw [if_pos rfl] at H; exact H
                clear H
                have H := H1
                clear H1
                by_cases c44 : x10_2 = true
                ·subst c44
                 have H1 : (wireloomlaw05_DigraphReaches.l1 k2 true (Int.tmod (wrap64 (a1_0)) t537) t542 x9_1 true (wrap64 (x11_2 + 1)) a1_0 a1_1 a1_2 t537 t538) = some r := by rw [if_pos rfl] at H; exact H
                 clear H
                 have H := H1
                 clear H1
                 have H' := Aside0.mk H
                 clear H
                 have hnb45 := NB541_534.out
                 have hnc45 := NB534_541.out
                 have hnb46 := NB541_535.out
                 have hnc46 := NB535_541.out
                 have hcz47_0 : wr.cell? ⟨gb541, 0, none⟩ = some (.int .i64 t537) := (blk_cell BK541.out 0).trans rfl
                 have hcz47_1 : wr.cell? ⟨gb541, 1, none⟩ = some (.slice Ao31 t538.length co31) := (blk_cell BK541.out 1).trans rfl
                 have hfz47_0 := blk_frozen BK541.out 0
                 have hfz47_1 := blk_frozen BK541.out 1
                 try go_wp2
                 have n0_ := Aside0.mk (Kd.R_drew HO_8.out)
                 have n1_ := Aside0.mk (Kd.R_drew HO_542001.out)
                 have n2_ := Aside0.mk (blk_drew BK534.out)
                 have n3_ := Aside0.mk (blk_drew BK535.out)
                 have n4_ := Aside0.mk (blk_drew BK541.out)
                 have n5_ := Aside0.mk (below_drew1 HB.out)
                 clear HO_8
                 clear HO_542001
                 clear BK534
                 clear BK535
                 clear BK541
                 clear HB
                 have HO_8 := n0_
                 have HO_542001 := n1_
                 have BK534 := n2_
                 have BK535 := n3_
                 have BK541 := n4_
                 have HB := n5_
                 clear n0_ n1_ n2_ n3_ n4_ n5_
                 have p553 : 0 ≤ (x11_2 : Int) := of_decide_eq_true (by first | (with_reducible assumption) | assumption)
                 have q553 : x11_2 < (t538.length : Int) := of_decide_eq_true (by first | (with_reducible assumption) | assumption)
                 obtain ⟨ad553, e553, hx553_0, hx553_1⟩ := at_T55 (Kd.R_reads' HO_542001.out).2.2 x11_2 p553 q553
                 cases e553
                 replace p553 := eq_true p553
                 replace q553 := eq_true q553
                 have p554 : 0 ≤ (x9_1 : Int) := of_decide_eq_true (by first | (with_reducible assumption) | assumption)
                 have q554 : x9_1 < (t542.length : Int) := of_decide_eq_true (by first | (with_reducible assumption) | assumption)
                 obtain ⟨ad554, e554, hx554_0⟩ := Kd.at_int (Kd.R_reads' HO_8.out).2.2 x9_1 p554 q554
                 obtain rfl : ad546 = ad554 := (by injection e554)
                 replace p554 := eq_true p554
                 replace q554 := eq_true q554
                 have p555 : 0 ≤ (x11_2 : Int) := of_decide_eq_true (by first | (with_reducible assumption) | assumption)
                 have q555 : x11_2 < (t538.length : Int) := of_decide_eq_true (by first | (with_reducible assumption) | assumption)
                 obtain ⟨ad555, e555, hx555_0, hx555_1⟩ := at_T55 (Kd.R_reads' HO_542001.out).2.2 x11_2 p555 q555
                 obtain rfl : ad553 = ad555 := (by injection e555)
                 replace p555 := eq_true p555
                 replace q555 := eq_true q555
                 refine start_ (n := 22) (S := fun w' => w'.cell? ⟨gb541, 0, none⟩ = some (.int .i64 t537) ∧ w'.cell? ⟨gb541, 1, none⟩ = some (.slice (some ad553) t538.length co31) ∧ w'.cell? (ad553.add ((x11_2).toNat * 2)) = some (.int .i64 ((rd_T55 t538 x11_2).f0)) ∧ w'.cell? ⟨(ad553.add ((x11_2).toNat * 2)).block, (ad553.add ((x11_2).toNat * 2)).off + 1, none⟩ = some (.int .i64 ((rd_T55 t538 x11_2).f1)) ∧ w'.cell? (ad546.add (x9_1).toNat) = some (.int .i64 (rd t542 x9_1)) ∧ w'.cell? (ad553.add ((x11_2).toNat * 2)) = some (.int .i64 ((rd_T55 t538 x11_2).f0)) ∧ w'.cell? ⟨(ad553.add ((x11_2).toNat * 2)).block, (ad553.add ((x11_2).toNat * 2)).off + 1, none⟩ = some (.int .i64 ((rd_T55 t538 x11_2).f1))) (ds := []) #[false, false, false, false, false, false, false, false, false, false, false, false, false, false, false, false, false, false, false, false, false, false] (by kernel_rfl) rfl rfl ⟨(blk_cell BK541.out 0).trans rfl, (blk_cell BK541.out 1).trans rfl, hx553_0, hx553_1, hx554_0, hx555_0, hx555_1⟩ (fun hHeld => ?_); refine with_tabW wireloomlaw05_DigraphReaches.tab18 wireloomlaw05_DigraphReaches.bits18 (fun HT_ HW_ => ?_)
                 generalize wr.drew = w48 at HO_8 HO_542001 BK534 BK535 BK541 HB hx553_0 hx553_1 hx554_0 hx555_0 hx555_1 hHeld ⊢
                 refine pV 0 62 (bz 22 0x1) HT_.out ?_
                 refine pV 2 64 (bz 22 0x5) HT_.out ?_
                 refine pV 6 68 (bz 22 0x45) HT_.out ?_
                 refine pV 7 69 (bz 22 0xc5) HT_.out ?_
                 refine pV 8 70 (bz 22 0x1c5) HT_.out ?_
                 refine tV 1 63 (bz 22 0x1c7) HT_.out HW_.out hHeld rfl rfl (by rintro w' ⟨s0, s1, s2, s3, s4, s5, s6⟩; go_simp; with_reducible rfl) ?_
                 refine pV 3 65 (bz 22 0x1cf) HT_.out ?_
                 refine pV 4 66 (bz 22 0x1df) HT_.out ?_
                 refine tV 5 67 (bz 22 0x1ff) HT_.out HW_.out hHeld rfl rfl (by rintro w' ⟨s0, s1, s2, s3, s4, s5, s6⟩; go_simp; with_reducible rfl) ?_
                 refine tV 9 71 (bz 22 0x3ff) HT_.out HW_.out hHeld rfl rfl (by rintro w' ⟨s0, s1, s2, s3, s4, s5, s6⟩; go_simp; with_reducible rfl) ?_
                 refine pV 10 72 (bz 22 0x7ff) HT_.out ?_
                 refine pV 11 73 (bz 22 0xfff) HT_.out ?_
                 refine pV 12 74 (bz 22 0x1fff) HT_.out ?_
                 refine pV 13 75 (bz 22 0x3fff) HT_.out ?_
                 refine pV 15 77 (bz 22 0xbfff) HT_.out ?_
                 refine tV 14 76 (bz 22 0xffff) HT_.out HW_.out hHeld rfl rfl (by rintro w' ⟨s0, s1, s2, s3, s4, s5, s6⟩; go_simp; with_reducible rfl) ?_
                 refine pV 16 78 (bz 22 0x1ffff) HT_.out ?_
                 refine pV 17 79 (bz 22 0x3ffff) HT_.out ?_
                 refine tV 18 80 (bz 22 0x7ffff) HT_.out HW_.out hHeld rfl rfl (by rintro w' ⟨s0, s1, s2, s3, s4, s5, s6⟩; go_simp; with_reducible rfl) ?_
                 refine one_ (i := 19) (N := some 81) (bz 22 0xfffff) rfl rfl (one_of HT_.out (by kernel_rfl)) (by decide) (fun K hK => ?_)
                 refine goes_ Try.func31 (by kernel_rfl) rfl #[.slice (some ad546) t542.length co34, .int .i64 ((rd_T55 t538 x11_2).f1)] (by rfl) rfl rfl (by (try simp only [List.map_toArray, List.map_cons, List.map_nil]); first | done | rfl | (simp only [List.length_drop, List.length_take]; rfl)) ?_
                 with_reducible refine (wireloomref05_In.calls k2 _ _ t542 ((rd_T55 t538 x11_2).f1) true _ ?side1 ?side2 A42.out).mono ?_
                 (case side1 => repeat (first | exact (Kd.R_reads' HO_8.out).2.2 | (with_reducible refine Kd.C_alloc ?_ _) | (with_reducible refine Kd.C_drewN ?_ _) | (with_reducible refine Kd.C_drew ?_)))
                 (case side2 => exact (Kd.R_reads' HO_8.out).2.1)
                 rintro e w' ⟨rfl, ⟨nd, rfl⟩⟩
                 refine ⟨_, rfl, ?_⟩
                 refine hK.out _ _ ⟨(blk_cell BK541.out 0).trans rfl, (blk_cell BK541.out 1).trans rfl, hHeld.2.2.1, hHeld.2.2.2.1, hHeld.2.2.2.2.1, hHeld.2.2.2.2.2.1, hHeld.2.2.2.2.2.2⟩ (fun hHeld => ?_)
                 clear hK K
                 refine norm_ (a' := ?_) ?_ ?_
                 rotate_left
                 ·show Act.put _ (some 81) _ = _
                  simp only [Act.put, List.setIfInBounds_toArray, List.set_cons_zero, List.set_cons_succ, i64_w, i32_w]
                  rfl
                 refine pV 20 82 (bz 22 0x1fffff) HT_.out ?_
                 refine pV 21 83 (bz 22 0x3fffff) HT_.out ?_
                 refine done_ (done_of HT_.out (by kernel_rfl)) ?_
                 try go_wp2
                 (try (rw [drewN_self w48]; generalize hq_ : World.drewN w48 _ = w48; have n0_ : Aside0 (Kd.R k55 55 w48 w.heap.size (fun _ => True) (.slice (some ad553) t538.length co31) t538) := ⟨by rw [← hq_]; exact (rA HO_542001.out)⟩; have n1_ : Aside0 (Kd.R (Kd.int .i64) 3 w48 w.heap.size (fun _ => True) (.slice (some ad546) t542.length co34) t542) := ⟨by rw [← hq_]; exact (rA HO_8.out)⟩; have n2_ : Aside0 (w48.heap[gb534]? = some (.cells #[.int .u8 a0_0, .int .u8 a0_1, .slice A0_2 l0_2.length c0_2] 24 (0, 0))) := ⟨by rw [← hq_]; exact (bA BK534.out)⟩; have n3_ : Aside0 (w48.heap[gb535]? = some (.cells #[.int .u8 a1_0, .int .u8 a1_1, .int .u8 a1_2] 52 (0, 0))) := ⟨by rw [← hq_]; exact (bA BK535.out)⟩; have n4_ : Aside0 (w48.heap[gb541]? = some (.cells #[.int .i64 t537, .slice (some ad553) t538.length co31] 31 (0, 0))) := ⟨by rw [← hq_]; exact (bA BK541.out)⟩; have n5_ : Aside0 (Below w.heap.size w w48) := ⟨by rw [← hq_]; exact (by repeat (first | (with_reducible first | exact HB.out | apply below_alloc | apply pw_below_drewN | apply below_drew1 | refine below_set ?_ GE534.out | refine below_set ?_ GE535.out | refine below_set ?_ GE541.out) | exact HB.out))⟩; clear HO_542001 HO_8 BK534 BK535 BK541 HB hq_; have HO_542001 := n0_; have HO_8 := n1_; have BK534 := n2_; have BK535 := n3_; have BK541 := n4_; have HB := n5_; clear n0_ n1_ n2_ n3_ n4_ n5_))
                 have n0_ := Aside0.mk (Kd.R_drew HO_8.out)
                 have n1_ := Aside0.mk (Kd.R_drew HO_542001.out)
                 have n2_ := Aside0.mk (blk_drew BK534.out)
                 have n3_ := Aside0.mk (blk_drew BK535.out)
                 have n4_ := Aside0.mk (blk_drew BK541.out)
                 have n5_ := Aside0.mk (below_drew1 HB.out)
                 clear HO_8
                 clear HO_542001
                 clear BK534
                 clear BK535
                 clear BK541
                 clear HB
                 have HO_8 := n0_
                 have HO_542001 := n1_
                 have BK534 := n2_
                 have BK535 := n3_
                 have BK541 := n4_
                 have HB := n5_
                 clear n0_ n1_ n2_ n3_ n4_ n5_
                 refine start_ (n := 38) (S := fun w' => True) (ds := []) #[false, false, false, false, false, false, false, false, false, false, false, false, false, false, false, false, false, false, false, false, false, false, false, false, false, false, false, false, false, false, false, false, false, false, false, false, false, false] (by kernel_rfl) rfl rfl trivial (fun hHeld => ?_); refine with_tabW wireloomlaw05_DigraphReaches.tab20 wireloomlaw05_DigraphReaches.bits20 (fun HT_ HW_ => ?_)
                 generalize w48.drew = w49 at HO_8 HO_542001 BK534 BK535 BK541 HB hHeld ⊢
                 refine pV 0 84 (bz 38 0x1) HT_.out ?_
                 refine pV 1 85 (bz 38 0x3) HT_.out ?_
                 refine pU 2 86 (bz 38 0x7) HT_.out ?_
                 refine pU 3 87 (bz 38 0xf) HT_.out ?_
                 refine pU 4 88 (bz 38 0x1f) HT_.out ?_
                 refine pU 5 89 (bz 38 0x3f) HT_.out ?_
                 refine pU 6 90 (bz 38 0x7f) HT_.out ?_
                 refine pU 7 91 (bz 38 0xff) HT_.out ?_
                 refine pU 8 92 (bz 38 0x1ff) HT_.out ?_
                 refine pU 9 93 (bz 38 0x3ff) HT_.out ?_
                 refine pU 10 94 (bz 38 0x7ff) HT_.out ?_
                 refine pU 11 95 (bz 38 0xfff) HT_.out ?_
                 refine pU 12 96 (bz 38 0x1fff) HT_.out ?_
                 refine pU 13 97 (bz 38 0x3fff) HT_.out ?_
                 refine pU 14 98 (bz 38 0x7fff) HT_.out ?_
                 refine pU 15 99 (bz 38 0xffff) HT_.out ?_
                 refine pU 16 100 (bz 38 0x1ffff) HT_.out ?_
                 refine pU 17 101 (bz 38 0x3ffff) HT_.out ?_
                 refine pU 18 102 (bz 38 0x7ffff) HT_.out ?_
                 refine pU 19 103 (bz 38 0xfffff) HT_.out ?_
                 refine pU 20 104 (bz 38 0x1fffff) HT_.out ?_
                 refine pU 21 105 (bz 38 0x3fffff) HT_.out ?_
                 refine pU 22 106 (bz 38 0x7fffff) HT_.out ?_
                 refine pU 23 107 (bz 38 0xffffff) HT_.out ?_
                 refine pU 24 108 (bz 38 0x1ffffff) HT_.out ?_
                 refine pU 25 109 (bz 38 0x3ffffff) HT_.out ?_
                 refine pU 26 110 (bz 38 0x7ffffff) HT_.out ?_
                 refine pU 27 111 (bz 38 0xfffffff) HT_.out ?_
                 refine pU 28 112 (bz 38 0x1fffffff) HT_.out ?_
                 refine pU 29 113 (bz 38 0x3fffffff) HT_.out ?_
                 refine pU 30 114 (bz 38 0x7fffffff) HT_.out ?_
                 refine pU 31 115 (bz 38 0xffffffff) HT_.out ?_
                 refine pU 32 116 (bz 38 0x1ffffffff) HT_.out ?_
                 refine pU 33 117 (bz 38 0x3ffffffff) HT_.out ?_
                 refine pU 34 118 (bz 38 0x7ffffffff) HT_.out ?_
                 refine pU 35 119 (bz 38 0xfffffffff) HT_.out ?_
                 refine pV 36 120 (bz 38 0x1fffffffff) HT_.out ?_
                 refine pV 37 10 (bz 38 0x3fffffffff) HT_.out ?_
                 refine done_ (done_of HT_.out (by kernel_rfl)) ?_
                 try go_wp2
                 go_roundg k2
                 case measure => have := HK1.out; have := HK2.out; omega
                 case rel => exact ⟨(true), (wrap64 (x11_2 + 1)), (by first | rfl | (simp; done) | (simp [*]; done)), (by first | rfl | (simp; done) | (simp [*]; done)), H', ⟨by have := HK1.out; have := HK2.out; omega⟩, ⟨rA HO_8.out⟩, ⟨rA HO_542001.out⟩, ⟨bA BK534.out⟩, ⟨bA BK535.out⟩, ⟨bA BK541.out⟩, ⟨by repeat (first | (with_reducible first | exact HB.out | apply below_alloc | apply pw_below_drewN | apply below_drew1 | refine below_set ?_ GE534.out | refine below_set ?_ GE535.out | refine below_set ?_ GE541.out) | exact HB.out)⟩⟩
                ·replace c44 := Bool.eq_false_iff.mpr c44
                 subst c44
                 have H1 : (if ((rd_T55 t538 x11_2).f1) = (rd t542 x9_1) then (wireloomlaw05_DigraphReaches.l1 k2 true (Int.tmod (wrap64 (a1_0)) t537) t542 x9_1 false (wrap64 (x11_2 + 1)) a1_0 a1_1 a1_2 t537 t538) else (wireloomlaw05_DigraphReaches.l1 k2 true (Int.tmod (wrap64 (a1_0)) t537) t542 x9_1 false (wrap64 (x11_2 + 1)) a1_0 a1_1 a1_2 t537 t538)) = some r := by rw [if_neg (show ¬ (false = true) by decide)] at H; exact H
                 clear H
                 have H := H1
                 clear H1
                 by_cases c50 : ((rd_T55 t538 x11_2).f1) = (rd t542 x9_1)
                 ·rw [if_pos c50] at H
                  have c50b0 : (((rd_T55 t538 x11_2).f1) == (rd t542 x9_1)) = true := beq_iff_eq.mpr c50
                  have c50b1 : (((rd_T55 t538 x11_2).f1) != (rd t542 x9_1)) = false := bne_eq_false_iff_eq.mpr c50
                  clear c50
                  have H' := Aside0.mk H
                  clear H
                  have hnb51 := NB541_534.out
                  have hnc51 := NB534_541.out
                  have hnb52 := NB541_535.out
                  have hnc52 := NB535_541.out
                  have hcz53_0 : wr.cell? ⟨gb541, 0, none⟩ = some (.int .i64 t537) := (blk_cell BK541.out 0).trans rfl
                  have hcz53_1 : wr.cell? ⟨gb541, 1, none⟩ = some (.slice Ao31 t538.length co31) := (blk_cell BK541.out 1).trans rfl
                  have hfz53_0 := blk_frozen BK541.out 0
                  have hfz53_1 := blk_frozen BK541.out 1
                  try go_wp2
                  have n0_ := Aside0.mk (Kd.R_drew HO_8.out)
                  have n1_ := Aside0.mk (Kd.R_drew HO_542001.out)
                  have n2_ := Aside0.mk (blk_drew BK534.out)
                  have n3_ := Aside0.mk (blk_drew BK535.out)
                  have n4_ := Aside0.mk (blk_drew BK541.out)
                  have n5_ := Aside0.mk (below_drew1 HB.out)
                  clear HO_8
                  clear HO_542001
                  clear BK534
                  clear BK535
                  clear BK541
                  clear HB
                  have HO_8 := n0_
                  have HO_542001 := n1_
                  have BK534 := n2_
                  have BK535 := n3_
                  have BK541 := n4_
                  have HB := n5_
                  clear n0_ n1_ n2_ n3_ n4_ n5_
                  have p553 : 0 ≤ (x11_2 : Int) := of_decide_eq_true (by first | (with_reducible assumption) | assumption)
                  have q553 : x11_2 < (t538.length : Int) := of_decide_eq_true (by first | (with_reducible assumption) | assumption)
                  obtain ⟨ad553, e553, hx553_0, hx553_1⟩ := at_T55 (Kd.R_reads' HO_542001.out).2.2 x11_2 p553 q553
                  cases e553
                  replace p553 := eq_true p553
                  replace q553 := eq_true q553
                  have p554 : 0 ≤ (x9_1 : Int) := of_decide_eq_true (by first | (with_reducible assumption) | assumption)
                  have q554 : x9_1 < (t542.length : Int) := of_decide_eq_true (by first | (with_reducible assumption) | assumption)
                  obtain ⟨ad554, e554, hx554_0⟩ := Kd.at_int (Kd.R_reads' HO_8.out).2.2 x9_1 p554 q554
                  obtain rfl : ad546 = ad554 := (by injection e554)
                  replace p554 := eq_true p554
                  replace q554 := eq_true q554
                  have p555 : 0 ≤ (x11_2 : Int) := of_decide_eq_true (by first | (with_reducible assumption) | assumption)
                  have q555 : x11_2 < (t538.length : Int) := of_decide_eq_true (by first | (with_reducible assumption) | assumption)
                  obtain ⟨ad555, e555, hx555_0, hx555_1⟩ := at_T55 (Kd.R_reads' HO_542001.out).2.2 x11_2 p555 q555
                  obtain rfl : ad553 = ad555 := (by injection e555)
                  replace p555 := eq_true p555
                  replace q555 := eq_true q555
                  refine start_ (n := 22) (S := fun w' => w'.cell? ⟨gb541, 0, none⟩ = some (.int .i64 t537) ∧ w'.cell? ⟨gb541, 1, none⟩ = some (.slice (some ad553) t538.length co31) ∧ w'.cell? (ad553.add ((x11_2).toNat * 2)) = some (.int .i64 ((rd_T55 t538 x11_2).f0)) ∧ w'.cell? ⟨(ad553.add ((x11_2).toNat * 2)).block, (ad553.add ((x11_2).toNat * 2)).off + 1, none⟩ = some (.int .i64 ((rd_T55 t538 x11_2).f1)) ∧ w'.cell? (ad546.add (x9_1).toNat) = some (.int .i64 (rd t542 x9_1)) ∧ w'.cell? (ad553.add ((x11_2).toNat * 2)) = some (.int .i64 ((rd_T55 t538 x11_2).f0)) ∧ w'.cell? ⟨(ad553.add ((x11_2).toNat * 2)).block, (ad553.add ((x11_2).toNat * 2)).off + 1, none⟩ = some (.int .i64 ((rd_T55 t538 x11_2).f1))) (ds := []) #[false, false, false, false, false, false, false, false, false, false, false, false, false, false, false, false, false, false, false, false, false, false] (by kernel_rfl) rfl rfl ⟨(blk_cell BK541.out 0).trans rfl, (blk_cell BK541.out 1).trans rfl, hx553_0, hx553_1, hx554_0, hx555_0, hx555_1⟩ (fun hHeld => ?_); refine with_tabW wireloomlaw05_DigraphReaches.tab18 wireloomlaw05_DigraphReaches.bits18 (fun HT_ HW_ => ?_)
                  generalize wr.drew = w54 at HO_8 HO_542001 BK534 BK535 BK541 HB hx553_0 hx553_1 hx554_0 hx555_0 hx555_1 hHeld ⊢
                  refine pV 0 62 (bz 22 0x1) HT_.out ?_
                  refine pV 2 64 (bz 22 0x5) HT_.out ?_
                  refine pV 6 68 (bz 22 0x45) HT_.out ?_
                  refine pV 7 69 (bz 22 0xc5) HT_.out ?_
                  refine pV 8 70 (bz 22 0x1c5) HT_.out ?_
                  refine tV 1 63 (bz 22 0x1c7) HT_.out HW_.out hHeld rfl rfl (by rintro w' ⟨s0, s1, s2, s3, s4, s5, s6⟩; go_simp; with_reducible rfl) ?_
                  refine pV 3 65 (bz 22 0x1cf) HT_.out ?_
                  refine pV 4 66 (bz 22 0x1df) HT_.out ?_
                  refine tV 5 67 (bz 22 0x1ff) HT_.out HW_.out hHeld rfl rfl (by rintro w' ⟨s0, s1, s2, s3, s4, s5, s6⟩; go_simp; with_reducible rfl) ?_
                  refine tV 9 71 (bz 22 0x3ff) HT_.out HW_.out hHeld rfl rfl (by rintro w' ⟨s0, s1, s2, s3, s4, s5, s6⟩; go_simp; with_reducible rfl) ?_
                  refine pV 10 72 (bz 22 0x7ff) HT_.out ?_
                  refine pV 11 73 (bz 22 0xfff) HT_.out ?_
                  refine pV 12 74 (bz 22 0x1fff) HT_.out ?_
                  refine pV 13 75 (bz 22 0x3fff) HT_.out ?_
                  refine pV 15 77 (bz 22 0xbfff) HT_.out ?_
                  refine tV 14 76 (bz 22 0xffff) HT_.out HW_.out hHeld rfl rfl (by rintro w' ⟨s0, s1, s2, s3, s4, s5, s6⟩; go_simp; with_reducible rfl) ?_
                  refine pV 16 78 (bz 22 0x1ffff) HT_.out ?_
                  refine pV 17 79 (bz 22 0x3ffff) HT_.out ?_
                  refine tV 18 80 (bz 22 0x7ffff) HT_.out HW_.out hHeld rfl rfl (by rintro w' ⟨s0, s1, s2, s3, s4, s5, s6⟩; go_simp; with_reducible rfl) ?_
                  refine one_ (i := 19) (N := some 81) (bz 22 0xfffff) rfl rfl (one_of HT_.out (by kernel_rfl)) (by decide) (fun K hK => ?_)
                  refine goes_ Try.func31 (by kernel_rfl) rfl #[.slice (some ad546) t542.length co34, .int .i64 ((rd_T55 t538 x11_2).f1)] (by rfl) rfl rfl (by (try simp only [List.map_toArray, List.map_cons, List.map_nil]); first | done | rfl | (simp only [List.length_drop, List.length_take]; rfl)) ?_
                  with_reducible refine (wireloomref05_In.calls k2 _ _ t542 ((rd_T55 t538 x11_2).f1) true _ ?side1 ?side2 A42.out).mono ?_
                  (case side1 => repeat (first | exact (Kd.R_reads' HO_8.out).2.2 | (with_reducible refine Kd.C_alloc ?_ _) | (with_reducible refine Kd.C_drewN ?_ _) | (with_reducible refine Kd.C_drew ?_)))
                  (case side2 => exact (Kd.R_reads' HO_8.out).2.1)
                  rintro e w' ⟨rfl, ⟨nd, rfl⟩⟩
                  refine ⟨_, rfl, ?_⟩
                  refine hK.out _ _ ⟨(blk_cell BK541.out 0).trans rfl, (blk_cell BK541.out 1).trans rfl, hHeld.2.2.1, hHeld.2.2.2.1, hHeld.2.2.2.2.1, hHeld.2.2.2.2.2.1, hHeld.2.2.2.2.2.2⟩ (fun hHeld => ?_)
                  clear hK K
                  refine norm_ (a' := ?_) ?_ ?_
                  rotate_left
                  ·show Act.put _ (some 81) _ = _
                   simp only [Act.put, List.setIfInBounds_toArray, List.set_cons_zero, List.set_cons_succ, i64_w, i32_w]
                   rfl
                  refine pV 20 82 (bz 22 0x1fffff) HT_.out ?_
                  refine pV 21 83 (bz 22 0x3fffff) HT_.out ?_
                  refine done_ (done_of HT_.out (by kernel_rfl)) ?_
                  try go_wp2
                  (try (rw [drewN_self w54]; generalize hq_ : World.drewN w54 _ = w54; have n0_ : Aside0 (Kd.R k55 55 w54 w.heap.size (fun _ => True) (.slice (some ad553) t538.length co31) t538) := ⟨by rw [← hq_]; exact (rA HO_542001.out)⟩; have n1_ : Aside0 (Kd.R (Kd.int .i64) 3 w54 w.heap.size (fun _ => True) (.slice (some ad546) t542.length co34) t542) := ⟨by rw [← hq_]; exact (rA HO_8.out)⟩; have n2_ : Aside0 (w54.heap[gb534]? = some (.cells #[.int .u8 a0_0, .int .u8 a0_1, .slice A0_2 l0_2.length c0_2] 24 (0, 0))) := ⟨by rw [← hq_]; exact (bA BK534.out)⟩; have n3_ : Aside0 (w54.heap[gb535]? = some (.cells #[.int .u8 a1_0, .int .u8 a1_1, .int .u8 a1_2] 52 (0, 0))) := ⟨by rw [← hq_]; exact (bA BK535.out)⟩; have n4_ : Aside0 (w54.heap[gb541]? = some (.cells #[.int .i64 t537, .slice (some ad553) t538.length co31] 31 (0, 0))) := ⟨by rw [← hq_]; exact (bA BK541.out)⟩; have n5_ : Aside0 (Below w.heap.size w w54) := ⟨by rw [← hq_]; exact (by repeat (first | (with_reducible first | exact HB.out | apply below_alloc | apply pw_below_drewN | apply below_drew1 | refine below_set ?_ GE534.out | refine below_set ?_ GE535.out | refine below_set ?_ GE541.out) | exact HB.out))⟩; clear HO_542001 HO_8 BK534 BK535 BK541 HB hq_; have HO_542001 := n0_; have HO_8 := n1_; have BK534 := n2_; have BK535 := n3_; have BK541 := n4_; have HB := n5_; clear n0_ n1_ n2_ n3_ n4_ n5_))
                  have n0_ := Aside0.mk (Kd.R_drew HO_8.out)
                  have n1_ := Aside0.mk (Kd.R_drew HO_542001.out)
                  have n2_ := Aside0.mk (blk_drew BK534.out)
                  have n3_ := Aside0.mk (blk_drew BK535.out)
                  have n4_ := Aside0.mk (blk_drew BK541.out)
                  have n5_ := Aside0.mk (below_drew1 HB.out)
                  clear HO_8
                  clear HO_542001
                  clear BK534
                  clear BK535
                  clear BK541
                  clear HB
                  have HO_8 := n0_
                  have HO_542001 := n1_
                  have BK534 := n2_
                  have BK535 := n3_
                  have BK541 := n4_
                  have HB := n5_
                  clear n0_ n1_ n2_ n3_ n4_ n5_
                  have p557 : 0 ≤ (x11_2 : Int) := of_decide_eq_true (by first | (with_reducible assumption) | assumption)
                  have q557 : x11_2 < (t538.length : Int) := of_decide_eq_true (by first | (with_reducible assumption) | assumption)
                  obtain ⟨ad557, e557, hx557_0, hx557_1⟩ := at_T55 (Kd.R_reads' HO_542001.out).2.2 x11_2 p557 q557
                  obtain rfl : ad553 = ad557 := (by injection e557)
                  replace p557 := eq_true p557
                  replace q557 := eq_true q557
                  have p558 : 0 ≤ (x9_1 : Int) := of_decide_eq_true (by first | (with_reducible assumption) | assumption)
                  have q558 : x9_1 < (t542.length : Int) := of_decide_eq_true (by first | (with_reducible assumption) | assumption)
                  obtain ⟨ad558, e558, hx558_0⟩ := Kd.at_int (Kd.R_reads' HO_8.out).2.2 x9_1 p558 q558
                  obtain rfl : ad546 = ad558 := (by injection e558)
                  replace p558 := eq_true p558
                  replace q558 := eq_true q558
                  have p559 : 0 ≤ (x11_2 : Int) := of_decide_eq_true (by first | (with_reducible assumption) | assumption)
                  have q559 : x11_2 < (t538.length : Int) := of_decide_eq_true (by first | (with_reducible assumption) | assumption)
                  obtain ⟨ad559, e559, hx559_0, hx559_1⟩ := at_T55 (Kd.R_reads' HO_542001.out).2.2 x11_2 p559 q559
                  obtain rfl : ad553 = ad559 := (by injection e559)
                  replace p559 := eq_true p559
                  replace q559 := eq_true q559
                  have p560 : 0 ≤ (x9_1 : Int) := of_decide_eq_true (by first | (with_reducible assumption) | assumption)
                  have q560 : x9_1 < (t542.length : Int) := of_decide_eq_true (by first | (with_reducible assumption) | assumption)
                  obtain ⟨ad560, e560, hx560_0⟩ := Kd.at_int (Kd.R_reads' HO_8.out).2.2 x9_1 p560 q560
                  obtain rfl : ad546 = ad560 := (by injection e560)
                  replace p560 := eq_true p560
                  replace q560 := eq_true q560
                  refine start_ (n := 38) (S := fun w' => w'.cell? ⟨gb541, 0, none⟩ = some (.int .i64 t537) ∧ w'.cell? ⟨gb541, 1, none⟩ = some (.slice (some ad553) t538.length co31) ∧ w'.cell? (ad553.add ((x11_2).toNat * 2)) = some (.int .i64 ((rd_T55 t538 x11_2).f0)) ∧ w'.cell? ⟨(ad553.add ((x11_2).toNat * 2)).block, (ad553.add ((x11_2).toNat * 2)).off + 1, none⟩ = some (.int .i64 ((rd_T55 t538 x11_2).f1)) ∧ w'.cell? (ad546.add (x9_1).toNat) = some (.int .i64 (rd t542 x9_1)) ∧ w'.cell? (ad553.add ((x11_2).toNat * 2)) = some (.int .i64 ((rd_T55 t538 x11_2).f0)) ∧ w'.cell? ⟨(ad553.add ((x11_2).toNat * 2)).block, (ad553.add ((x11_2).toNat * 2)).off + 1, none⟩ = some (.int .i64 ((rd_T55 t538 x11_2).f1)) ∧ w'.cell? (ad546.add (x9_1).toNat) = some (.int .i64 (rd t542 x9_1))) (ds := []) #[false, false, false, false, false, false, false, false, false, false, false, false, false, false, false, false, false, false, false, false, false, false, false, false, false, false, false, false, false, false, false, false, false, false, false, false, false, false] (by kernel_rfl) rfl rfl ⟨(blk_cell BK541.out 0).trans rfl, (blk_cell BK541.out 1).trans rfl, hx557_0, hx557_1, hx558_0, hx559_0, hx559_1, hx560_0⟩ (fun hHeld => ?_); refine with_tabW wireloomlaw05_DigraphReaches.tab20 wireloomlaw05_DigraphReaches.bits20 (fun HT_ HW_ => ?_)
                  generalize w54.drew = w55 at HO_8 HO_542001 BK534 BK535 BK541 HB hx557_0 hx557_1 hx558_0 hx559_0 hx559_1 hx560_0 hHeld ⊢
                  refine pV 0 84 (bz 38 0x1) HT_.out ?_
                  refine pV 1 85 (bz 38 0x3) HT_.out ?_
                  refine pV 2 86 (bz 38 0x7) HT_.out ?_
                  refine pV 4 88 (bz 38 0x17) HT_.out ?_
                  refine pV 8 92 (bz 38 0x117) HT_.out ?_
                  refine pV 9 93 (bz 38 0x317) HT_.out ?_
                  refine pV 10 94 (bz 38 0x717) HT_.out ?_
                  refine tV 3 87 (bz 38 0x71f) HT_.out HW_.out hHeld rfl rfl (by rintro w' ⟨s0, s1, s2, s3, s4, s5, s6, s7⟩; go_simp; with_reducible rfl) ?_
                  refine pV 5 89 (bz 38 0x73f) HT_.out ?_
                  refine pV 6 90 (bz 38 0x77f) HT_.out ?_
                  refine tV 7 91 (bz 38 0x7ff) HT_.out HW_.out hHeld rfl rfl (by rintro w' ⟨s0, s1, s2, s3, s4, s5, s6, s7⟩; go_simp; with_reducible rfl) ?_
                  refine tV 11 95 (bz 38 0xfff) HT_.out HW_.out hHeld rfl rfl (by rintro w' ⟨s0, s1, s2, s3, s4, s5, s6, s7⟩; go_simp; with_reducible rfl) ?_
                  refine pV 12 96 (bz 38 0x1fff) HT_.out ?_
                  refine pV 13 97 (bz 38 0x3fff) HT_.out ?_
                  refine pV 14 98 (bz 38 0x7fff) HT_.out ?_
                  refine pV 16 100 (bz 38 0x17fff) HT_.out ?_
                  refine pV 20 104 (bz 38 0x117fff) HT_.out ?_
                  refine pV 21 105 (bz 38 0x317fff) HT_.out ?_
                  refine pV 22 106 (bz 38 0x717fff) HT_.out ?_
                  refine tV 15 99 (bz 38 0x71ffff) HT_.out HW_.out hHeld rfl rfl (by rintro w' ⟨s0, s1, s2, s3, s4, s5, s6, s7⟩; go_simp; with_reducible rfl) ?_
                  refine pV 17 101 (bz 38 0x73ffff) HT_.out ?_
                  refine pV 18 102 (bz 38 0x77ffff) HT_.out ?_
                  refine tV 19 103 (bz 38 0x7fffff) HT_.out HW_.out hHeld rfl rfl (by rintro w' ⟨s0, s1, s2, s3, s4, s5, s6, s7⟩; go_simp; with_reducible rfl) ?_
                  refine tV 23 107 (bz 38 0xffffff) HT_.out HW_.out hHeld rfl rfl (by rintro w' ⟨s0, s1, s2, s3, s4, s5, s6, s7⟩; go_simp; with_reducible rfl) ?_
                  refine pV 24 108 (bz 38 0x1ffffff) HT_.out ?_
                  refine pV 25 109 (bz 38 0x3ffffff) HT_.out ?_
                  refine pV 26 110 (bz 38 0x7ffffff) HT_.out ?_
                  refine pU 27 111 (bz 38 0xfffffff) HT_.out ?_
                  refine pU 28 112 (bz 38 0x1fffffff) HT_.out ?_
                  refine pU 29 113 (bz 38 0x3fffffff) HT_.out ?_
                  refine pU 30 114 (bz 38 0x7fffffff) HT_.out ?_
                  refine pU 31 115 (bz 38 0xffffffff) HT_.out ?_
                  refine pU 32 116 (bz 38 0x1ffffffff) HT_.out ?_
                  refine pU 33 117 (bz 38 0x3ffffffff) HT_.out ?_
                  refine pU 34 118 (bz 38 0x7ffffffff) HT_.out ?_
                  refine pV 35 119 (bz 38 0xfffffffff) HT_.out ?_
                  refine pV 36 120 (bz 38 0x1fffffffff) HT_.out ?_
                  refine pV 37 10 (bz 38 0x3fffffffff) HT_.out ?_
                  refine done_ (done_of HT_.out (by kernel_rfl)) ?_
                  try go_wp2
                  go_roundg k2
                  case measure => have := HK1.out; have := HK2.out; omega
                  case rel => exact ⟨(false), (wrap64 (x11_2 + 1)), (by first | rfl | (simp; done) | (simp [*]; done)), (by first | rfl | (simp; done) | (simp [*]; done)), H', ⟨by have := HK1.out; have := HK2.out; omega⟩, ⟨rA HO_8.out⟩, ⟨rA HO_542001.out⟩, ⟨bA BK534.out⟩, ⟨bA BK535.out⟩, ⟨bA BK541.out⟩, ⟨by repeat (first | (with_reducible first | exact HB.out | apply below_alloc | apply pw_below_drewN | apply below_drew1 | refine below_set ?_ GE534.out | refine below_set ?_ GE535.out | refine below_set ?_ GE541.out) | exact HB.out)⟩⟩
                 ·rw [if_neg c50] at H
                  have c50b0 : (((rd_T55 t538 x11_2).f1) == (rd t542 x9_1)) = false := beq_eq_false_iff_ne.mpr c50
                  have c50b1 : (((rd_T55 t538 x11_2).f1) != (rd t542 x9_1)) = true := bne_iff_ne.mpr c50
                  have H' := Aside0.mk H
                  clear H
                  have hnb56 := NB541_534.out
                  have hnc56 := NB534_541.out
                  have hnb57 := NB541_535.out
                  have hnc57 := NB535_541.out
                  have hcz58_0 : wr.cell? ⟨gb541, 0, none⟩ = some (.int .i64 t537) := (blk_cell BK541.out 0).trans rfl
                  have hcz58_1 : wr.cell? ⟨gb541, 1, none⟩ = some (.slice Ao31 t538.length co31) := (blk_cell BK541.out 1).trans rfl
                  have hfz58_0 := blk_frozen BK541.out 0
                  have hfz58_1 := blk_frozen BK541.out 1
                  try go_wp2
                  have n0_ := Aside0.mk (Kd.R_drew HO_8.out)
                  have n1_ := Aside0.mk (Kd.R_drew HO_542001.out)
                  have n2_ := Aside0.mk (blk_drew BK534.out)
                  have n3_ := Aside0.mk (blk_drew BK535.out)
                  have n4_ := Aside0.mk (blk_drew BK541.out)
                  have n5_ := Aside0.mk (below_drew1 HB.out)
                  clear HO_8
                  clear HO_542001
                  clear BK534
                  clear BK535
                  clear BK541
                  clear HB
                  have HO_8 := n0_
                  have HO_542001 := n1_
                  have BK534 := n2_
                  have BK535 := n3_
                  have BK541 := n4_
                  have HB := n5_
                  clear n0_ n1_ n2_ n3_ n4_ n5_
                  have p553 : 0 ≤ (x11_2 : Int) := of_decide_eq_true (by first | (with_reducible assumption) | assumption)
                  have q553 : x11_2 < (t538.length : Int) := of_decide_eq_true (by first | (with_reducible assumption) | assumption)
                  obtain ⟨ad553, e553, hx553_0, hx553_1⟩ := at_T55 (Kd.R_reads' HO_542001.out).2.2 x11_2 p553 q553
                  cases e553
                  replace p553 := eq_true p553
                  replace q553 := eq_true q553
                  have p554 : 0 ≤ (x9_1 : Int) := of_decide_eq_true (by first | (with_reducible assumption) | assumption)
                  have q554 : x9_1 < (t542.length : Int) := of_decide_eq_true (by first | (with_reducible assumption) | assumption)
                  obtain ⟨ad554, e554, hx554_0⟩ := Kd.at_int (Kd.R_reads' HO_8.out).2.2 x9_1 p554 q554
                  obtain rfl : ad546 = ad554 := (by injection e554)
                  replace p554 := eq_true p554
                  replace q554 := eq_true q554
                  have p555 : 0 ≤ (x11_2 : Int) := of_decide_eq_true (by first | (with_reducible assumption) | assumption)
                  have q555 : x11_2 < (t538.length : Int) := of_decide_eq_true (by first | (with_reducible assumption) | assumption)
                  obtain ⟨ad555, e555, hx555_0, hx555_1⟩ := at_T55 (Kd.R_reads' HO_542001.out).2.2 x11_2 p555 q555
                  obtain rfl : ad553 = ad555 := (by injection e555)
                  replace p555 := eq_true p555
                  replace q555 := eq_true q555
                  refine start_ (n := 22) (S := fun w' => w'.cell? ⟨gb541, 0, none⟩ = some (.int .i64 t537) ∧ w'.cell? ⟨gb541, 1, none⟩ = some (.slice (some ad553) t538.length co31) ∧ w'.cell? (ad553.add ((x11_2).toNat * 2)) = some (.int .i64 ((rd_T55 t538 x11_2).f0)) ∧ w'.cell? ⟨(ad553.add ((x11_2).toNat * 2)).block, (ad553.add ((x11_2).toNat * 2)).off + 1, none⟩ = some (.int .i64 ((rd_T55 t538 x11_2).f1)) ∧ w'.cell? (ad546.add (x9_1).toNat) = some (.int .i64 (rd t542 x9_1)) ∧ w'.cell? (ad553.add ((x11_2).toNat * 2)) = some (.int .i64 ((rd_T55 t538 x11_2).f0)) ∧ w'.cell? ⟨(ad553.add ((x11_2).toNat * 2)).block, (ad553.add ((x11_2).toNat * 2)).off + 1, none⟩ = some (.int .i64 ((rd_T55 t538 x11_2).f1))) (ds := []) #[false, false, false, false, false, false, false, false, false, false, false, false, false, false, false, false, false, false, false, false, false, false] (by kernel_rfl) rfl rfl ⟨(blk_cell BK541.out 0).trans rfl, (blk_cell BK541.out 1).trans rfl, hx553_0, hx553_1, hx554_0, hx555_0, hx555_1⟩ (fun hHeld => ?_); refine with_tabW wireloomlaw05_DigraphReaches.tab18 wireloomlaw05_DigraphReaches.bits18 (fun HT_ HW_ => ?_)
                  generalize wr.drew = w59 at HO_8 HO_542001 BK534 BK535 BK541 HB hx553_0 hx553_1 hx554_0 hx555_0 hx555_1 hHeld ⊢
                  refine pV 0 62 (bz 22 0x1) HT_.out ?_
                  refine pV 2 64 (bz 22 0x5) HT_.out ?_
                  refine pV 6 68 (bz 22 0x45) HT_.out ?_
                  refine pV 7 69 (bz 22 0xc5) HT_.out ?_
                  refine pV 8 70 (bz 22 0x1c5) HT_.out ?_
                  refine tV 1 63 (bz 22 0x1c7) HT_.out HW_.out hHeld rfl rfl (by rintro w' ⟨s0, s1, s2, s3, s4, s5, s6⟩; go_simp; with_reducible rfl) ?_
                  refine pV 3 65 (bz 22 0x1cf) HT_.out ?_
                  refine pV 4 66 (bz 22 0x1df) HT_.out ?_
                  refine tV 5 67 (bz 22 0x1ff) HT_.out HW_.out hHeld rfl rfl (by rintro w' ⟨s0, s1, s2, s3, s4, s5, s6⟩; go_simp; with_reducible rfl) ?_
                  refine tV 9 71 (bz 22 0x3ff) HT_.out HW_.out hHeld rfl rfl (by rintro w' ⟨s0, s1, s2, s3, s4, s5, s6⟩; go_simp; with_reducible rfl) ?_
                  refine pV 10 72 (bz 22 0x7ff) HT_.out ?_
                  refine pV 11 73 (bz 22 0xfff) HT_.out ?_
                  refine pV 12 74 (bz 22 0x1fff) HT_.out ?_
                  refine pV 13 75 (bz 22 0x3fff) HT_.out ?_
                  refine pV 15 77 (bz 22 0xbfff) HT_.out ?_
                  refine tV 14 76 (bz 22 0xffff) HT_.out HW_.out hHeld rfl rfl (by rintro w' ⟨s0, s1, s2, s3, s4, s5, s6⟩; go_simp; with_reducible rfl) ?_
                  refine pV 16 78 (bz 22 0x1ffff) HT_.out ?_
                  refine pV 17 79 (bz 22 0x3ffff) HT_.out ?_
                  refine tV 18 80 (bz 22 0x7ffff) HT_.out HW_.out hHeld rfl rfl (by rintro w' ⟨s0, s1, s2, s3, s4, s5, s6⟩; go_simp; with_reducible rfl) ?_
                  refine one_ (i := 19) (N := some 81) (bz 22 0xfffff) rfl rfl (one_of HT_.out (by kernel_rfl)) (by decide) (fun K hK => ?_)
                  refine goes_ Try.func31 (by kernel_rfl) rfl #[.slice (some ad546) t542.length co34, .int .i64 ((rd_T55 t538 x11_2).f1)] (by rfl) rfl rfl (by (try simp only [List.map_toArray, List.map_cons, List.map_nil]); first | done | rfl | (simp only [List.length_drop, List.length_take]; rfl)) ?_
                  with_reducible refine (wireloomref05_In.calls k2 _ _ t542 ((rd_T55 t538 x11_2).f1) true _ ?side1 ?side2 A42.out).mono ?_
                  (case side1 => repeat (first | exact (Kd.R_reads' HO_8.out).2.2 | (with_reducible refine Kd.C_alloc ?_ _) | (with_reducible refine Kd.C_drewN ?_ _) | (with_reducible refine Kd.C_drew ?_)))
                  (case side2 => exact (Kd.R_reads' HO_8.out).2.1)
                  rintro e w' ⟨rfl, ⟨nd, rfl⟩⟩
                  refine ⟨_, rfl, ?_⟩
                  refine hK.out _ _ ⟨(blk_cell BK541.out 0).trans rfl, (blk_cell BK541.out 1).trans rfl, hHeld.2.2.1, hHeld.2.2.2.1, hHeld.2.2.2.2.1, hHeld.2.2.2.2.2.1, hHeld.2.2.2.2.2.2⟩ (fun hHeld => ?_)
                  clear hK K
                  refine norm_ (a' := ?_) ?_ ?_
                  rotate_left
                  ·show Act.put _ (some 81) _ = _
                   simp only [Act.put, List.setIfInBounds_toArray, List.set_cons_zero, List.set_cons_succ, i64_w, i32_w]
                   rfl
                  refine pV 20 82 (bz 22 0x1fffff) HT_.out ?_
                  refine pV 21 83 (bz 22 0x3fffff) HT_.out ?_
                  refine done_ (done_of HT_.out (by kernel_rfl)) ?_
                  try go_wp2
                  (try (rw [drewN_self w59]; generalize hq_ : World.drewN w59 _ = w59; have n0_ : Aside0 (Kd.R k55 55 w59 w.heap.size (fun _ => True) (.slice (some ad553) t538.length co31) t538) := ⟨by rw [← hq_]; exact (rA HO_542001.out)⟩; have n1_ : Aside0 (Kd.R (Kd.int .i64) 3 w59 w.heap.size (fun _ => True) (.slice (some ad546) t542.length co34) t542) := ⟨by rw [← hq_]; exact (rA HO_8.out)⟩; have n2_ : Aside0 (w59.heap[gb534]? = some (.cells #[.int .u8 a0_0, .int .u8 a0_1, .slice A0_2 l0_2.length c0_2] 24 (0, 0))) := ⟨by rw [← hq_]; exact (bA BK534.out)⟩; have n3_ : Aside0 (w59.heap[gb535]? = some (.cells #[.int .u8 a1_0, .int .u8 a1_1, .int .u8 a1_2] 52 (0, 0))) := ⟨by rw [← hq_]; exact (bA BK535.out)⟩; have n4_ : Aside0 (w59.heap[gb541]? = some (.cells #[.int .i64 t537, .slice (some ad553) t538.length co31] 31 (0, 0))) := ⟨by rw [← hq_]; exact (bA BK541.out)⟩; have n5_ : Aside0 (Below w.heap.size w w59) := ⟨by rw [← hq_]; exact (by repeat (first | (with_reducible first | exact HB.out | apply below_alloc | apply pw_below_drewN | apply below_drew1 | refine below_set ?_ GE534.out | refine below_set ?_ GE535.out | refine below_set ?_ GE541.out) | exact HB.out))⟩; clear HO_542001 HO_8 BK534 BK535 BK541 HB hq_; have HO_542001 := n0_; have HO_8 := n1_; have BK534 := n2_; have BK535 := n3_; have BK541 := n4_; have HB := n5_; clear n0_ n1_ n2_ n3_ n4_ n5_))
                  have n0_ := Aside0.mk (Kd.R_drew HO_8.out)
                  have n1_ := Aside0.mk (Kd.R_drew HO_542001.out)
                  have n2_ := Aside0.mk (blk_drew BK534.out)
                  have n3_ := Aside0.mk (blk_drew BK535.out)
                  have n4_ := Aside0.mk (blk_drew BK541.out)
                  have n5_ := Aside0.mk (below_drew1 HB.out)
                  clear HO_8
                  clear HO_542001
                  clear BK534
                  clear BK535
                  clear BK541
                  clear HB
                  have HO_8 := n0_
                  have HO_542001 := n1_
                  have BK534 := n2_
                  have BK535 := n3_
                  have BK541 := n4_
                  have HB := n5_
                  clear n0_ n1_ n2_ n3_ n4_ n5_
                  have p557 : 0 ≤ (x11_2 : Int) := of_decide_eq_true (by first | (with_reducible assumption) | assumption)
                  have q557 : x11_2 < (t538.length : Int) := of_decide_eq_true (by first | (with_reducible assumption) | assumption)
                  obtain ⟨ad557, e557, hx557_0, hx557_1⟩ := at_T55 (Kd.R_reads' HO_542001.out).2.2 x11_2 p557 q557
                  obtain rfl : ad553 = ad557 := (by injection e557)
                  replace p557 := eq_true p557
                  replace q557 := eq_true q557
                  have p558 : 0 ≤ (x9_1 : Int) := of_decide_eq_true (by first | (with_reducible assumption) | assumption)
                  have q558 : x9_1 < (t542.length : Int) := of_decide_eq_true (by first | (with_reducible assumption) | assumption)
                  obtain ⟨ad558, e558, hx558_0⟩ := Kd.at_int (Kd.R_reads' HO_8.out).2.2 x9_1 p558 q558
                  obtain rfl : ad546 = ad558 := (by injection e558)
                  replace p558 := eq_true p558
                  replace q558 := eq_true q558
                  refine start_ (n := 38) (S := fun w' => w'.cell? ⟨gb541, 0, none⟩ = some (.int .i64 t537) ∧ w'.cell? ⟨gb541, 1, none⟩ = some (.slice (some ad553) t538.length co31) ∧ w'.cell? (ad553.add ((x11_2).toNat * 2)) = some (.int .i64 ((rd_T55 t538 x11_2).f0)) ∧ w'.cell? ⟨(ad553.add ((x11_2).toNat * 2)).block, (ad553.add ((x11_2).toNat * 2)).off + 1, none⟩ = some (.int .i64 ((rd_T55 t538 x11_2).f1)) ∧ w'.cell? (ad546.add (x9_1).toNat) = some (.int .i64 (rd t542 x9_1))) (ds := []) #[false, false, false, false, false, false, false, false, false, false, false, false, false, false, false, false, false, false, false, false, false, false, false, false, false, false, false, false, false, false, false, false, false, false, false, false, false, false] (by kernel_rfl) rfl rfl ⟨(blk_cell BK541.out 0).trans rfl, (blk_cell BK541.out 1).trans rfl, hx557_0, hx557_1, hx558_0⟩ (fun hHeld => ?_); refine with_tabW wireloomlaw05_DigraphReaches.tab20 wireloomlaw05_DigraphReaches.bits20 (fun HT_ HW_ => ?_)
                  generalize w59.drew = w60 at HO_8 HO_542001 BK534 BK535 BK541 HB hx557_0 hx557_1 hx558_0 hHeld ⊢
                  refine pV 0 84 (bz 38 0x1) HT_.out ?_
                  refine pV 1 85 (bz 38 0x3) HT_.out ?_
                  refine pV 2 86 (bz 38 0x7) HT_.out ?_
                  refine pV 4 88 (bz 38 0x17) HT_.out ?_
                  refine pV 8 92 (bz 38 0x117) HT_.out ?_
                  refine pV 9 93 (bz 38 0x317) HT_.out ?_
                  refine pV 10 94 (bz 38 0x717) HT_.out ?_
                  refine tV 3 87 (bz 38 0x71f) HT_.out HW_.out hHeld rfl rfl (by rintro w' ⟨s0, s1, s2, s3, s4⟩; go_simp; with_reducible rfl) ?_
                  refine pV 5 89 (bz 38 0x73f) HT_.out ?_
                  refine pV 6 90 (bz 38 0x77f) HT_.out ?_
                  refine tV 7 91 (bz 38 0x7ff) HT_.out HW_.out hHeld rfl rfl (by rintro w' ⟨s0, s1, s2, s3, s4⟩; go_simp; with_reducible rfl) ?_
                  refine tV 11 95 (bz 38 0xfff) HT_.out HW_.out hHeld rfl rfl (by rintro w' ⟨s0, s1, s2, s3, s4⟩; go_simp; with_reducible rfl) ?_
                  refine pV 12 96 (bz 38 0x1fff) HT_.out ?_
                  refine pV 13 97 (bz 38 0x3fff) HT_.out ?_
                  refine pU 14 98 (bz 38 0x7fff) HT_.out ?_
                  refine pU 15 99 (bz 38 0xffff) HT_.out ?_
                  refine pU 16 100 (bz 38 0x1ffff) HT_.out ?_
                  refine pU 17 101 (bz 38 0x3ffff) HT_.out ?_
                  refine pU 18 102 (bz 38 0x7ffff) HT_.out ?_
                  refine pU 19 103 (bz 38 0xfffff) HT_.out ?_
                  refine pU 20 104 (bz 38 0x1fffff) HT_.out ?_
                  refine pU 21 105 (bz 38 0x3fffff) HT_.out ?_
                  refine pU 22 106 (bz 38 0x7fffff) HT_.out ?_
                  refine pU 23 107 (bz 38 0xffffff) HT_.out ?_
                  refine pU 24 108 (bz 38 0x1ffffff) HT_.out ?_
                  refine pV 25 109 (bz 38 0x3ffffff) HT_.out ?_
                  refine pV 26 110 (bz 38 0x7ffffff) HT_.out ?_
                  refine pU 27 111 (bz 38 0xfffffff) HT_.out ?_
                  refine pU 28 112 (bz 38 0x1fffffff) HT_.out ?_
                  refine pU 29 113 (bz 38 0x3fffffff) HT_.out ?_
                  refine pU 30 114 (bz 38 0x7fffffff) HT_.out ?_
                  refine pU 31 115 (bz 38 0xffffffff) HT_.out ?_
                  refine pU 32 116 (bz 38 0x1ffffffff) HT_.out ?_
                  refine pU 33 117 (bz 38 0x3ffffffff) HT_.out ?_
                  refine pU 34 118 (bz 38 0x7ffffffff) HT_.out ?_
                  refine pV 35 119 (bz 38 0xfffffffff) HT_.out ?_
                  refine pV 36 120 (bz 38 0x1fffffffff) HT_.out ?_
                  refine pV 37 10 (bz 38 0x3fffffffff) HT_.out ?_
                  refine done_ (done_of HT_.out (by kernel_rfl)) ?_
                  try go_wp2
                  go_roundg k2
                  case measure => have := HK1.out; have := HK2.out; omega
                  case rel => exact ⟨(false), (wrap64 (x11_2 + 1)), (by first | rfl | (simp; done) | (simp [*]; done)), (by first | rfl | (simp; done) | (simp [*]; done)), H', ⟨by have := HK1.out; have := HK2.out; omega⟩, ⟨rA HO_8.out⟩, ⟨rA HO_542001.out⟩, ⟨bA BK534.out⟩, ⟨bA BK535.out⟩, ⟨bA BK541.out⟩, ⟨by repeat (first | (with_reducible first | exact HB.out | apply below_alloc | apply pw_below_drewN | apply below_drew1 | refine below_set ?_ GE534.out | refine below_set ?_ GE535.out | refine below_set ?_ GE541.out) | exact HB.out)⟩⟩
               ·replace c43 := Bool.eq_false_iff.mpr c43
                subst c43
                have H1 : (none) = some r := by rw [if_neg (show ¬ (false = true) by decide)] at H; exact H
                clear H
                have H := H1
                clear H1
                exact absurd H (by simp)
              ·rw [if_neg c41] at H
               have c41b0 : (((rd_T55 t538 x11_2).f0) == (rd t542 x9_1)) = false := beq_eq_false_iff_ne.mpr c41
               have c41b1 : (((rd_T55 t538 x11_2).f0) != (rd t542 x9_1)) = true := bne_iff_ne.mpr c41
               by_cases c61 : x10_2 = true
               ·subst c61
                have H1 : (wireloomlaw05_DigraphReaches.l1 k2 true (Int.tmod (wrap64 (a1_0)) t537) t542 x9_1 true (wrap64 (x11_2 + 1)) a1_0 a1_1 a1_2 t537 t538) = some r := by rw [if_pos rfl] at H; exact H
                clear H
                have H := H1
                clear H1
                have H' := Aside0.mk H
                clear H
                have hnb62 := NB541_534.out
                have hnc62 := NB534_541.out
                have hnb63 := NB541_535.out
                have hnc63 := NB535_541.out
                have hcz64_0 : wr.cell? ⟨gb541, 0, none⟩ = some (.int .i64 t537) := (blk_cell BK541.out 0).trans rfl
                have hcz64_1 : wr.cell? ⟨gb541, 1, none⟩ = some (.slice Ao31 t538.length co31) := (blk_cell BK541.out 1).trans rfl
                have hfz64_0 := blk_frozen BK541.out 0
                have hfz64_1 := blk_frozen BK541.out 1
                try go_wp2
                have n0_ := Aside0.mk (Kd.R_drew HO_8.out)
                have n1_ := Aside0.mk (Kd.R_drew HO_542001.out)
                have n2_ := Aside0.mk (blk_drew BK534.out)
                have n3_ := Aside0.mk (blk_drew BK535.out)
                have n4_ := Aside0.mk (blk_drew BK541.out)
                have n5_ := Aside0.mk (below_drew1 HB.out)
                clear HO_8
                clear HO_542001
                clear BK534
                clear BK535
                clear BK541
                clear HB
                have HO_8 := n0_
                have HO_542001 := n1_
                have BK534 := n2_
                have BK535 := n3_
                have BK541 := n4_
                have HB := n5_
                clear n0_ n1_ n2_ n3_ n4_ n5_
                have p553 : 0 ≤ (x11_2 : Int) := of_decide_eq_true (by first | (with_reducible assumption) | assumption)
                have q553 : x11_2 < (t538.length : Int) := of_decide_eq_true (by first | (with_reducible assumption) | assumption)
                obtain ⟨ad553, e553, hx553_0, hx553_1⟩ := at_T55 (Kd.R_reads' HO_542001.out).2.2 x11_2 p553 q553
                cases e553
                replace p553 := eq_true p553
                replace q553 := eq_true q553
                have p554 : 0 ≤ (x9_1 : Int) := of_decide_eq_true (by first | (with_reducible assumption) | assumption)
                have q554 : x9_1 < (t542.length : Int) := of_decide_eq_true (by first | (with_reducible assumption) | assumption)
                obtain ⟨ad554, e554, hx554_0⟩ := Kd.at_int (Kd.R_reads' HO_8.out).2.2 x9_1 p554 q554
                obtain rfl : ad546 = ad554 := (by injection e554)
                replace p554 := eq_true p554
                replace q554 := eq_true q554
                refine start_ (n := 22) (S := fun w' => w'.cell? ⟨gb541, 0, none⟩ = some (.int .i64 t537) ∧ w'.cell? ⟨gb541, 1, none⟩ = some (.slice (some ad553) t538.length co31) ∧ w'.cell? (ad553.add ((x11_2).toNat * 2)) = some (.int .i64 ((rd_T55 t538 x11_2).f0)) ∧ w'.cell? ⟨(ad553.add ((x11_2).toNat * 2)).block, (ad553.add ((x11_2).toNat * 2)).off + 1, none⟩ = some (.int .i64 ((rd_T55 t538 x11_2).f1)) ∧ w'.cell? (ad546.add (x9_1).toNat) = some (.int .i64 (rd t542 x9_1))) (ds := []) #[false, false, false, false, false, false, false, false, false, false, false, false, false, false, false, false, false, false, false, false, false, false] (by kernel_rfl) rfl rfl ⟨(blk_cell BK541.out 0).trans rfl, (blk_cell BK541.out 1).trans rfl, hx553_0, hx553_1, hx554_0⟩ (fun hHeld => ?_); refine with_tabW wireloomlaw05_DigraphReaches.tab18 wireloomlaw05_DigraphReaches.bits18 (fun HT_ HW_ => ?_)
                generalize wr.drew = w65 at HO_8 HO_542001 BK534 BK535 BK541 HB hx553_0 hx553_1 hx554_0 hHeld ⊢
                refine pV 0 62 (bz 22 0x1) HT_.out ?_
                refine pV 2 64 (bz 22 0x5) HT_.out ?_
                refine pV 6 68 (bz 22 0x45) HT_.out ?_
                refine pV 7 69 (bz 22 0xc5) HT_.out ?_
                refine pV 8 70 (bz 22 0x1c5) HT_.out ?_
                refine tV 1 63 (bz 22 0x1c7) HT_.out HW_.out hHeld rfl rfl (by rintro w' ⟨s0, s1, s2, s3, s4⟩; go_simp; with_reducible rfl) ?_
                refine pV 3 65 (bz 22 0x1cf) HT_.out ?_
                refine pV 4 66 (bz 22 0x1df) HT_.out ?_
                refine tV 5 67 (bz 22 0x1ff) HT_.out HW_.out hHeld rfl rfl (by rintro w' ⟨s0, s1, s2, s3, s4⟩; go_simp; with_reducible rfl) ?_
                refine tV 9 71 (bz 22 0x3ff) HT_.out HW_.out hHeld rfl rfl (by rintro w' ⟨s0, s1, s2, s3, s4⟩; go_simp; with_reducible rfl) ?_
                refine pV 10 72 (bz 22 0x7ff) HT_.out ?_
                refine pV 11 73 (bz 22 0xfff) HT_.out ?_
                refine pU 12 74 (bz 22 0x1fff) HT_.out ?_
                refine pU 13 75 (bz 22 0x3fff) HT_.out ?_
                refine pU 14 76 (bz 22 0x7fff) HT_.out ?_
                refine pU 15 77 (bz 22 0xffff) HT_.out ?_
                refine pU 16 78 (bz 22 0x1ffff) HT_.out ?_
                refine pU 17 79 (bz 22 0x3ffff) HT_.out ?_
                refine pU 18 80 (bz 22 0x7ffff) HT_.out ?_
                refine pU 19 81 (bz 22 0xfffff) HT_.out ?_
                refine pU 20 82 (bz 22 0x1fffff) HT_.out ?_
                refine pV 21 83 (bz 22 0x3fffff) HT_.out ?_
                refine done_ (done_of HT_.out (by kernel_rfl)) ?_
                try go_wp2
                have n0_ := Aside0.mk (Kd.R_drew HO_8.out)
                have n1_ := Aside0.mk (Kd.R_drew HO_542001.out)
                have n2_ := Aside0.mk (blk_drew BK534.out)
                have n3_ := Aside0.mk (blk_drew BK535.out)
                have n4_ := Aside0.mk (blk_drew BK541.out)
                have n5_ := Aside0.mk (below_drew1 HB.out)
                clear HO_8
                clear HO_542001
                clear BK534
                clear BK535
                clear BK541
                clear HB
                have HO_8 := n0_
                have HO_542001 := n1_
                have BK534 := n2_
                have BK535 := n3_
                have BK541 := n4_
                have HB := n5_
                clear n0_ n1_ n2_ n3_ n4_ n5_
                refine start_ (n := 38) (S := fun w' => True) (ds := []) #[false, false, false, false, false, false, false, false, false, false, false, false, false, false, false, false, false, false, false, false, false, false, false, false, false, false, false, false, false, false, false, false, false, false, false, false, false, false] (by kernel_rfl) rfl rfl trivial (fun hHeld => ?_); refine with_tabW wireloomlaw05_DigraphReaches.tab20 wireloomlaw05_DigraphReaches.bits20 (fun HT_ HW_ => ?_)
                generalize w65.drew = w66 at HO_8 HO_542001 BK534 BK535 BK541 HB hHeld ⊢
                refine pV 0 84 (bz 38 0x1) HT_.out ?_
                refine pV 1 85 (bz 38 0x3) HT_.out ?_
                refine pU 2 86 (bz 38 0x7) HT_.out ?_
                refine pU 3 87 (bz 38 0xf) HT_.out ?_
                refine pU 4 88 (bz 38 0x1f) HT_.out ?_
                refine pU 5 89 (bz 38 0x3f) HT_.out ?_
                refine pU 6 90 (bz 38 0x7f) HT_.out ?_
                refine pU 7 91 (bz 38 0xff) HT_.out ?_
                refine pU 8 92 (bz 38 0x1ff) HT_.out ?_
                refine pU 9 93 (bz 38 0x3ff) HT_.out ?_
                refine pU 10 94 (bz 38 0x7ff) HT_.out ?_
                refine pU 11 95 (bz 38 0xfff) HT_.out ?_
                refine pU 12 96 (bz 38 0x1fff) HT_.out ?_
                refine pU 13 97 (bz 38 0x3fff) HT_.out ?_
                refine pU 14 98 (bz 38 0x7fff) HT_.out ?_
                refine pU 15 99 (bz 38 0xffff) HT_.out ?_
                refine pU 16 100 (bz 38 0x1ffff) HT_.out ?_
                refine pU 17 101 (bz 38 0x3ffff) HT_.out ?_
                refine pU 18 102 (bz 38 0x7ffff) HT_.out ?_
                refine pU 19 103 (bz 38 0xfffff) HT_.out ?_
                refine pU 20 104 (bz 38 0x1fffff) HT_.out ?_
                refine pU 21 105 (bz 38 0x3fffff) HT_.out ?_
                refine pU 22 106 (bz 38 0x7fffff) HT_.out ?_
                refine pU 23 107 (bz 38 0xffffff) HT_.out ?_
                refine pU 24 108 (bz 38 0x1ffffff) HT_.out ?_
                refine pU 25 109 (bz 38 0x3ffffff) HT_.out ?_
                refine pU 26 110 (bz 38 0x7ffffff) HT_.out ?_
                refine pU 27 111 (bz 38 0xfffffff) HT_.out ?_
                refine pU 28 112 (bz 38 0x1fffffff) HT_.out ?_
                refine pU 29 113 (bz 38 0x3fffffff) HT_.out ?_
                refine pU 30 114 (bz 38 0x7fffffff) HT_.out ?_
                refine pU 31 115 (bz 38 0xffffffff) HT_.out ?_
                refine pU 32 116 (bz 38 0x1ffffffff) HT_.out ?_
                refine pU 33 117 (bz 38 0x3ffffffff) HT_.out ?_
                refine pU 34 118 (bz 38 0x7ffffffff) HT_.out ?_
                refine pU 35 119 (bz 38 0xfffffffff) HT_.out ?_
                refine pV 36 120 (bz 38 0x1fffffffff) HT_.out ?_
                refine pV 37 10 (bz 38 0x3fffffffff) HT_.out ?_
                refine done_ (done_of HT_.out (by kernel_rfl)) ?_
                try go_wp2
                go_roundg k2
                case measure => have := HK1.out; have := HK2.out; omega
                case rel => exact ⟨(true), (wrap64 (x11_2 + 1)), (by first | rfl | (simp; done) | (simp [*]; done)), (by first | rfl | (simp; done) | (simp [*]; done)), H', ⟨by have := HK1.out; have := HK2.out; omega⟩, ⟨rA HO_8.out⟩, ⟨rA HO_542001.out⟩, ⟨bA BK534.out⟩, ⟨bA BK535.out⟩, ⟨bA BK541.out⟩, ⟨by repeat (first | (with_reducible first | exact HB.out | apply below_alloc | apply pw_below_drewN | apply below_drew1 | refine below_set ?_ GE534.out | refine below_set ?_ GE535.out | refine below_set ?_ GE541.out) | exact HB.out)⟩⟩
               ·replace c61 := Bool.eq_false_iff.mpr c61
                subst c61
                have H1 : (if ((rd_T55 t538 x11_2).f1) = (rd t542 x9_1) then ((wireloomref05_In.f k2 t542 ((rd_T55 t538 x11_2).f0)).bind fun t566 => (wireloomlaw05_DigraphReaches.l1 k2 true (Int.tmod (wrap64 (a1_0)) t537) t542 x9_1 t566 (wrap64 (x11_2 + 1)) a1_0 a1_1 a1_2 t537 t538)) else (wireloomlaw05_DigraphReaches.l1 k2 true (Int.tmod (wrap64 (a1_0)) t537) t542 x9_1 false (wrap64 (x11_2 + 1)) a1_0 a1_1 a1_2 t537 t538)) = some r := by rw [if_neg (show ¬ (false = true) by decide)] at H; exact H
                clear H
                have H := H1
                clear H1
                by_cases c67 : ((rd_T55 t538 x11_2).f1) = (rd t542 x9_1)
                ·rw [if_pos c67] at H
                 have c67b0 : (((rd_T55 t538 x11_2).f1) == (rd t542 x9_1)) = true := beq_iff_eq.mpr c67
                 have c67b1 : (((rd_T55 t538 x11_2).f1) != (rd t542 x9_1)) = false := bne_eq_false_iff_eq.mpr c67
                 clear c67
                 replace H := Option.bind_eq_some_iff.mp H
                 obtain ⟨t566, A680, H⟩ := H
                 replace H : (wireloomlaw05_DigraphReaches.l1 k2 true (Int.tmod (wrap64 (a1_0)) t537) t542 x9_1 t566 (wrap64 (x11_2 + 1)) a1_0 a1_1 a1_2 t537 t538) = some r := H
                 have A68 := Aside0.mk A680
                 clear A680
                 have H' := Aside0.mk H
                 clear H
                 have hnb69 := NB541_534.out
                 have hnc69 := NB534_541.out
                 have hnb70 := NB541_535.out
                 have hnc70 := NB535_541.out
                 have hcz71_0 : wr.cell? ⟨gb541, 0, none⟩ = some (.int .i64 t537) := (blk_cell BK541.out 0).trans rfl
                 have hcz71_1 : wr.cell? ⟨gb541, 1, none⟩ = some (.slice Ao31 t538.length co31) := (blk_cell BK541.out 1).trans rfl
                 have hfz71_0 := blk_frozen BK541.out 0
                 have hfz71_1 := blk_frozen BK541.out 1
                 try go_wp2
                 have n0_ := Aside0.mk (Kd.R_drew HO_8.out)
                 have n1_ := Aside0.mk (Kd.R_drew HO_542001.out)
                 have n2_ := Aside0.mk (blk_drew BK534.out)
                 have n3_ := Aside0.mk (blk_drew BK535.out)
                 have n4_ := Aside0.mk (blk_drew BK541.out)
                 have n5_ := Aside0.mk (below_drew1 HB.out)
                 clear HO_8
                 clear HO_542001
                 clear BK534
                 clear BK535
                 clear BK541
                 clear HB
                 have HO_8 := n0_
                 have HO_542001 := n1_
                 have BK534 := n2_
                 have BK535 := n3_
                 have BK541 := n4_
                 have HB := n5_
                 clear n0_ n1_ n2_ n3_ n4_ n5_
                 have p553 : 0 ≤ (x11_2 : Int) := of_decide_eq_true (by first | (with_reducible assumption) | assumption)
                 have q553 : x11_2 < (t538.length : Int) := of_decide_eq_true (by first | (with_reducible assumption) | assumption)
                 obtain ⟨ad553, e553, hx553_0, hx553_1⟩ := at_T55 (Kd.R_reads' HO_542001.out).2.2 x11_2 p553 q553
                 cases e553
                 replace p553 := eq_true p553
                 replace q553 := eq_true q553
                 have p554 : 0 ≤ (x9_1 : Int) := of_decide_eq_true (by first | (with_reducible assumption) | assumption)
                 have q554 : x9_1 < (t542.length : Int) := of_decide_eq_true (by first | (with_reducible assumption) | assumption)
                 obtain ⟨ad554, e554, hx554_0⟩ := Kd.at_int (Kd.R_reads' HO_8.out).2.2 x9_1 p554 q554
                 obtain rfl : ad546 = ad554 := (by injection e554)
                 replace p554 := eq_true p554
                 replace q554 := eq_true q554
                 refine start_ (n := 22) (S := fun w' => w'.cell? ⟨gb541, 0, none⟩ = some (.int .i64 t537) ∧ w'.cell? ⟨gb541, 1, none⟩ = some (.slice (some ad553) t538.length co31) ∧ w'.cell? (ad553.add ((x11_2).toNat * 2)) = some (.int .i64 ((rd_T55 t538 x11_2).f0)) ∧ w'.cell? ⟨(ad553.add ((x11_2).toNat * 2)).block, (ad553.add ((x11_2).toNat * 2)).off + 1, none⟩ = some (.int .i64 ((rd_T55 t538 x11_2).f1)) ∧ w'.cell? (ad546.add (x9_1).toNat) = some (.int .i64 (rd t542 x9_1))) (ds := []) #[false, false, false, false, false, false, false, false, false, false, false, false, false, false, false, false, false, false, false, false, false, false] (by kernel_rfl) rfl rfl ⟨(blk_cell BK541.out 0).trans rfl, (blk_cell BK541.out 1).trans rfl, hx553_0, hx553_1, hx554_0⟩ (fun hHeld => ?_); refine with_tabW wireloomlaw05_DigraphReaches.tab18 wireloomlaw05_DigraphReaches.bits18 (fun HT_ HW_ => ?_)
                 generalize wr.drew = w72 at HO_8 HO_542001 BK534 BK535 BK541 HB hx553_0 hx553_1 hx554_0 hHeld ⊢
                 refine pV 0 62 (bz 22 0x1) HT_.out ?_
                 refine pV 2 64 (bz 22 0x5) HT_.out ?_
                 refine pV 6 68 (bz 22 0x45) HT_.out ?_
                 refine pV 7 69 (bz 22 0xc5) HT_.out ?_
                 refine pV 8 70 (bz 22 0x1c5) HT_.out ?_
                 refine tV 1 63 (bz 22 0x1c7) HT_.out HW_.out hHeld rfl rfl (by rintro w' ⟨s0, s1, s2, s3, s4⟩; go_simp; with_reducible rfl) ?_
                 refine pV 3 65 (bz 22 0x1cf) HT_.out ?_
                 refine pV 4 66 (bz 22 0x1df) HT_.out ?_
                 refine tV 5 67 (bz 22 0x1ff) HT_.out HW_.out hHeld rfl rfl (by rintro w' ⟨s0, s1, s2, s3, s4⟩; go_simp; with_reducible rfl) ?_
                 refine tV 9 71 (bz 22 0x3ff) HT_.out HW_.out hHeld rfl rfl (by rintro w' ⟨s0, s1, s2, s3, s4⟩; go_simp; with_reducible rfl) ?_
                 refine pV 10 72 (bz 22 0x7ff) HT_.out ?_
                 refine pV 11 73 (bz 22 0xfff) HT_.out ?_
                 refine pU 12 74 (bz 22 0x1fff) HT_.out ?_
                 refine pU 13 75 (bz 22 0x3fff) HT_.out ?_
                 refine pU 14 76 (bz 22 0x7fff) HT_.out ?_
                 refine pU 15 77 (bz 22 0xffff) HT_.out ?_
                 refine pU 16 78 (bz 22 0x1ffff) HT_.out ?_
                 refine pU 17 79 (bz 22 0x3ffff) HT_.out ?_
                 refine pU 18 80 (bz 22 0x7ffff) HT_.out ?_
                 refine pU 19 81 (bz 22 0xfffff) HT_.out ?_
                 refine pU 20 82 (bz 22 0x1fffff) HT_.out ?_
                 refine pV 21 83 (bz 22 0x3fffff) HT_.out ?_
                 refine done_ (done_of HT_.out (by kernel_rfl)) ?_
                 try go_wp2
                 have n0_ := Aside0.mk (Kd.R_drew HO_8.out)
                 have n1_ := Aside0.mk (Kd.R_drew HO_542001.out)
                 have n2_ := Aside0.mk (blk_drew BK534.out)
                 have n3_ := Aside0.mk (blk_drew BK535.out)
                 have n4_ := Aside0.mk (blk_drew BK541.out)
                 have n5_ := Aside0.mk (below_drew1 HB.out)
                 clear HO_8
                 clear HO_542001
                 clear BK534
                 clear BK535
                 clear BK541
                 clear HB
                 have HO_8 := n0_
                 have HO_542001 := n1_
                 have BK534 := n2_
                 have BK535 := n3_
                 have BK541 := n4_
                 have HB := n5_
                 clear n0_ n1_ n2_ n3_ n4_ n5_
                 have p561 : 0 ≤ (x11_2 : Int) := of_decide_eq_true (by first | (with_reducible assumption) | assumption)
                 have q561 : x11_2 < (t538.length : Int) := of_decide_eq_true (by first | (with_reducible assumption) | assumption)
                 obtain ⟨ad561, e561, hx561_0, hx561_1⟩ := at_T55 (Kd.R_reads' HO_542001.out).2.2 x11_2 p561 q561
                 obtain rfl : ad553 = ad561 := (by injection e561)
                 replace p561 := eq_true p561
                 replace q561 := eq_true q561
                 have p562 : 0 ≤ (x9_1 : Int) := of_decide_eq_true (by first | (with_reducible assumption) | assumption)
                 have q562 : x9_1 < (t542.length : Int) := of_decide_eq_true (by first | (with_reducible assumption) | assumption)
                 obtain ⟨ad562, e562, hx562_0⟩ := Kd.at_int (Kd.R_reads' HO_8.out).2.2 x9_1 p562 q562
                 obtain rfl : ad546 = ad562 := (by injection e562)
                 replace p562 := eq_true p562
                 replace q562 := eq_true q562
                 have p563 : 0 ≤ (x11_2 : Int) := of_decide_eq_true (by first | (with_reducible assumption) | assumption)
                 have q563 : x11_2 < (t538.length : Int) := of_decide_eq_true (by first | (with_reducible assumption) | assumption)
                 obtain ⟨ad563, e563, hx563_0, hx563_1⟩ := at_T55 (Kd.R_reads' HO_542001.out).2.2 x11_2 p563 q563
                 obtain rfl : ad553 = ad563 := (by injection e563)
                 replace p563 := eq_true p563
                 replace q563 := eq_true q563
                 have p564 : 0 ≤ (x9_1 : Int) := of_decide_eq_true (by first | (with_reducible assumption) | assumption)
                 have q564 : x9_1 < (t542.length : Int) := of_decide_eq_true (by first | (with_reducible assumption) | assumption)
                 obtain ⟨ad564, e564, hx564_0⟩ := Kd.at_int (Kd.R_reads' HO_8.out).2.2 x9_1 p564 q564
                 obtain rfl : ad546 = ad564 := (by injection e564)
                 replace p564 := eq_true p564
                 replace q564 := eq_true q564
                 have p565 : 0 ≤ (x11_2 : Int) := of_decide_eq_true (by first | (with_reducible assumption) | assumption)
                 have q565 : x11_2 < (t538.length : Int) := of_decide_eq_true (by first | (with_reducible assumption) | assumption)
                 obtain ⟨ad565, e565, hx565_0, hx565_1⟩ := at_T55 (Kd.R_reads' HO_542001.out).2.2 x11_2 p565 q565
                 obtain rfl : ad553 = ad565 := (by injection e565)
                 replace p565 := eq_true p565
                 replace q565 := eq_true q565
                 refine start_ (n := 38) (S := fun w' => w'.cell? ⟨gb541, 0, none⟩ = some (.int .i64 t537) ∧ w'.cell? ⟨gb541, 1, none⟩ = some (.slice (some ad553) t538.length co31) ∧ w'.cell? (ad553.add ((x11_2).toNat * 2)) = some (.int .i64 ((rd_T55 t538 x11_2).f0)) ∧ w'.cell? ⟨(ad553.add ((x11_2).toNat * 2)).block, (ad553.add ((x11_2).toNat * 2)).off + 1, none⟩ = some (.int .i64 ((rd_T55 t538 x11_2).f1)) ∧ w'.cell? (ad546.add (x9_1).toNat) = some (.int .i64 (rd t542 x9_1)) ∧ w'.cell? (ad553.add ((x11_2).toNat * 2)) = some (.int .i64 ((rd_T55 t538 x11_2).f0)) ∧ w'.cell? ⟨(ad553.add ((x11_2).toNat * 2)).block, (ad553.add ((x11_2).toNat * 2)).off + 1, none⟩ = some (.int .i64 ((rd_T55 t538 x11_2).f1)) ∧ w'.cell? (ad546.add (x9_1).toNat) = some (.int .i64 (rd t542 x9_1)) ∧ w'.cell? (ad553.add ((x11_2).toNat * 2)) = some (.int .i64 ((rd_T55 t538 x11_2).f0)) ∧ w'.cell? ⟨(ad553.add ((x11_2).toNat * 2)).block, (ad553.add ((x11_2).toNat * 2)).off + 1, none⟩ = some (.int .i64 ((rd_T55 t538 x11_2).f1))) (ds := []) #[false, false, false, false, false, false, false, false, false, false, false, false, false, false, false, false, false, false, false, false, false, false, false, false, false, false, false, false, false, false, false, false, false, false, false, false, false, false] (by kernel_rfl) rfl rfl ⟨(blk_cell BK541.out 0).trans rfl, (blk_cell BK541.out 1).trans rfl, hx561_0, hx561_1, hx562_0, hx563_0, hx563_1, hx564_0, hx565_0, hx565_1⟩ (fun hHeld => ?_); refine with_tabW wireloomlaw05_DigraphReaches.tab20 wireloomlaw05_DigraphReaches.bits20 (fun HT_ HW_ => ?_)
                 generalize w72.drew = w73 at HO_8 HO_542001 BK534 BK535 BK541 HB hx561_0 hx561_1 hx562_0 hx563_0 hx563_1 hx564_0 hx565_0 hx565_1 hHeld ⊢
                 refine pV 0 84 (bz 38 0x1) HT_.out ?_
                 refine pV 1 85 (bz 38 0x3) HT_.out ?_
                 refine pV 2 86 (bz 38 0x7) HT_.out ?_
                 refine pV 4 88 (bz 38 0x17) HT_.out ?_
                 refine pV 8 92 (bz 38 0x117) HT_.out ?_
                 refine pV 9 93 (bz 38 0x317) HT_.out ?_
                 refine pV 10 94 (bz 38 0x717) HT_.out ?_
                 refine tV 3 87 (bz 38 0x71f) HT_.out HW_.out hHeld rfl rfl (by rintro w' ⟨s0, s1, s2, s3, s4, s5, s6, s7, s8, s9⟩; go_simp; with_reducible rfl) ?_
                 refine pV 5 89 (bz 38 0x73f) HT_.out ?_
                 refine pV 6 90 (bz 38 0x77f) HT_.out ?_
                 refine tV 7 91 (bz 38 0x7ff) HT_.out HW_.out hHeld rfl rfl (by rintro w' ⟨s0, s1, s2, s3, s4, s5, s6, s7, s8, s9⟩; go_simp; with_reducible rfl) ?_
                 refine tV 11 95 (bz 38 0xfff) HT_.out HW_.out hHeld rfl rfl (by rintro w' ⟨s0, s1, s2, s3, s4, s5, s6, s7, s8, s9⟩; go_simp; with_reducible rfl) ?_
                 refine pV 12 96 (bz 38 0x1fff) HT_.out ?_
                 refine pV 13 97 (bz 38 0x3fff) HT_.out ?_
                 refine pV 14 98 (bz 38 0x7fff) HT_.out ?_
                 refine pV 16 100 (bz 38 0x17fff) HT_.out ?_
                 refine pV 20 104 (bz 38 0x117fff) HT_.out ?_
                 refine pV 21 105 (bz 38 0x317fff) HT_.out ?_
                 refine pV 22 106 (bz 38 0x717fff) HT_.out ?_
                 refine tV 15 99 (bz 38 0x71ffff) HT_.out HW_.out hHeld rfl rfl (by rintro w' ⟨s0, s1, s2, s3, s4, s5, s6, s7, s8, s9⟩; go_simp; with_reducible rfl) ?_
                 refine pV 17 101 (bz 38 0x73ffff) HT_.out ?_
                 refine pV 18 102 (bz 38 0x77ffff) HT_.out ?_
                 refine tV 19 103 (bz 38 0x7fffff) HT_.out HW_.out hHeld rfl rfl (by rintro w' ⟨s0, s1, s2, s3, s4, s5, s6, s7, s8, s9⟩; go_simp; with_reducible rfl) ?_
                 refine tV 23 107 (bz 38 0xffffff) HT_.out HW_.out hHeld rfl rfl (by rintro w' ⟨s0, s1, s2, s3, s4, s5, s6, s7, s8, s9⟩; go_simp; with_reducible rfl) ?_
                 refine pV 24 108 (bz 38 0x1ffffff) HT_.out ?_
                 refine pV 25 109 (bz 38 0x3ffffff) HT_.out ?_
                 refine pV 26 110 (bz 38 0x7ffffff) HT_.out ?_
                 refine pV 27 111 (bz 38 0xfffffff) HT_.out ?_
                 refine pV 28 112 (bz 38 0x1fffffff) HT_.out ?_
                 refine pV 30 114 (bz 38 0x5fffffff) HT_.out ?_
                 refine tV 29 113 (bz 38 0x7fffffff) HT_.out HW_.out hHeld rfl rfl (by rintro w' ⟨s0, s1, s2, s3, s4, s5, s6, s7, s8, s9⟩; go_simp; with_reducible rfl) ?_
                 refine pV 31 115 (bz 38 0xffffffff) HT_.out ?_
                 refine pV 32 116 (bz 38 0x1ffffffff) HT_.out ?_
                 refine tV 33 117 (bz 38 0x3ffffffff) HT_.out HW_.out hHeld rfl rfl (by rintro w' ⟨s0, s1, s2, s3, s4, s5, s6, s7, s8, s9⟩; go_simp; with_reducible rfl) ?_
                 refine one_ (i := 34) (N := some 118) (bz 38 0x7ffffffff) rfl rfl (one_of HT_.out (by kernel_rfl)) (by decide) (fun K hK => ?_)
                 refine goes_ Try.func31 (by kernel_rfl) rfl #[.slice (some ad546) t542.length co34, .int .i64 ((rd_T55 t538 x11_2).f0)] (by rfl) rfl rfl (by (try simp only [List.map_toArray, List.map_cons, List.map_nil]); first | done | rfl | (simp only [List.length_drop, List.length_take]; rfl)) ?_
                 with_reducible refine (wireloomref05_In.calls k2 _ _ t542 ((rd_T55 t538 x11_2).f0) t566 _ ?side1 ?side2 A68.out).mono ?_
                 (case side1 => repeat (first | exact (Kd.R_reads' HO_8.out).2.2 | (with_reducible refine Kd.C_alloc ?_ _) | (with_reducible refine Kd.C_drewN ?_ _) | (with_reducible refine Kd.C_drew ?_)))
                 (case side2 => exact (Kd.R_reads' HO_8.out).2.1)
                 rintro e w' ⟨rfl, ⟨nd, rfl⟩⟩
                 refine ⟨_, rfl, ?_⟩
                 refine hK.out _ _ ⟨(blk_cell BK541.out 0).trans rfl, (blk_cell BK541.out 1).trans rfl, hHeld.2.2.1, hHeld.2.2.2.1, hHeld.2.2.2.2.1, hHeld.2.2.2.2.2.1, hHeld.2.2.2.2.2.2.1, hHeld.2.2.2.2.2.2.2.1, hHeld.2.2.2.2.2.2.2.2.1, hHeld.2.2.2.2.2.2.2.2.2⟩ (fun hHeld => ?_)
                 clear hK K
                 refine norm_ (a' := ?_) ?_ ?_
                 rotate_left
                 ·show Act.put _ (some 118) _ = _
                  simp only [Act.put, List.setIfInBounds_toArray, List.set_cons_zero, List.set_cons_succ, i64_w, i32_w]
                  rfl
                 refine pV 35 119 (bz 38 0xfffffffff) HT_.out ?_
                 refine pV 36 120 (bz 38 0x1fffffffff) HT_.out ?_
                 refine pV 37 10 (bz 38 0x3fffffffff) HT_.out ?_
                 refine done_ (done_of HT_.out (by kernel_rfl)) ?_
                 try go_wp2
                 go_roundg k2
                 case measure => have := HK1.out; have := HK2.out; omega
                 case rel => exact ⟨(t566), (wrap64 (x11_2 + 1)), (by first | rfl | (simp; done) | (simp [*]; done)), (by first | rfl | (simp; done) | (simp [*]; done)), H', ⟨by have := HK1.out; have := HK2.out; omega⟩, ⟨rA HO_8.out⟩, ⟨rA HO_542001.out⟩, ⟨bA BK534.out⟩, ⟨bA BK535.out⟩, ⟨bA BK541.out⟩, ⟨by repeat (first | (with_reducible first | exact HB.out | apply below_alloc | apply pw_below_drewN | apply below_drew1 | refine below_set ?_ GE534.out | refine below_set ?_ GE535.out | refine below_set ?_ GE541.out) | exact HB.out)⟩⟩
                ·rw [if_neg c67] at H
                 have c67b0 : (((rd_T55 t538 x11_2).f1) == (rd t542 x9_1)) = false := beq_eq_false_iff_ne.mpr c67
                 have c67b1 : (((rd_T55 t538 x11_2).f1) != (rd t542 x9_1)) = true := bne_iff_ne.mpr c67
                 have H' := Aside0.mk H
                 clear H
                 have hnb74 := NB541_534.out
                 have hnc74 := NB534_541.out
                 have hnb75 := NB541_535.out
                 have hnc75 := NB535_541.out
                 have hcz76_0 : wr.cell? ⟨gb541, 0, none⟩ = some (.int .i64 t537) := (blk_cell BK541.out 0).trans rfl
                 have hcz76_1 : wr.cell? ⟨gb541, 1, none⟩ = some (.slice Ao31 t538.length co31) := (blk_cell BK541.out 1).trans rfl
                 have hfz76_0 := blk_frozen BK541.out 0
                 have hfz76_1 := blk_frozen BK541.out 1
                 try go_wp2
                 have n0_ := Aside0.mk (Kd.R_drew HO_8.out)
                 have n1_ := Aside0.mk (Kd.R_drew HO_542001.out)
                 have n2_ := Aside0.mk (blk_drew BK534.out)
                 have n3_ := Aside0.mk (blk_drew BK535.out)
                 have n4_ := Aside0.mk (blk_drew BK541.out)
                 have n5_ := Aside0.mk (below_drew1 HB.out)
                 clear HO_8
                 clear HO_542001
                 clear BK534
                 clear BK535
                 clear BK541
                 clear HB
                 have HO_8 := n0_
                 have HO_542001 := n1_
                 have BK534 := n2_
                 have BK535 := n3_
                 have BK541 := n4_
                 have HB := n5_
                 clear n0_ n1_ n2_ n3_ n4_ n5_
                 have p553 : 0 ≤ (x11_2 : Int) := of_decide_eq_true (by first | (with_reducible assumption) | assumption)
                 have q553 : x11_2 < (t538.length : Int) := of_decide_eq_true (by first | (with_reducible assumption) | assumption)
                 obtain ⟨ad553, e553, hx553_0, hx553_1⟩ := at_T55 (Kd.R_reads' HO_542001.out).2.2 x11_2 p553 q553
                 cases e553
                 replace p553 := eq_true p553
                 replace q553 := eq_true q553
                 have p554 : 0 ≤ (x9_1 : Int) := of_decide_eq_true (by first | (with_reducible assumption) | assumption)
                 have q554 : x9_1 < (t542.length : Int) := of_decide_eq_true (by first | (with_reducible assumption) | assumption)
                 obtain ⟨ad554, e554, hx554_0⟩ := Kd.at_int (Kd.R_reads' HO_8.out).2.2 x9_1 p554 q554
                 obtain rfl : ad546 = ad554 := (by injection e554)
                 replace p554 := eq_true p554
                 replace q554 := eq_true q554
                 refine start_ (n := 22) (S := fun w' => w'.cell? ⟨gb541, 0, none⟩ = some (.int .i64 t537) ∧ w'.cell? ⟨gb541, 1, none⟩ = some (.slice (some ad553) t538.length co31) ∧ w'.cell? (ad553.add ((x11_2).toNat * 2)) = some (.int .i64 ((rd_T55 t538 x11_2).f0)) ∧ w'.cell? ⟨(ad553.add ((x11_2).toNat * 2)).block, (ad553.add ((x11_2).toNat * 2)).off + 1, none⟩ = some (.int .i64 ((rd_T55 t538 x11_2).f1)) ∧ w'.cell? (ad546.add (x9_1).toNat) = some (.int .i64 (rd t542 x9_1))) (ds := []) #[false, false, false, false, false, false, false, false, false, false, false, false, false, false, false, false, false, false, false, false, false, false] (by kernel_rfl) rfl rfl ⟨(blk_cell BK541.out 0).trans rfl, (blk_cell BK541.out 1).trans rfl, hx553_0, hx553_1, hx554_0⟩ (fun hHeld => ?_); refine with_tabW wireloomlaw05_DigraphReaches.tab18 wireloomlaw05_DigraphReaches.bits18 (fun HT_ HW_ => ?_)
                 generalize wr.drew = w77 at HO_8 HO_542001 BK534 BK535 BK541 HB hx553_0 hx553_1 hx554_0 hHeld ⊢
                 refine pV 0 62 (bz 22 0x1) HT_.out ?_
                 refine pV 2 64 (bz 22 0x5) HT_.out ?_
                 refine pV 6 68 (bz 22 0x45) HT_.out ?_
                 refine pV 7 69 (bz 22 0xc5) HT_.out ?_
                 refine pV 8 70 (bz 22 0x1c5) HT_.out ?_
                 refine tV 1 63 (bz 22 0x1c7) HT_.out HW_.out hHeld rfl rfl (by rintro w' ⟨s0, s1, s2, s3, s4⟩; go_simp; with_reducible rfl) ?_
                 refine pV 3 65 (bz 22 0x1cf) HT_.out ?_
                 refine pV 4 66 (bz 22 0x1df) HT_.out ?_
                 refine tV 5 67 (bz 22 0x1ff) HT_.out HW_.out hHeld rfl rfl (by rintro w' ⟨s0, s1, s2, s3, s4⟩; go_simp; with_reducible rfl) ?_
                 refine tV 9 71 (bz 22 0x3ff) HT_.out HW_.out hHeld rfl rfl (by rintro w' ⟨s0, s1, s2, s3, s4⟩; go_simp; with_reducible rfl) ?_
                 refine pV 10 72 (bz 22 0x7ff) HT_.out ?_
                 refine pV 11 73 (bz 22 0xfff) HT_.out ?_
                 refine pU 12 74 (bz 22 0x1fff) HT_.out ?_
                 refine pU 13 75 (bz 22 0x3fff) HT_.out ?_
                 refine pU 14 76 (bz 22 0x7fff) HT_.out ?_
                 refine pU 15 77 (bz 22 0xffff) HT_.out ?_
                 refine pU 16 78 (bz 22 0x1ffff) HT_.out ?_
                 refine pU 17 79 (bz 22 0x3ffff) HT_.out ?_
                 refine pU 18 80 (bz 22 0x7ffff) HT_.out ?_
                 refine pU 19 81 (bz 22 0xfffff) HT_.out ?_
                 refine pU 20 82 (bz 22 0x1fffff) HT_.out ?_
                 refine pV 21 83 (bz 22 0x3fffff) HT_.out ?_
                 refine done_ (done_of HT_.out (by kernel_rfl)) ?_
                 try go_wp2
                 have n0_ := Aside0.mk (Kd.R_drew HO_8.out)
                 have n1_ := Aside0.mk (Kd.R_drew HO_542001.out)
                 have n2_ := Aside0.mk (blk_drew BK534.out)
                 have n3_ := Aside0.mk (blk_drew BK535.out)
                 have n4_ := Aside0.mk (blk_drew BK541.out)
                 have n5_ := Aside0.mk (below_drew1 HB.out)
                 clear HO_8
                 clear HO_542001
                 clear BK534
                 clear BK535
                 clear BK541
                 clear HB
                 have HO_8 := n0_
                 have HO_542001 := n1_
                 have BK534 := n2_
                 have BK535 := n3_
                 have BK541 := n4_
                 have HB := n5_
                 clear n0_ n1_ n2_ n3_ n4_ n5_
                 have p561 : 0 ≤ (x11_2 : Int) := of_decide_eq_true (by first | (with_reducible assumption) | assumption)
                 have q561 : x11_2 < (t538.length : Int) := of_decide_eq_true (by first | (with_reducible assumption) | assumption)
                 obtain ⟨ad561, e561, hx561_0, hx561_1⟩ := at_T55 (Kd.R_reads' HO_542001.out).2.2 x11_2 p561 q561
                 obtain rfl : ad553 = ad561 := (by injection e561)
                 replace p561 := eq_true p561
                 replace q561 := eq_true q561
                 have p562 : 0 ≤ (x9_1 : Int) := of_decide_eq_true (by first | (with_reducible assumption) | assumption)
                 have q562 : x9_1 < (t542.length : Int) := of_decide_eq_true (by first | (with_reducible assumption) | assumption)
                 obtain ⟨ad562, e562, hx562_0⟩ := Kd.at_int (Kd.R_reads' HO_8.out).2.2 x9_1 p562 q562
                 obtain rfl : ad546 = ad562 := (by injection e562)
                 replace p562 := eq_true p562
                 replace q562 := eq_true q562
                 refine start_ (n := 38) (S := fun w' => w'.cell? ⟨gb541, 0, none⟩ = some (.int .i64 t537) ∧ w'.cell? ⟨gb541, 1, none⟩ = some (.slice (some ad553) t538.length co31) ∧ w'.cell? (ad553.add ((x11_2).toNat * 2)) = some (.int .i64 ((rd_T55 t538 x11_2).f0)) ∧ w'.cell? ⟨(ad553.add ((x11_2).toNat * 2)).block, (ad553.add ((x11_2).toNat * 2)).off + 1, none⟩ = some (.int .i64 ((rd_T55 t538 x11_2).f1)) ∧ w'.cell? (ad546.add (x9_1).toNat) = some (.int .i64 (rd t542 x9_1))) (ds := []) #[false, false, false, false, false, false, false, false, false, false, false, false, false, false, false, false, false, false, false, false, false, false, false, false, false, false, false, false, false, false, false, false, false, false, false, false, false, false] (by kernel_rfl) rfl rfl ⟨(blk_cell BK541.out 0).trans rfl, (blk_cell BK541.out 1).trans rfl, hx561_0, hx561_1, hx562_0⟩ (fun hHeld => ?_); refine with_tabW wireloomlaw05_DigraphReaches.tab20 wireloomlaw05_DigraphReaches.bits20 (fun HT_ HW_ => ?_)
                 generalize w77.drew = w78 at HO_8 HO_542001 BK534 BK535 BK541 HB hx561_0 hx561_1 hx562_0 hHeld ⊢
                 refine pV 0 84 (bz 38 0x1) HT_.out ?_
                 refine pV 1 85 (bz 38 0x3) HT_.out ?_
                 refine pV 2 86 (bz 38 0x7) HT_.out ?_
                 refine pV 4 88 (bz 38 0x17) HT_.out ?_
                 refine pV 8 92 (bz 38 0x117) HT_.out ?_
                 refine pV 9 93 (bz 38 0x317) HT_.out ?_
                 refine pV 10 94 (bz 38 0x717) HT_.out ?_
                 refine tV 3 87 (bz 38 0x71f) HT_.out HW_.out hHeld rfl rfl (by rintro w' ⟨s0, s1, s2, s3, s4⟩; go_simp; with_reducible rfl) ?_
                 refine pV 5 89 (bz 38 0x73f) HT_.out ?_
                 refine pV 6 90 (bz 38 0x77f) HT_.out ?_
                 refine tV 7 91 (bz 38 0x7ff) HT_.out HW_.out hHeld rfl rfl (by rintro w' ⟨s0, s1, s2, s3, s4⟩; go_simp; with_reducible rfl) ?_
                 refine tV 11 95 (bz 38 0xfff) HT_.out HW_.out hHeld rfl rfl (by rintro w' ⟨s0, s1, s2, s3, s4⟩; go_simp; with_reducible rfl) ?_
                 refine pV 12 96 (bz 38 0x1fff) HT_.out ?_
                 refine pV 13 97 (bz 38 0x3fff) HT_.out ?_
                 refine pU 14 98 (bz 38 0x7fff) HT_.out ?_
                 refine pU 15 99 (bz 38 0xffff) HT_.out ?_
                 refine pU 16 100 (bz 38 0x1ffff) HT_.out ?_
                 refine pU 17 101 (bz 38 0x3ffff) HT_.out ?_
                 refine pU 18 102 (bz 38 0x7ffff) HT_.out ?_
                 refine pU 19 103 (bz 38 0xfffff) HT_.out ?_
                 refine pU 20 104 (bz 38 0x1fffff) HT_.out ?_
                 refine pU 21 105 (bz 38 0x3fffff) HT_.out ?_
                 refine pU 22 106 (bz 38 0x7fffff) HT_.out ?_
                 refine pU 23 107 (bz 38 0xffffff) HT_.out ?_
                 refine pU 24 108 (bz 38 0x1ffffff) HT_.out ?_
                 refine pV 25 109 (bz 38 0x3ffffff) HT_.out ?_
                 refine pV 26 110 (bz 38 0x7ffffff) HT_.out ?_
                 refine pU 27 111 (bz 38 0xfffffff) HT_.out ?_
                 refine pU 28 112 (bz 38 0x1fffffff) HT_.out ?_
                 refine pU 29 113 (bz 38 0x3fffffff) HT_.out ?_
                 refine pU 30 114 (bz 38 0x7fffffff) HT_.out ?_
                 refine pU 31 115 (bz 38 0xffffffff) HT_.out ?_
                 refine pU 32 116 (bz 38 0x1ffffffff) HT_.out ?_
                 refine pU 33 117 (bz 38 0x3ffffffff) HT_.out ?_
                 refine pU 34 118 (bz 38 0x7ffffffff) HT_.out ?_
                 refine pV 35 119 (bz 38 0xfffffffff) HT_.out ?_
                 refine pV 36 120 (bz 38 0x1fffffffff) HT_.out ?_
                 refine pV 37 10 (bz 38 0x3fffffffff) HT_.out ?_
                 refine done_ (done_of HT_.out (by kernel_rfl)) ?_
                 try go_wp2
                 go_roundg k2
                 case measure => have := HK1.out; have := HK2.out; omega
                 case rel => exact ⟨(false), (wrap64 (x11_2 + 1)), (by first | rfl | (simp; done) | (simp [*]; done)), (by first | rfl | (simp; done) | (simp [*]; done)), H', ⟨by have := HK1.out; have := HK2.out; omega⟩, ⟨rA HO_8.out⟩, ⟨rA HO_542001.out⟩, ⟨bA BK534.out⟩, ⟨bA BK535.out⟩, ⟨bA BK541.out⟩, ⟨by repeat (first | (with_reducible first | exact HB.out | apply below_alloc | apply pw_below_drewN | apply below_drew1 | refine below_set ?_ GE534.out | refine below_set ?_ GE535.out | refine below_set ?_ GE541.out) | exact HB.out)⟩⟩
             ·rw [if_neg c40] at H
              exact absurd H (by simp)
            ·rw [if_neg c39] at H
             exact absurd H (by simp)
           ·rw [if_neg c38] at H
            exact absurd H (by simp)
          ·rw [if_neg c37] at H
           have c37b0 : decide (x11_2 < (t538.length : Int)) = false := decide_eq_false c37
           clear c37
           by_cases c79 : x10_2 = true
           ·subst c79
            have H1 : (if x9_1 > 0 then (if 0 ≤ (wrap64 (x9_1 - 1)) then (if (wrap64 (x9_1 - 1)) < (t542.length : Int) then (if 0 ≤ x9_1 then (if x9_1 < (t542.length : Int) then (if (rd t542 (wrap64 (x9_1 - 1))) ≥ (rd t542 x9_1) then (none) else (if (rd t542 x9_1) < 0 then (none) else (if (rd t542 x9_1) ≥ t537 then (none) else (wireloomlaw05_DigraphReaches.l0 k2 true (Int.tmod (wrap64 (a1_0)) t537) t542 (wrap64 (x9_1 + 1)) a1_0 a1_1 a1_2 t537 t538)))) else (none)) else (none)) else (none)) else (none)) else (if 0 ≤ x9_1 then (if x9_1 < (t542.length : Int) then (if (rd t542 x9_1) < 0 then (none) else (if (rd t542 x9_1) ≥ t537 then (none) else (wireloomlaw05_DigraphReaches.l0 k2 true (Int.tmod (wrap64 (a1_0)) t537) t542 (wrap64 (x9_1 + 1)) a1_0 a1_1 a1_2 t537 t538))) else (none)) else (none))) = some r := by rw [if_pos rfl] at H; exact H
            clear H
            have H := H1
            clear H1
            by_cases c80 : x9_1 > 0
            ·rw [if_pos c80] at H
             have c80b0 : decide (0 < x9_1) = true := decide_eq_true c80
             clear c80
             obtain ⟨ji81, hji81⟩ : ∃ j_ : Int, (wrap64 (x9_1 - 1)) = j_ := ⟨_, rfl⟩
             replace H : (if 0 ≤ (ji81) then (if (ji81) < (t542.length : Int) then (if 0 ≤ x9_1 then (if x9_1 < (t542.length : Int) then (if (rd t542 (ji81)) ≥ (rd t542 x9_1) then (none) else (if (rd t542 x9_1) < 0 then (none) else (if (rd t542 x9_1) ≥ t537 then (none) else (wireloomlaw05_DigraphReaches.l0 k2 true (Int.tmod (wrap64 (a1_0)) t537) t542 (wrap64 (x9_1 + 1)) a1_0 a1_1 a1_2 t537 t538)))) else (none)) else (none)) else (none)) else (none)) = some r := by first | (rw [hji81] at H; exact H) | (simp only [hji81] at H ⊢; exact H)
             have hji81w : (IntKind.i64.wrap (x9_1 - 1)) = ji81 := (i64_w _).trans hji81
             by_cases c82 : 0 ≤ (ji81)
             ·rw [if_pos c82] at H
              have c82b0 : decide (0 ≤ (ji81)) = true := decide_eq_true c82
              clear c82
              by_cases c83 : (ji81) < (t542.length : Int)
              ·rw [if_pos c83] at H
               have c83b0 : decide ((ji81) < (t542.length : Int)) = true := decide_eq_true c83
               clear c83
               by_cases c84 : 0 ≤ x9_1
               ·rw [if_pos c84] at H
                have c84b0 : decide (0 ≤ x9_1) = true := decide_eq_true c84
                clear c84
                by_cases c85 : x9_1 < (t542.length : Int)
                ·rw [if_pos c85] at H
                 have c85b0 : decide (x9_1 < (t542.length : Int)) = true := decide_eq_true c85
                 clear c85
                 by_cases c86 : (rd t542 (ji81)) ≥ (rd t542 x9_1)
                 ·rw [if_pos c86] at H
                  exact absurd H (by simp)
                 ·rw [if_neg c86] at H
                  have c86b0 : decide ((rd t542 x9_1) ≤ (rd t542 (ji81))) = false := decide_eq_false c86
                  clear c86
                  by_cases c87 : (rd t542 x9_1) < 0
                  ·rw [if_pos c87] at H
                   exact absurd H (by simp)
                  ·rw [if_neg c87] at H
                   have c87b0 : decide ((rd t542 x9_1) < 0) = false := decide_eq_false c87
                   clear c87
                   by_cases c88 : (rd t542 x9_1) ≥ t537
                   ·rw [if_pos c88] at H
                    exact absurd H (by simp)
                   ·rw [if_neg c88] at H
                    have c88b0 : decide (t537 ≤ (rd t542 x9_1)) = false := decide_eq_false c88
                    clear c88
                    have H' := Aside0.mk H
                    clear H
                    have hnb89 := NB541_534.out
                    have hnc89 := NB534_541.out
                    have hnb90 := NB541_535.out
                    have hnc90 := NB535_541.out
                    have hcz91_0 : wr.cell? ⟨gb541, 0, none⟩ = some (.int .i64 t537) := (blk_cell BK541.out 0).trans rfl
                    have hcz91_1 : wr.cell? ⟨gb541, 1, none⟩ = some (.slice Ao31 t538.length co31) := (blk_cell BK541.out 1).trans rfl
                    have hfz91_0 := blk_frozen BK541.out 0
                    have hfz91_1 := blk_frozen BK541.out 1
                    try go_wp2
                    have n0_ := Aside0.mk (Kd.R_drew HO_8.out)
                    have n1_ := Aside0.mk (Kd.R_drew HO_542001.out)
                    have n2_ := Aside0.mk (blk_drew BK534.out)
                    have n3_ := Aside0.mk (blk_drew BK535.out)
                    have n4_ := Aside0.mk (blk_drew BK541.out)
                    have n5_ := Aside0.mk (below_drew1 HB.out)
                    clear HO_8
                    clear HO_542001
                    clear BK534
                    clear BK535
                    clear BK541
                    clear HB
                    have HO_8 := n0_
                    have HO_542001 := n1_
                    have BK534 := n2_
                    have BK535 := n3_
                    have BK541 := n4_
                    have HB := n5_
                    clear n0_ n1_ n2_ n3_ n4_ n5_
                    have p547 : 0 ≤ ((ji81) : Int) := of_decide_eq_true (by first | (with_reducible assumption) | assumption)
                    have q547 : (ji81) < (t542.length : Int) := of_decide_eq_true (by first | (with_reducible assumption) | assumption)
                    obtain ⟨ad547, e547, hx547_0⟩ := Kd.at_int (Kd.R_reads' HO_8.out).2.2 (ji81) p547 q547
                    obtain rfl : ad546 = ad547 := (by injection e547)
                    replace p547 := eq_true p547
                    replace q547 := eq_true q547
                    have p548 : 0 ≤ (x9_1 : Int) := of_decide_eq_true (by first | (with_reducible assumption) | assumption)
                    have q548 : x9_1 < (t542.length : Int) := of_decide_eq_true (by first | (with_reducible assumption) | assumption)
                    obtain ⟨ad548, e548, hx548_0⟩ := Kd.at_int (Kd.R_reads' HO_8.out).2.2 x9_1 p548 q548
                    obtain rfl : ad546 = ad548 := (by injection e548)
                    replace p548 := eq_true p548
                    replace q548 := eq_true q548
                    have p549 : 0 ≤ (x9_1 : Int) := of_decide_eq_true (by first | (with_reducible assumption) | assumption)
                    have q549 : x9_1 < (t542.length : Int) := of_decide_eq_true (by first | (with_reducible assumption) | assumption)
                    obtain ⟨ad549, e549, hx549_0⟩ := Kd.at_int (Kd.R_reads' HO_8.out).2.2 x9_1 p549 q549
                    obtain rfl : ad546 = ad549 := (by injection e549)
                    replace p549 := eq_true p549
                    replace q549 := eq_true q549
                    have p550 : 0 ≤ (x9_1 : Int) := of_decide_eq_true (by first | (with_reducible assumption) | assumption)
                    have q550 : x9_1 < (t542.length : Int) := of_decide_eq_true (by first | (with_reducible assumption) | assumption)
                    obtain ⟨ad550, e550, hx550_0⟩ := Kd.at_int (Kd.R_reads' HO_8.out).2.2 x9_1 p550 q550
                    obtain rfl : ad546 = ad550 := (by injection e550)
                    replace p550 := eq_true p550
                    replace q550 := eq_true q550
                    refine start_ (n := 34) (S := fun w' => w'.cell? ⟨gb541, 0, none⟩ = some (.int .i64 t537) ∧ w'.cell? ⟨gb541, 1, none⟩ = some (.slice Ao31 t538.length co31) ∧ w'.cell? (ad546.add ((ji81)).toNat) = some (.int .i64 (rd t542 (ji81))) ∧ w'.cell? (ad546.add (x9_1).toNat) = some (.int .i64 (rd t542 x9_1)) ∧ w'.cell? (ad546.add (x9_1).toNat) = some (.int .i64 (rd t542 x9_1)) ∧ w'.cell? (ad546.add (x9_1).toNat) = some (.int .i64 (rd t542 x9_1))) (ds := []) #[false, false, false, false, false, false, false, false, false, false, false, false, false, false, false, false, false, false, false, false, false, false, false, false, false, false, false, false, false, false, false, false, false, false] (by kernel_rfl) rfl rfl ⟨(blk_cell BK541.out 0).trans rfl, (blk_cell BK541.out 1).trans rfl, hx547_0, hx548_0, hx549_0, hx550_0⟩ (fun hHeld => ?_); refine with_tabW wireloomlaw05_DigraphReaches.tab21 wireloomlaw05_DigraphReaches.bits21 (fun HT_ HW_ => ?_)
                    generalize wr.drew = w92 at HO_8 HO_542001 BK534 BK535 BK541 HB hx547_0 hx548_0 hx549_0 hx550_0 hHeld ⊢
                    refine pV 0 121 (bz 34 0x1) HT_.out ?_
                    refine pV 1 122 (bz 34 0x3) HT_.out ?_
                    refine pV 2 123 (bz 34 0x7) HT_.out ?_
                    refine pV 3 124 (bz 34 0xf) HT_.out ?_
                    refine pV 4 125 (bz 34 0x1f) HT_.out ?_
                    refine pV 5 126 (bz 34 0x3f) HT_.out ?_
                    refine pV 6 127 (bz 34 0x7f) HT_.out ?_
                    refine pV 7 128 (bz 34 0xff) HT_.out ?_
                    refine pV 8 129 (bz 34 0x1ff) HT_.out ?_
                    refine pV 9 130 (bz 34 0x3ff) HT_.out ?_
                    refine pV 11 132 (bz 34 0xbff) HT_.out ?_
                    refine pV 12 133 (bz 34 0x1bff) HT_.out ?_
                    refine pV 13 134 (bz 34 0x3bff) HT_.out ?_
                    refine tV 10 131 (bz 34 0x3fff) HT_.out HW_.out hHeld rfl rfl (by rintro w' ⟨s0, s1, s2, s3, s4, s5⟩; go_simp; with_reducible rfl) ?_
                    refine tV 14 135 (bz 34 0x7fff) HT_.out HW_.out hHeld rfl rfl (by rintro w' ⟨s0, s1, s2, s3, s4, s5⟩; go_simp; with_reducible rfl) ?_
                    refine pV 15 136 (bz 34 0xffff) HT_.out ?_
                    refine pV 16 137 (bz 34 0x1ffff) HT_.out ?_
                    refine pV 17 138 (bz 34 0x3ffff) HT_.out ?_
                    refine pV 18 139 (bz 34 0x7ffff) HT_.out ?_
                    refine pV 19 140 (bz 34 0xfffff) HT_.out ?_
                    refine pV 20 141 (bz 34 0x1fffff) HT_.out ?_
                    refine pV 21 142 (bz 34 0x3fffff) HT_.out ?_
                    refine tV 22 143 (bz 34 0x7fffff) HT_.out HW_.out hHeld rfl rfl (by rintro w' ⟨s0, s1, s2, s3, s4, s5⟩; go_simp; with_reducible rfl) ?_
                    refine pV 23 144 (bz 34 0xffffff) HT_.out ?_
                    refine pV 24 145 (bz 34 0x1ffffff) HT_.out ?_
                    refine pV 25 146 (bz 34 0x3ffffff) HT_.out ?_
                    refine pV 26 147 (bz 34 0x7ffffff) HT_.out ?_
                    refine pV 27 148 (bz 34 0xfffffff) HT_.out ?_
                    refine pV 28 149 (bz 34 0x1fffffff) HT_.out ?_
                    refine pV 30 151 (bz 34 0x5fffffff) HT_.out ?_
                    refine tV 29 150 (bz 34 0x7fffffff) HT_.out HW_.out hHeld rfl rfl (by rintro w' ⟨s0, s1, s2, s3, s4, s5⟩; go_simp; with_reducible rfl) ?_
                    refine tV 31 152 (bz 34 0xffffffff) HT_.out HW_.out hHeld rfl rfl (by rintro w' ⟨s0, s1, s2, s3, s4, s5⟩; go_simp; with_reducible rfl) ?_
                    refine pV 32 153 (bz 34 0x1ffffffff) HT_.out ?_
                    refine pV 33 154 (bz 34 0x3ffffffff) HT_.out ?_
                    refine done_ (done_of HT_.out (by kernel_rfl)) ?_
                    try go_wp2
                    go_roundg k2
                    case measure => have := HK1.out; have := HK2.out; omega
                    case rel => exact ⟨(wrap64 (x9_1 + 1)), (by first | rfl | (simp; done) | (simp [*]; done)), H', ⟨by have := HK1.out; have := HK2.out; omega⟩, ⟨rA HO_8.out⟩, ⟨rA HO_542001.out⟩, ⟨bA BK534.out⟩, ⟨bA BK535.out⟩, ⟨bA BK541.out⟩, ⟨by repeat (first | (with_reducible first | exact HB.out | apply below_alloc | apply pw_below_drewN | apply below_drew1 | refine below_set ?_ GE534.out | refine below_set ?_ GE535.out | refine below_set ?_ GE541.out) | exact HB.out)⟩⟩
                ·rw [if_neg c85] at H
                 exact absurd H (by simp)
               ·rw [if_neg c84] at H
                exact absurd H (by simp)
              ·rw [if_neg c83] at H
               exact absurd H (by simp)
             ·rw [if_neg c82] at H
              exact absurd H (by simp)
            ·rw [if_neg c80] at H
             have c80b0 : decide (0 < x9_1) = false := decide_eq_false c80
             clear c80
             by_cases c93 : 0 ≤ x9_1
             ·rw [if_pos c93] at H
              have c93b0 : decide (0 ≤ x9_1) = true := decide_eq_true c93
              clear c93
              by_cases c94 : x9_1 < (t542.length : Int)
              ·rw [if_pos c94] at H
               have c94b0 : decide (x9_1 < (t542.length : Int)) = true := decide_eq_true c94
               clear c94
               by_cases c95 : (rd t542 x9_1) < 0
               ·rw [if_pos c95] at H
                exact absurd H (by simp)
               ·rw [if_neg c95] at H
                have c95b0 : decide ((rd t542 x9_1) < 0) = false := decide_eq_false c95
                clear c95
                by_cases c96 : (rd t542 x9_1) ≥ t537
                ·rw [if_pos c96] at H
                 exact absurd H (by simp)
                ·rw [if_neg c96] at H
                 have c96b0 : decide (t537 ≤ (rd t542 x9_1)) = false := decide_eq_false c96
                 clear c96
                 have H' := Aside0.mk H
                 clear H
                 have hnb97 := NB541_534.out
                 have hnc97 := NB534_541.out
                 have hnb98 := NB541_535.out
                 have hnc98 := NB535_541.out
                 have hcz99_0 : wr.cell? ⟨gb541, 0, none⟩ = some (.int .i64 t537) := (blk_cell BK541.out 0).trans rfl
                 have hcz99_1 : wr.cell? ⟨gb541, 1, none⟩ = some (.slice Ao31 t538.length co31) := (blk_cell BK541.out 1).trans rfl
                 have hfz99_0 := blk_frozen BK541.out 0
                 have hfz99_1 := blk_frozen BK541.out 1
                 try go_wp2
                 have n0_ := Aside0.mk (Kd.R_drew HO_8.out)
                 have n1_ := Aside0.mk (Kd.R_drew HO_542001.out)
                 have n2_ := Aside0.mk (blk_drew BK534.out)
                 have n3_ := Aside0.mk (blk_drew BK535.out)
                 have n4_ := Aside0.mk (blk_drew BK541.out)
                 have n5_ := Aside0.mk (below_drew1 HB.out)
                 clear HO_8
                 clear HO_542001
                 clear BK534
                 clear BK535
                 clear BK541
                 clear HB
                 have HO_8 := n0_
                 have HO_542001 := n1_
                 have BK534 := n2_
                 have BK535 := n3_
                 have BK541 := n4_
                 have HB := n5_
                 clear n0_ n1_ n2_ n3_ n4_ n5_
                 have p551 : 0 ≤ (x9_1 : Int) := of_decide_eq_true (by first | (with_reducible assumption) | assumption)
                 have q551 : x9_1 < (t542.length : Int) := of_decide_eq_true (by first | (with_reducible assumption) | assumption)
                 obtain ⟨ad551, e551, hx551_0⟩ := Kd.at_int (Kd.R_reads' HO_8.out).2.2 x9_1 p551 q551
                 obtain rfl : ad546 = ad551 := (by injection e551)
                 replace p551 := eq_true p551
                 replace q551 := eq_true q551
                 have p552 : 0 ≤ (x9_1 : Int) := of_decide_eq_true (by first | (with_reducible assumption) | assumption)
                 have q552 : x9_1 < (t542.length : Int) := of_decide_eq_true (by first | (with_reducible assumption) | assumption)
                 obtain ⟨ad552, e552, hx552_0⟩ := Kd.at_int (Kd.R_reads' HO_8.out).2.2 x9_1 p552 q552
                 obtain rfl : ad546 = ad552 := (by injection e552)
                 replace p552 := eq_true p552
                 replace q552 := eq_true q552
                 refine start_ (n := 34) (S := fun w' => w'.cell? ⟨gb541, 0, none⟩ = some (.int .i64 t537) ∧ w'.cell? ⟨gb541, 1, none⟩ = some (.slice Ao31 t538.length co31) ∧ w'.cell? (ad546.add (x9_1).toNat) = some (.int .i64 (rd t542 x9_1)) ∧ w'.cell? (ad546.add (x9_1).toNat) = some (.int .i64 (rd t542 x9_1))) (ds := []) #[false, false, false, false, false, false, false, false, false, false, false, false, false, false, false, false, false, false, false, false, false, false, false, false, false, false, false, false, false, false, false, false, false, false] (by kernel_rfl) rfl rfl ⟨(blk_cell BK541.out 0).trans rfl, (blk_cell BK541.out 1).trans rfl, hx551_0, hx552_0⟩ (fun hHeld => ?_); refine with_tabW wireloomlaw05_DigraphReaches.tab21 wireloomlaw05_DigraphReaches.bits21 (fun HT_ HW_ => ?_)
                 generalize wr.drew = w100 at HO_8 HO_542001 BK534 BK535 BK541 HB hx551_0 hx552_0 hHeld ⊢
                 refine pV 0 121 (bz 34 0x1) HT_.out ?_
                 refine pV 1 122 (bz 34 0x3) HT_.out ?_
                 refine pV 2 123 (bz 34 0x7) HT_.out ?_
                 refine pV 3 124 (bz 34 0xf) HT_.out ?_
                 refine pV 4 125 (bz 34 0x1f) HT_.out ?_
                 refine pV 5 126 (bz 34 0x3f) HT_.out ?_
                 refine pU 6 127 (bz 34 0x7f) HT_.out ?_
                 refine pU 7 128 (bz 34 0xff) HT_.out ?_
                 refine pU 8 129 (bz 34 0x1ff) HT_.out ?_
                 refine pU 9 130 (bz 34 0x3ff) HT_.out ?_
                 refine pU 10 131 (bz 34 0x7ff) HT_.out ?_
                 refine pU 11 132 (bz 34 0xfff) HT_.out ?_
                 refine pU 12 133 (bz 34 0x1fff) HT_.out ?_
                 refine pU 13 134 (bz 34 0x3fff) HT_.out ?_
                 refine pU 14 135 (bz 34 0x7fff) HT_.out ?_
                 refine pU 15 136 (bz 34 0xffff) HT_.out ?_
                 refine pV 16 137 (bz 34 0x1ffff) HT_.out ?_
                 refine pV 17 138 (bz 34 0x3ffff) HT_.out ?_
                 refine pV 18 139 (bz 34 0x7ffff) HT_.out ?_
                 refine pV 19 140 (bz 34 0xfffff) HT_.out ?_
                 refine pV 20 141 (bz 34 0x1fffff) HT_.out ?_
                 refine pV 21 142 (bz 34 0x3fffff) HT_.out ?_
                 refine tV 22 143 (bz 34 0x7fffff) HT_.out HW_.out hHeld rfl rfl (by rintro w' ⟨s0, s1, s2, s3⟩; go_simp; with_reducible rfl) ?_
                 refine pV 23 144 (bz 34 0xffffff) HT_.out ?_
                 refine pV 24 145 (bz 34 0x1ffffff) HT_.out ?_
                 refine pV 25 146 (bz 34 0x3ffffff) HT_.out ?_
                 refine pV 26 147 (bz 34 0x7ffffff) HT_.out ?_
                 refine pV 27 148 (bz 34 0xfffffff) HT_.out ?_
                 refine pV 28 149 (bz 34 0x1fffffff) HT_.out ?_
                 refine pV 30 151 (bz 34 0x5fffffff) HT_.out ?_
                 refine tV 29 150 (bz 34 0x7fffffff) HT_.out HW_.out hHeld rfl rfl (by rintro w' ⟨s0, s1, s2, s3⟩; go_simp; with_reducible rfl) ?_
                 refine tV 31 152 (bz 34 0xffffffff) HT_.out HW_.out hHeld rfl rfl (by rintro w' ⟨s0, s1, s2, s3⟩; go_simp; with_reducible rfl) ?_
                 refine pV 32 153 (bz 34 0x1ffffffff) HT_.out ?_
                 refine pV 33 154 (bz 34 0x3ffffffff) HT_.out ?_
                 refine done_ (done_of HT_.out (by kernel_rfl)) ?_
                 try go_wp2
                 go_roundg k2
                 case measure => have := HK1.out; have := HK2.out; omega
                 case rel => exact ⟨(wrap64 (x9_1 + 1)), (by first | rfl | (simp; done) | (simp [*]; done)), H', ⟨by have := HK1.out; have := HK2.out; omega⟩, ⟨rA HO_8.out⟩, ⟨rA HO_542001.out⟩, ⟨bA BK534.out⟩, ⟨bA BK535.out⟩, ⟨bA BK541.out⟩, ⟨by repeat (first | (with_reducible first | exact HB.out | apply below_alloc | apply pw_below_drewN | apply below_drew1 | refine below_set ?_ GE534.out | refine below_set ?_ GE535.out | refine below_set ?_ GE541.out) | exact HB.out)⟩⟩
              ·rw [if_neg c94] at H
               exact absurd H (by simp)
             ·rw [if_neg c93] at H
              exact absurd H (by simp)
           ·replace c79 := Bool.eq_false_iff.mpr c79
            subst c79
            have H1 : (none) = some r := by rw [if_neg (show ¬ (false = true) by decide)] at H; exact H
            clear H
            have H := H1
            clear H1
            exact absurd H (by simp)
       ·rw [if_neg c36] at H
        exact absurd H (by simp)
      ·rw [if_neg c35] at H
       have c35b0 : decide (x9_1 < (t542.length : Int)) = false := decide_eq_false c35
       clear c35
       by_cases c101 : (t542.length : Int) = 0
       ·rw [if_pos c101] at H
        exact absurd H (by simp)
       ·rw [if_neg c101] at H
        have c101b0 : ((t542.length : Int) == 0) = false := beq_eq_false_iff_ne.mpr c101
        have c101b1 : ((t542.length : Int) != 0) = true := bne_iff_ne.mpr c101
        have c101b2 : ¬ (t542 = []) := fun h_ => c101 (by rw [h_]; rfl)
        obtain ⟨ji102, hji102⟩ : ∃ j_ : Int, (Int.tmod (wrap64 (a1_1)) (t542.length : Int)) = j_ := ⟨_, rfl⟩
        replace H : (if 0 ≤ (ji102) then (if (ji102) < (t542.length : Int) then ((digraph_Reach.f t537 t538 (rd t542 (ji102))).bind fun t568 => (if t537 = 0 then (none) else ((wireloomref05_With.f t537 t538 (Int.tmod (wrap64 (a1_1)) t537) (Int.tmod (wrap64 (a1_2)) t537)).bind fun bt571 => ((digraph_Reach.f bt571.1 bt571.2 (Int.tmod (wrap64 (a1_0)) t537)).bind fun t576 => (wireloomlaw05_DigraphReaches.l2 k1 true t542 t568 t576 0))))) else (none)) else (none)) = some r := by first | (rw [hji102] at H; exact H) | (simp only [hji102] at H ⊢; exact H)
        by_cases c103 : 0 ≤ (ji102)
        ·rw [if_pos c103] at H
         have c103b0 : decide (0 ≤ (ji102)) = true := decide_eq_true c103
         clear c103
         by_cases c104 : (ji102) < (t542.length : Int)
         ·rw [if_pos c104] at H
          have c104b0 : decide ((ji102) < (t542.length : Int)) = true := decide_eq_true c104
          clear c104
          replace H := Option.bind_eq_some_iff.mp H
          obtain ⟨t568, A1050, H⟩ := H
          replace H : (if t537 = 0 then (none) else ((wireloomref05_With.f t537 t538 (Int.tmod (wrap64 (a1_1)) t537) (Int.tmod (wrap64 (a1_2)) t537)).bind fun bt571 => ((digraph_Reach.f bt571.1 bt571.2 (Int.tmod (wrap64 (a1_0)) t537)).bind fun t576 => (wireloomlaw05_DigraphReaches.l2 k1 true t542 t568 t576 0)))) = some r := H
          have A105 := Aside0.mk A1050
          clear A1050
          by_cases c106 : t537 = 0
          ·rw [if_pos c106] at H
           exact absurd H (by simp)
          ·rw [if_neg c106] at H
           have c106b0 : (t537 == 0) = false := beq_eq_false_iff_ne.mpr c106
           have c106b1 : (t537 != 0) = true := bne_iff_ne.mpr c106
           replace H := Option.bind_eq_some_iff.mp H
           obtain ⟨⟨t571, t572⟩, A1070, H⟩ := H
           replace H : ((digraph_Reach.f t571 t572 (Int.tmod (wrap64 (a1_0)) t537)).bind fun t576 => (wireloomlaw05_DigraphReaches.l2 k1 true t542 t568 t576 0)) = some r := H
           have A107 := Aside0.mk A1070
           clear A1070
           replace H := Option.bind_eq_some_iff.mp H
           obtain ⟨t576, A1080, H⟩ := H
           replace H : (wireloomlaw05_DigraphReaches.l2 k1 true t542 t568 t576 0) = some r := H
           have A108 := Aside0.mk A1080
           clear A1080
           have H' := Aside0.mk H
           clear H
           have hnb109 := NB535_534.out
           have hnc109 := NB534_535.out
           have hnb110 := NB535_541.out
           have hnc110 := NB541_535.out
           have hcz111_0 : wr.cell? ⟨gb535, 0, none⟩ = some (.int .u8 a1_0) := (blk_cell BK535.out 0).trans rfl
           have hcz111_1 : wr.cell? ⟨gb535, 1, none⟩ = some (.int .u8 a1_1) := (blk_cell BK535.out 1).trans rfl
           have hcz111_2 : wr.cell? ⟨gb535, 2, none⟩ = some (.int .u8 a1_2) := (blk_cell BK535.out 2).trans rfl
           have hfz111_0 := blk_frozen BK535.out 0
           have hfz111_1 := blk_frozen BK535.out 1
           have hfz111_2 := blk_frozen BK535.out 2
           have p567 : 0 ≤ ((ji102) : Int) := of_decide_eq_true (by first | (with_reducible assumption) | assumption)
           have q567 : (ji102) < (t542.length : Int) := of_decide_eq_true (by first | (with_reducible assumption) | assumption)
           obtain ⟨ad567, e567, hx567_0⟩ := Kd.at_int (Kd.R_reads' HO_8.out).2.2 (ji102) p567 q567
           cases e567
           replace p567 := eq_true p567
           replace q567 := eq_true q567
           have hnb112 := NB541_534.out
           have hnc112 := NB534_541.out
           have hcz113_0 : wr.cell? ⟨gb541, 0, none⟩ = some (.int .i64 t537) := (blk_cell BK541.out 0).trans rfl
           have hcz113_1 : wr.cell? ⟨gb541, 1, none⟩ = some (.slice Ao31 t538.length co31) := (blk_cell BK541.out 1).trans rfl
           have hfz113_0 := blk_frozen BK541.out 0
           have hfz113_1 := blk_frozen BK541.out 1
           try go_wp2_with (first | ((with_reducible refine gate_callee (f := 24) rfl ?_); refine goesL_ (some 169) rfl rfl Try.func24 (by kernel_rfl) rfl #[.int .i64 t537, .slice Ao31 t538.length co31, .int .i64 (rd t542 (ji102))] rfl (by (try simp only [List.map_toArray, List.map_cons, List.map_nil]); first | done | (simp only [hji102]; rfl) | rfl | (simp only [List.length_drop, List.length_take]; rfl)) ?_; (with_reducible refine (digraph_Reach.calls t537 _ _ t538 (rd t542 (ji102)) t568 _ ?side1 ?side2 A105.out).mono ?_); (case side1 => repeat (first | exact (Kd.R_reads' HO_542001.out).2.2 | (with_reducible refine Kd.C_alloc ?_ _) | (with_reducible refine Kd.C_drewN ?_ _) | (with_reducible refine Kd.C_drew ?_))); (case side2 => exact (Kd.R_reads' HO_542001.out).2.1); rintro e w114 ⟨v569, rfl, ho0, hb⟩; refine ⟨_, rfl, ?_⟩; have n0_ := Aside0.mk (Kd.R_elder' (rA HO_8.out) (Kd.R_base ho0) hb); have n1_ := Aside0.mk (Kd.R_below (rA HO_542001.out) hb); have n2_ := Aside0.mk (Kd.R_lower (Kd.R_new' ho0 (Kd.R_lt (rA HO_8.out))) (below_size (by repeat (first | (with_reducible first | exact HB.out | apply below_alloc | apply pw_below_drewN | apply below_drew1 | refine below_set ?_ GE534.out | refine below_set ?_ GE535.out | refine below_set ?_ GE541.out) | exact HB.out)))); have n3_ := Aside0.mk (blk_below (g := gb534) (o := .cells #[.int .u8 a0_0, .int .u8 a0_1, .slice A0_2 l0_2.length c0_2] 24 (0, 0)) (bA BK534.out) hb); have n4_ := Aside0.mk (blk_below (g := gb535) (o := .cells #[.int .u8 a1_0, .int .u8 a1_1, .int .u8 a1_2] 52 (0, 0)) (bA BK535.out) hb); have n5_ := Aside0.mk (blk_below (g := gb541) (o := .cells #[.int .i64 t537, .slice Ao31 t538.length co31] 31 (0, 0)) (bA BK541.out) hb); have n6_ := Aside0.mk (below_step (by repeat (first | (with_reducible first | exact HB.out | apply below_alloc | apply pw_below_drewN | apply below_drew1 | refine below_set ?_ GE534.out | refine below_set ?_ GE535.out | refine below_set ?_ GE541.out) | exact HB.out)) hb); clear HO_8; clear HO_542001; clear BK534; clear BK535; clear BK541; clear HB; have HO_8 := n0_; have HO_542001 := n1_; have HO570 := n2_; have BK534 := n3_; have BK535 := n4_; have BK541 := n5_; have HB := n6_; clear n0_ n1_ n2_ n3_ n4_ n5_ n6_; (try clear hb); (try clear hb2); (try clear hk); (try clear hi); (try clear ho0)))
           have n0_ := Aside0.mk (Kd.R_drew HO_8.out)
           have n1_ := Aside0.mk (Kd.R_drew HO_542001.out)
           have n2_ := Aside0.mk (Kd.R_drew HO570.out)
           have n3_ := Aside0.mk (blk_drew BK534.out)
           have n4_ := Aside0.mk (blk_drew BK535.out)
           have n5_ := Aside0.mk (blk_drew BK541.out)
           have n6_ := Aside0.mk (below_drew1 HB.out)
           clear HO_8
           clear HO_542001
           clear HO570
           clear BK534
           clear BK535
           clear BK541
           clear HB
           have HO_8 := n0_
           have HO_542001 := n1_
           have HO570 := n2_
           have BK534 := n3_
           have BK535 := n4_
           have BK541 := n5_
           have HB := n6_
           clear n0_ n1_ n2_ n3_ n4_ n5_ n6_
           refine start_ (n := 16) (S := fun w' => w'.cell? ⟨gb541, 0, none⟩ = some (.int .i64 t537) ∧ w'.cell? ⟨gb541, 1, none⟩ = some (.slice Ao31 t538.length co31) ∧ w'.cell? ⟨gb535, 0, none⟩ = some (.int .u8 a1_0) ∧ w'.cell? ⟨gb535, 1, none⟩ = some (.int .u8 a1_1) ∧ w'.cell? ⟨gb535, 2, none⟩ = some (.int .u8 a1_2)) (ds := []) #[false, false, false, false, false, false, false, false, false, false, false, false, false, false, false, false] (by kernel_rfl) rfl rfl ⟨(blk_cell BK541.out 0).trans rfl, (blk_cell BK541.out 1).trans rfl, (blk_cell BK535.out 0).trans rfl, (blk_cell BK535.out 1).trans rfl, (blk_cell BK535.out 2).trans rfl⟩ (fun hHeld => ?_); refine with_tabW wireloomlaw05_DigraphReaches.tab25 wireloomlaw05_DigraphReaches.bits25 (fun HT_ HW_ => ?_)
           generalize w114.drew = w115 at HO_8 HO_542001 HO570 BK534 BK535 BK541 HB hHeld ⊢
           refine pV 1 171 (bz 16 0x2) HT_.out ?_
           refine pV 4 174 (bz 16 0x12) HT_.out ?_
           refine pV 7 177 (bz 16 0x92) HT_.out ?_
           refine pV 10 180 (bz 16 0x492) HT_.out ?_
           refine tV 0 170 (bz 16 0x493) HT_.out HW_.out hHeld rfl rfl (by rintro w' ⟨s0, s1, s2, s3, s4⟩; go_simp; with_reducible rfl) ?_
           refine tV 2 172 (bz 16 0x497) HT_.out HW_.out hHeld rfl rfl (by rintro w' ⟨s0, s1, s2, s3, s4⟩; go_simp; with_reducible rfl) ?_
           refine pV 3 173 (bz 16 0x49f) HT_.out ?_
           refine tV 5 175 (bz 16 0x4bf) HT_.out HW_.out hHeld rfl rfl (by rintro w' ⟨s0, s1, s2, s3, s4⟩; go_simp; with_reducible rfl) ?_
           refine pV 6 176 (bz 16 0x4ff) HT_.out ?_
           refine tV 8 178 (bz 16 0x5ff) HT_.out HW_.out hHeld rfl rfl (by rintro w' ⟨s0, s1, s2, s3, s4⟩; go_simp; with_reducible rfl) ?_
           refine pV 9 179 (bz 16 0x7ff) HT_.out ?_
           refine tV 11 181 (bz 16 0xfff) HT_.out HW_.out hHeld rfl rfl (by rintro w' ⟨s0, s1, s2, s3, s4⟩; go_simp; with_reducible rfl) ?_
           refine pV 12 182 (bz 16 0x1fff) HT_.out ?_
           refine join_ (σ := Value × Nat) 1 #[true, true, true, true, true, true, true, true, true, true, true, true, true, true, true, false] (fun s_ => [(183, .agg #[.int .i64 t571, s_.1]), (14, .pointer (some ⟨s_.2, 0, none⟩))]) (fun s_ w' => (w'.cell? ⟨gb541, 0, none⟩ = some (.int .i64 t537) ∧ w'.cell? ⟨gb541, 1, none⟩ = some (.slice Ao31 t538.length co31) ∧ w'.cell? ⟨gb535, 0, none⟩ = some (.int .u8 a1_0) ∧ w'.cell? ⟨gb535, 1, none⟩ = some (.int .u8 a1_1) ∧ w'.cell? ⟨gb535, 2, none⟩ = some (.int .u8 a1_2)) ∧ (Kd.R (Kd.int .i64) 3 w' w.heap.size (fun k_ => some k_ ≠ (.slice (some ad567) t542.length co34 : Value).ownBlock) v569 t568) ∧ (Kd.R k55 55 w' w.heap.size (fun k_ => some k_ ≠ (.slice Ao31 t538.length co31 : Value).ownBlock) s_.1 t572) ∧ (Kd.R k55 55 w' w.heap.size (fun k_ => some k_ ≠ (s_.1 : Value).ownBlock) (.slice Ao31 t538.length co31) t538) ∧ (Kd.R (Kd.int .i64) 3 w' w.heap.size (fun k_ => some k_ ≠ (v569 : Value).ownBlock) (.slice (some ad567) t542.length co34) t542) ∧ (w'.heap[gb534]? = some (.cells #[.int .u8 a0_0, .int .u8 a0_1, .slice A0_2 l0_2.length c0_2] 24 (0, 0))) ∧ (w'.heap[gb535]? = some (.cells #[.int .u8 a1_0, .int .u8 a1_1, .int .u8 a1_2] 52 (0, 0))) ∧ (w'.heap[gb541]? = some (.cells #[.int .i64 t537, .slice Ao31 t538.length co31] 31 (0, 0))) ∧ (w'.heap[s_.2]? = some (.cells #[.int .i64 0, .slice none 0 0] 31 (0, 0))) ∧ (w.heap.size ≤ s_.2) ∧ (w.heap.size ≤ s_.2) ∧ (gb534 ≠ s_.2) ∧ (s_.2 ≠ gb534) ∧ (gb535 ≠ s_.2) ∧ (s_.2 ≠ gb535) ∧ (gb541 ≠ s_.2) ∧ (s_.2 ≠ gb541) ∧ (Below w.heap.size w w')) ?_ ?_
           rotate_left
           ·intro hCont
            refine two_ (i := 13) (j := 14) (Ni := some 183) (Nj := some 14) #[true, true, true, true, true, true, true, true, true, true, true, true, true, true, false, false] #[true, true, true, true, true, true, true, true, true, true, true, true, true, false, true, false] rfl rfl rfl rfl (two_of HT_.out (by kernel_rfl)) (by decide) (by decide) (fun K hK => ?_) (fun K hK => ?_)
            ·skip
             refine goes_ Try.func32 (by kernel_rfl) rfl #[.agg #[.int .i64 t537, .slice Ao31 t538.length co31], .int .i64 (Int.tmod (wrap64 (a1_1)) t537), .int .i64 (Int.tmod (wrap64 (a1_2)) t537)] (by rfl) rfl rfl (by (try simp only [List.map_toArray, List.map_cons, List.map_nil]); first | done | rfl | (simp only [List.length_drop, List.length_take]; rfl)) ?_
             with_reducible refine (wireloomref05_With.calls t537 _ _ t538 (Int.tmod (wrap64 (a1_1)) t537) (Int.tmod (wrap64 (a1_2)) t537) t571 t572 _ ?side1 ?side2 A107.out).mono ?_
             (case side1 => repeat (first | exact (Kd.R_reads' HO_542001.out).2.2 | (with_reducible refine Kd.C_alloc ?_ _) | (with_reducible refine Kd.C_drewN ?_ _) | (with_reducible refine Kd.C_drew ?_)))
             (case side2 => exact (Kd.R_reads' HO_542001.out).2.1)
             rintro e w116 ⟨v573, rfl, ho0, hb⟩
             refine ⟨_, rfl, ?_⟩
             have n0_ := Aside0.mk (Kd.R_below (rA HO_8.out) hb)
             have n1_ := Aside0.mk (Kd.R_elder' (rA HO_542001.out) (Kd.R_base ho0) hb)
             have n2_ := Aside0.mk (Kd.R_below (rA HO570.out) hb)
             have n3_ := Aside0.mk (Kd.R_lower (Kd.R_new' ho0 (Kd.R_lt (rA HO_542001.out))) (below_size (by repeat (first | (with_reducible first | exact HB.out | apply below_alloc | apply pw_below_drewN | apply below_drew1 | refine below_set ?_ GE534.out | refine below_set ?_ GE535.out | refine below_set ?_ GE541.out) | exact HB.out))))
             have n4_ := Aside0.mk (blk_below (g := gb534) (o := .cells #[.int .u8 a0_0, .int .u8 a0_1, .slice A0_2 l0_2.length c0_2] 24 (0, 0)) (bA BK534.out) hb)
             have n5_ := Aside0.mk (blk_below (g := gb535) (o := .cells #[.int .u8 a1_0, .int .u8 a1_1, .int .u8 a1_2] 52 (0, 0)) (bA BK535.out) hb)
             have n6_ := Aside0.mk (blk_below (g := gb541) (o := .cells #[.int .i64 t537, .slice Ao31 t538.length co31] 31 (0, 0)) (bA BK541.out) hb)
             have n7_ := Aside0.mk (below_step (by repeat (first | (with_reducible first | exact HB.out | apply below_alloc | apply pw_below_drewN | apply below_drew1 | refine below_set ?_ GE534.out | refine below_set ?_ GE535.out | refine below_set ?_ GE541.out) | exact HB.out)) hb)
             clear HO_8
             clear HO_542001
             clear HO570
             clear BK534
             clear BK535
             clear BK541
             clear HB
             have HO_8 := n0_
             have HO_542001 := n1_
             have HO570 := n2_
             have HO574 := n3_
             have BK534 := n4_
             have BK535 := n5_
             have BK541 := n6_
             have HB := n7_
             clear n0_ n1_ n2_ n3_ n4_ n5_ n6_ n7_
             (try clear hb)
             (try clear hb2)
             (try clear hk)
             (try clear hi)
             (try clear ho0)
             refine hK.out _ _ ⟨(blk_cell BK541.out 0).trans rfl, (blk_cell BK541.out 1).trans rfl, (blk_cell BK535.out 0).trans rfl, (blk_cell BK535.out 1).trans rfl, (blk_cell BK535.out 2).trans rfl⟩ (fun hHeld => ?_)
             clear hK K
             refine norm_ (a' := ?_) ?_ ?_
             rotate_left
             ·show Act.put _ (some 183) _ = _
              simp only [Act.put, List.setIfInBounds_toArray, List.set_cons_zero, List.set_cons_succ, i64_w, i32_w]
              rfl
             refine one_ (i := 14) (N := some 14) (bz 16 0x7fff) rfl rfl (one_of HT_.out (by kernel_rfl)) (by decide) (fun K hK => ?_)
             refine box_step ?hg (N := 14) ?hd (cs := #[.int .i64 0, .slice none 0 0]) (t := 31) ?hr ?_; (case hd => rfl); (case hg => rfl); (case hr => first | (go_simp; done) | (go_simp; rfl))
             intro gb575 hg w117 hbox hb
             have n0_ := Aside0.mk (Kd.R_below (rA HO_8.out) hb)
             have n1_ := Aside0.mk (Kd.R_below (rA HO_542001.out) hb)
             have n2_ := Aside0.mk (Kd.R_below (rA HO570.out) hb)
             have n3_ := Aside0.mk (Kd.R_below (rA HO574.out) hb)
             have n4_ := Aside0.mk (blk_below (g := gb534) (o := .cells #[.int .u8 a0_0, .int .u8 a0_1, .slice A0_2 l0_2.length c0_2] 24 (0, 0)) (bA BK534.out) hb)
             have n5_ := Aside0.mk (blk_below (g := gb535) (o := .cells #[.int .u8 a1_0, .int .u8 a1_1, .int .u8 a1_2] 52 (0, 0)) (bA BK535.out) hb)
             have n6_ := Aside0.mk (blk_below (g := gb541) (o := .cells #[.int .i64 t537, .slice Ao31 t538.length co31] 31 (0, 0)) (bA BK541.out) hb)
             have n7_ := Aside0.mk (below_step (by repeat (first | (with_reducible first | exact HB.out | apply below_alloc | apply pw_below_drewN | apply below_drew1 | refine below_set ?_ GE534.out | refine below_set ?_ GE535.out | refine below_set ?_ GE541.out) | exact HB.out)) hb)
             have n8_ := Aside0.mk (hbox)
             have n9_ := Aside0.mk ((by rw [hg]; exact (below_size (by repeat (first | (with_reducible first | exact HB.out | apply below_alloc | apply pw_below_drewN | apply below_drew1 | refine below_set ?_ GE534.out | refine below_set ?_ GE535.out | refine below_set ?_ GE541.out) | exact HB.out))) : w.heap.size ≤ gb575))
             have n10_ := Aside0.mk ((by rw [hg]; exact (below_size (by repeat (first | (with_reducible first | exact HB.out | apply below_alloc | apply pw_below_drewN | apply below_drew1 | refine below_set ?_ GE534.out | refine below_set ?_ GE535.out | refine below_set ?_ GE541.out) | exact HB.out))) : w.heap.size ≤ gb575))
             have n11_ := Aside0.mk ((by rw [hg]; exact Nat.ne_of_lt (blk_lt (g := gb534) (o := .cells #[.int .u8 a0_0, .int .u8 a0_1, .slice A0_2 l0_2.length c0_2] 24 (0, 0)) (bA BK534.out)) : gb534 ≠ gb575))
             have n12_ := Aside0.mk ((by rw [hg]; exact Nat.ne_of_gt (blk_lt (g := gb534) (o := .cells #[.int .u8 a0_0, .int .u8 a0_1, .slice A0_2 l0_2.length c0_2] 24 (0, 0)) (bA BK534.out)) : gb575 ≠ gb534))
             have n13_ := Aside0.mk ((by rw [hg]; exact Nat.ne_of_lt (blk_lt (g := gb535) (o := .cells #[.int .u8 a1_0, .int .u8 a1_1, .int .u8 a1_2] 52 (0, 0)) (bA BK535.out)) : gb535 ≠ gb575))
             have n14_ := Aside0.mk ((by rw [hg]; exact Nat.ne_of_gt (blk_lt (g := gb535) (o := .cells #[.int .u8 a1_0, .int .u8 a1_1, .int .u8 a1_2] 52 (0, 0)) (bA BK535.out)) : gb575 ≠ gb535))
             have n15_ := Aside0.mk ((by rw [hg]; exact Nat.ne_of_lt (blk_lt (g := gb541) (o := .cells #[.int .i64 t537, .slice Ao31 t538.length co31] 31 (0, 0)) (bA BK541.out)) : gb541 ≠ gb575))
             have n16_ := Aside0.mk ((by rw [hg]; exact Nat.ne_of_gt (blk_lt (g := gb541) (o := .cells #[.int .i64 t537, .slice Ao31 t538.length co31] 31 (0, 0)) (bA BK541.out)) : gb575 ≠ gb541))
             clear HO_8
             clear HO_542001
             clear HO570
             clear HO574
             clear BK534
             clear BK535
             clear BK541
             clear HB
             have HO_8 := n0_
             have HO_542001 := n1_
             have HO570 := n2_
             have HO574 := n3_
             have BK534 := n4_
             have BK535 := n5_
             have BK541 := n6_
             have HB := n7_
             have BK575 := n8_
             have GW575 := n9_
             have GE575 := n10_
             have NB534_575 := n11_
             have NB575_534 := n12_
             have NB535_575 := n13_
             have NB575_535 := n14_
             have NB541_575 := n15_
             have NB575_541 := n16_
             clear n0_ n1_ n2_ n3_ n4_ n5_ n6_ n7_ n8_ n9_ n10_ n11_ n12_ n13_ n14_ n15_ n16_
             clear hb hbox hg
             refine hK.out _ _ ⟨(blk_cell BK541.out 0).trans rfl, (blk_cell BK541.out 1).trans rfl, (blk_cell BK535.out 0).trans rfl, (blk_cell BK535.out 1).trans rfl, (blk_cell BK535.out 2).trans rfl⟩ (fun hHeld => ?_)
             clear hK K
             refine norm_ (a' := ?_) ?_ ?_
             rotate_left
             ·show Act.put _ (some 14) _ = _
              simp only [Act.put, List.setIfInBounds_toArray, List.set_cons_zero, List.set_cons_succ, i64_w, i32_w]
              rfl
             exact norm_ (by simp only [putAll, Act.put, List.setIfInBounds_toArray, List.set_cons_zero, List.set_cons_succ]) (hCont (v573, gb575) _ ⟨hHeld, (by (with_reducible repeat (first | apply Kd.R_alloc | apply Kd.R_drewN | apply Kd.R_drew)); exact Kd.R_mono HO570.out (fun _ hk => hk.2)), (by (with_reducible repeat (first | apply Kd.R_alloc | apply Kd.R_drewN | apply Kd.R_drew)); exact Kd.R_mono HO574.out (fun _ hk => hk.2)), (by (with_reducible repeat (first | apply Kd.R_alloc | apply Kd.R_drewN | apply Kd.R_drew)); exact Kd.R_mono HO_542001.out (fun _ hk => hk.2)), (by (with_reducible repeat (first | apply Kd.R_alloc | apply Kd.R_drewN | apply Kd.R_drew)); exact Kd.R_mono HO_8.out (fun _ hk => hk.2)), (bA BK534.out), (bA BK535.out), (bA BK541.out), (bA BK575.out), GW575.out, GE575.out, NB534_575.out, NB575_534.out, NB535_575.out, NB575_535.out, NB541_575.out, NB575_541.out, (by repeat (first | (with_reducible first | exact HB.out | apply below_alloc | apply pw_below_drewN | apply below_drew1 | refine below_set ?_ GE534.out | refine below_set ?_ GE535.out | refine below_set ?_ GE541.out | refine below_set ?_ GE575.out) | exact HB.out))⟩)
            ·skip
             refine box_step ?hg (N := 14) ?hd (cs := #[.int .i64 0, .slice none 0 0]) (t := 31) ?hr ?_; (case hd => rfl); (case hg => rfl); (case hr => first | (go_simp; done) | (go_simp; rfl))
             intro gb575 hg w116 hbox hb
             have n0_ := Aside0.mk (Kd.R_below (rA HO_8.out) hb)
             have n1_ := Aside0.mk (Kd.R_below (rA HO_542001.out) hb)
             have n2_ := Aside0.mk (Kd.R_below (rA HO570.out) hb)
             have n3_ := Aside0.mk (blk_below (g := gb534) (o := .cells #[.int .u8 a0_0, .int .u8 a0_1, .slice A0_2 l0_2.length c0_2] 24 (0, 0)) (bA BK534.out) hb)
             have n4_ := Aside0.mk (blk_below (g := gb535) (o := .cells #[.int .u8 a1_0, .int .u8 a1_1, .int .u8 a1_2] 52 (0, 0)) (bA BK535.out) hb)
             have n5_ := Aside0.mk (blk_below (g := gb541) (o := .cells #[.int .i64 t537, .slice Ao31 t538.length co31] 31 (0, 0)) (bA BK541.out) hb)
             have n6_ := Aside0.mk (below_step (by repeat (first | (with_reducible first | exact HB.out | apply below_alloc | apply pw_below_drewN | apply below_drew1 | refine below_set ?_ GE534.out | refine below_set ?_ GE535.out | refine below_set ?_ GE541.out) | exact HB.out)) hb)
             have n7_ := Aside0.mk (hbox)
             have n8_ := Aside0.mk ((by rw [hg]; exact (below_size (by repeat (first | (with_reducible first | exact HB.out | apply below_alloc | apply pw_below_drewN | apply below_drew1 | refine below_set ?_ GE534.out | refine below_set ?_ GE535.out | refine below_set ?_ GE541.out) | exact HB.out))) : w.heap.size ≤ gb575))
             have n9_ := Aside0.mk ((by rw [hg]; exact (below_size (by repeat (first | (with_reducible first | exact HB.out | apply below_alloc | apply pw_below_drewN | apply below_drew1 | refine below_set ?_ GE534.out | refine below_set ?_ GE535.out | refine below_set ?_ GE541.out) | exact HB.out))) : w.heap.size ≤ gb575))
             have n10_ := Aside0.mk ((by rw [hg]; exact Nat.ne_of_lt (blk_lt (g := gb534) (o := .cells #[.int .u8 a0_0, .int .u8 a0_1, .slice A0_2 l0_2.length c0_2] 24 (0, 0)) (bA BK534.out)) : gb534 ≠ gb575))
             have n11_ := Aside0.mk ((by rw [hg]; exact Nat.ne_of_gt (blk_lt (g := gb534) (o := .cells #[.int .u8 a0_0, .int .u8 a0_1, .slice A0_2 l0_2.length c0_2] 24 (0, 0)) (bA BK534.out)) : gb575 ≠ gb534))
             have n12_ := Aside0.mk ((by rw [hg]; exact Nat.ne_of_lt (blk_lt (g := gb535) (o := .cells #[.int .u8 a1_0, .int .u8 a1_1, .int .u8 a1_2] 52 (0, 0)) (bA BK535.out)) : gb535 ≠ gb575))
             have n13_ := Aside0.mk ((by rw [hg]; exact Nat.ne_of_gt (blk_lt (g := gb535) (o := .cells #[.int .u8 a1_0, .int .u8 a1_1, .int .u8 a1_2] 52 (0, 0)) (bA BK535.out)) : gb575 ≠ gb535))
             have n14_ := Aside0.mk ((by rw [hg]; exact Nat.ne_of_lt (blk_lt (g := gb541) (o := .cells #[.int .i64 t537, .slice Ao31 t538.length co31] 31 (0, 0)) (bA BK541.out)) : gb541 ≠ gb575))
             have n15_ := Aside0.mk ((by rw [hg]; exact Nat.ne_of_gt (blk_lt (g := gb541) (o := .cells #[.int .i64 t537, .slice Ao31 t538.length co31] 31 (0, 0)) (bA BK541.out)) : gb575 ≠ gb541))
             clear HO_8
             clear HO_542001
             clear HO570
             clear BK534
             clear BK535
             clear BK541
             clear HB
             have HO_8 := n0_
             have HO_542001 := n1_
             have HO570 := n2_
             have BK534 := n3_
             have BK535 := n4_
             have BK541 := n5_
             have HB := n6_
             have BK575 := n7_
             have GW575 := n8_
             have GE575 := n9_
             have NB534_575 := n10_
             have NB575_534 := n11_
             have NB535_575 := n12_
             have NB575_535 := n13_
             have NB541_575 := n14_
             have NB575_541 := n15_
             clear n0_ n1_ n2_ n3_ n4_ n5_ n6_ n7_ n8_ n9_ n10_ n11_ n12_ n13_ n14_ n15_
             clear hb hbox hg
             refine hK.out _ _ ⟨(blk_cell BK541.out 0).trans rfl, (blk_cell BK541.out 1).trans rfl, (blk_cell BK535.out 0).trans rfl, (blk_cell BK535.out 1).trans rfl, (blk_cell BK535.out 2).trans rfl⟩ (fun hHeld => ?_)
             clear hK K
             refine norm_ (a' := ?_) ?_ ?_
             rotate_left
             ·show Act.put _ (some 14) _ = _
              simp only [Act.put, List.setIfInBounds_toArray, List.set_cons_zero, List.set_cons_succ, i64_w, i32_w]
              rfl
             refine one_ (i := 13) (N := some 183) (bz 16 0x7fff) rfl rfl (one_of HT_.out (by kernel_rfl)) (by decide) (fun K hK => ?_)
             refine goes_ Try.func32 (by kernel_rfl) rfl #[.agg #[.int .i64 t537, .slice Ao31 t538.length co31], .int .i64 (Int.tmod (wrap64 (a1_1)) t537), .int .i64 (Int.tmod (wrap64 (a1_2)) t537)] (by rfl) rfl rfl (by (try simp only [List.map_toArray, List.map_cons, List.map_nil]); first | done | rfl | (simp only [List.length_drop, List.length_take]; rfl)) ?_
             with_reducible refine (wireloomref05_With.calls t537 _ _ t538 (Int.tmod (wrap64 (a1_1)) t537) (Int.tmod (wrap64 (a1_2)) t537) t571 t572 _ ?side1 ?side2 A107.out).mono ?_
             (case side1 => repeat (first | exact (Kd.R_reads' HO_542001.out).2.2 | (with_reducible refine Kd.C_alloc ?_ _) | (with_reducible refine Kd.C_drewN ?_ _) | (with_reducible refine Kd.C_drew ?_)))
             (case side2 => exact (Kd.R_reads' HO_542001.out).2.1)
             rintro e w117 ⟨v573, rfl, ho0, hb⟩
             refine ⟨_, rfl, ?_⟩
             have n0_ := Aside0.mk (Kd.R_below (rA HO_8.out) hb)
             have n1_ := Aside0.mk (Kd.R_elder' (rA HO_542001.out) (Kd.R_base ho0) hb)
             have n2_ := Aside0.mk (Kd.R_below (rA HO570.out) hb)
             have n3_ := Aside0.mk (Kd.R_lower (Kd.R_new' ho0 (Kd.R_lt (rA HO_542001.out))) (below_size (by repeat (first | (with_reducible first | exact HB.out | apply below_alloc | apply pw_below_drewN | apply below_drew1 | refine below_set ?_ GE534.out | refine below_set ?_ GE535.out | refine below_set ?_ GE541.out | refine below_set ?_ GE575.out) | exact HB.out))))
             have n4_ := Aside0.mk (blk_below (g := gb534) (o := .cells #[.int .u8 a0_0, .int .u8 a0_1, .slice A0_2 l0_2.length c0_2] 24 (0, 0)) (bA BK534.out) hb)
             have n5_ := Aside0.mk (blk_below (g := gb535) (o := .cells #[.int .u8 a1_0, .int .u8 a1_1, .int .u8 a1_2] 52 (0, 0)) (bA BK535.out) hb)
             have n6_ := Aside0.mk (blk_below (g := gb541) (o := .cells #[.int .i64 t537, .slice Ao31 t538.length co31] 31 (0, 0)) (bA BK541.out) hb)
             have n7_ := Aside0.mk (blk_below (g := gb575) (o := .cells #[.int .i64 0, .slice none 0 0] 31 (0, 0)) (bA BK575.out) hb)
             have n8_ := Aside0.mk (below_step (by repeat (first | (with_reducible first | exact HB.out | apply below_alloc | apply pw_below_drewN | apply below_drew1 | refine below_set ?_ GE534.out | refine below_set ?_ GE535.out | refine below_set ?_ GE541.out | refine below_set ?_ GE575.out) | exact HB.out)) hb)
             clear HO_8
             clear HO_542001
             clear HO570
             clear BK534
             clear BK535
             clear BK541
             clear BK575
             clear HB
             have HO_8 := n0_
             have HO_542001 := n1_
             have HO570 := n2_
             have HO574 := n3_
             have BK534 := n4_
             have BK535 := n5_
             have BK541 := n6_
             have BK575 := n7_
             have HB := n8_
             clear n0_ n1_ n2_ n3_ n4_ n5_ n6_ n7_ n8_
             (try clear hb)
             (try clear hb2)
             (try clear hk)
             (try clear hi)
             (try clear ho0)
             refine hK.out _ _ ⟨(blk_cell BK541.out 0).trans rfl, (blk_cell BK541.out 1).trans rfl, (blk_cell BK535.out 0).trans rfl, (blk_cell BK535.out 1).trans rfl, (blk_cell BK535.out 2).trans rfl⟩ (fun hHeld => ?_)
             clear hK K
             refine norm_ (a' := ?_) ?_ ?_
             rotate_left
             ·show Act.put _ (some 183) _ = _
              simp only [Act.put, List.setIfInBounds_toArray, List.set_cons_zero, List.set_cons_succ, i64_w, i32_w]
              rfl
             exact norm_ (by simp only [putAll, Act.put, List.setIfInBounds_toArray, List.set_cons_zero, List.set_cons_succ]) (hCont (v573, gb575) _ ⟨hHeld, (by (with_reducible repeat (first | apply Kd.R_alloc | apply Kd.R_drewN | apply Kd.R_drew)); exact Kd.R_mono HO570.out (fun _ hk => hk.2)), (by (with_reducible repeat (first | apply Kd.R_alloc | apply Kd.R_drewN | apply Kd.R_drew)); exact Kd.R_mono HO574.out (fun _ hk => hk.2)), (by (with_reducible repeat (first | apply Kd.R_alloc | apply Kd.R_drewN | apply Kd.R_drew)); exact Kd.R_mono HO_542001.out (fun _ hk => hk.2)), (by (with_reducible repeat (first | apply Kd.R_alloc | apply Kd.R_drewN | apply Kd.R_drew)); exact Kd.R_mono HO_8.out (fun _ hk => hk.2)), (bA BK534.out), (bA BK535.out), (bA BK541.out), (bA BK575.out), GW575.out, GE575.out, NB534_575.out, NB575_534.out, NB535_575.out, NB575_535.out, NB541_575.out, NB575_541.out, (by repeat (first | (with_reducible first | exact HB.out | apply below_alloc | apply pw_below_drewN | apply below_drew1 | refine below_set ?_ GE534.out | refine below_set ?_ GE535.out | refine below_set ?_ GE541.out | refine below_set ?_ GE575.out) | exact HB.out))⟩)
           rintro ⟨v573, gb575⟩ w118 ⟨hS_, h0_, h1_, h2_, h3_, h4_, h5_, h6_, h7_, h8_, h9_, h10_, h11_, h12_, h13_, h14_, h15_, h16_⟩
           have n0_ : Aside0 (Kd.R (Kd.int .i64) 3 w118 w.heap.size (fun k_ => some k_ ≠ (.slice (some ad567) t542.length co34 : Value).ownBlock) v569 t568) := ⟨h0_⟩
           have n1_ : Aside0 (Kd.R k55 55 w118 w.heap.size (fun k_ => some k_ ≠ (.slice Ao31 t538.length co31 : Value).ownBlock) v573 t572) := ⟨h1_⟩
           have n2_ : Aside0 (Kd.R k55 55 w118 w.heap.size (fun k_ => some k_ ≠ (v573 : Value).ownBlock) (.slice Ao31 t538.length co31) t538) := ⟨h2_⟩
           have n3_ : Aside0 (Kd.R (Kd.int .i64) 3 w118 w.heap.size (fun k_ => some k_ ≠ (v569 : Value).ownBlock) (.slice (some ad567) t542.length co34) t542) := ⟨h3_⟩
           have n4_ : Aside0 (w118.heap[gb534]? = some (.cells #[.int .u8 a0_0, .int .u8 a0_1, .slice A0_2 l0_2.length c0_2] 24 (0, 0))) := ⟨h4_⟩
           have n5_ : Aside0 (w118.heap[gb535]? = some (.cells #[.int .u8 a1_0, .int .u8 a1_1, .int .u8 a1_2] 52 (0, 0))) := ⟨h5_⟩
           have n6_ : Aside0 (w118.heap[gb541]? = some (.cells #[.int .i64 t537, .slice Ao31 t538.length co31] 31 (0, 0))) := ⟨h6_⟩
           have n7_ : Aside0 (w118.heap[gb575]? = some (.cells #[.int .i64 0, .slice none 0 0] 31 (0, 0))) := ⟨h7_⟩
           have n8_ : Aside0 (w.heap.size ≤ gb575) := ⟨h8_⟩
           have n9_ : Aside0 (w.heap.size ≤ gb575) := ⟨h9_⟩
           have n10_ : Aside0 (gb534 ≠ gb575) := ⟨h10_⟩
           have n11_ : Aside0 (gb575 ≠ gb534) := ⟨h11_⟩
           have n12_ : Aside0 (gb535 ≠ gb575) := ⟨h12_⟩
           have n13_ : Aside0 (gb575 ≠ gb535) := ⟨h13_⟩
           have n14_ : Aside0 (gb541 ≠ gb575) := ⟨h14_⟩
           have n15_ : Aside0 (gb575 ≠ gb541) := ⟨h15_⟩
           have n16_ : Aside0 (Below w.heap.size w w118) := ⟨h16_⟩
           clear HO_8
           clear HO_542001
           clear HO570
           clear BK534
           clear BK535
           clear BK541
           clear HB
           clear h0_ h1_ h2_ h3_ h4_ h5_ h6_ h7_ h8_ h9_ h10_ h11_ h12_ h13_ h14_ h15_ h16_
           have HO570 := n0_
           have HO574 := n1_
           have HO_542001 := n2_
           have HO_8 := n3_
           have BK534 := n4_
           have BK535 := n5_
           have BK541 := n6_
           have BK575 := n7_
           have GW575 := n8_
           have GE575 := n9_
           have NB534_575 := n10_
           have NB575_534 := n11_
           have NB535_575 := n12_
           have NB575_535 := n13_
           have NB541_575 := n14_
           have NB575_541 := n15_
           have HB := n16_
           clear n0_ n1_ n2_ n3_ n4_ n5_ n6_ n7_ n8_ n9_ n10_ n11_ n12_ n13_ n14_ n15_ n16_
           have hHeld : w118.cell? ⟨gb541, 0, none⟩ = some (.int .i64 t537) ∧ w118.cell? ⟨gb541, 1, none⟩ = some (.slice Ao31 t538.length co31) ∧ w118.cell? ⟨gb535, 0, none⟩ = some (.int .u8 a1_0) ∧ w118.cell? ⟨gb535, 1, none⟩ = some (.int .u8 a1_1) ∧ w118.cell? ⟨gb535, 2, none⟩ = some (.int .u8 a1_2) := hS_
           obtain ⟨Ao120, co120, eo120⟩ := Kd.R_slice HO574.out
           (first | subst eo120 | (injection eo120 with f1_ f2_ f3_; have f4_ := f1_.symm; have f5_ := f3_.symm; clear f1_ f2_ f3_; subst f4_; subst f5_))
           refine norm_ (a' := ?_) ?_ ?_
           rotate_left
           ·simp only [putAll, Act.put, List.setIfInBounds_toArray, List.set_cons_zero, List.set_cons_succ]
            rfl
           refine one_ (i := 15) (N := none) (bz 16 0xffff) rfl rfl (one_of HT_.out (by kernel_rfl)) (by decide) (fun K hK => ?_)
           have hs119 : w118.cell? ⟨gb575, 0, none⟩ = some (.int .i64 0) := (blk_cell BK575.out 0).trans rfl
           have hfs119 := blk_frozen BK575.out 0
           have hns119_0 := NB534_575.out
           have hns119_1 := NB535_575.out
           have hns119_2 := NB541_575.out
           have hms119_0 := NB575_534.out
           have hms119_1 := NB575_535.out
           have hms119_2 := NB575_541.out
           have hs121 : w118.cell? ⟨gb575, 1, none⟩ = some (.slice none 0 0) := (blk_cell BK575.out 1).trans rfl
           have hfs121 := blk_frozen BK575.out 1
           have hns121_0 := NB534_575.out
           have hns121_1 := NB535_575.out
           have hns121_2 := NB541_575.out
           have hms121_0 := NB575_534.out
           have hms121_1 := NB575_535.out
           have hms121_2 := NB575_541.out
           refine skip_ (w1 := ?_) (by rfl) rfl ?_ ?_
           rotate_left
           ·go_simp
            rfl
           refine hK.out _ _ ⟨((cell_far (p := ⟨gb575, _, none⟩) NB541_575.out _).trans (((cell_far (p := ⟨gb575, _, none⟩) NB541_575.out _).trans (hHeld.1)))), ((cell_far (p := ⟨gb575, _, none⟩) NB541_575.out _).trans (((cell_far (p := ⟨gb575, _, none⟩) NB541_575.out _).trans (hHeld.2.1)))), ((cell_far (p := ⟨gb575, _, none⟩) NB535_575.out _).trans (((cell_far (p := ⟨gb575, _, none⟩) NB535_575.out _).trans (hHeld.2.2.1)))), ((cell_far (p := ⟨gb575, _, none⟩) NB535_575.out _).trans (((cell_far (p := ⟨gb575, _, none⟩) NB535_575.out _).trans (hHeld.2.2.2.1)))), ((cell_far (p := ⟨gb575, _, none⟩) NB535_575.out _).trans (((cell_far (p := ⟨gb575, _, none⟩) NB535_575.out _).trans (hHeld.2.2.2.2))))⟩ (fun hHeld => ?_)
           clear hK K
           refine done_ (done_of HT_.out (by kernel_rfl)) ?_
           have hnb122 := NB575_534.out
           have hnc122 := NB534_575.out
           have hnb123 := NB575_535.out
           have hnc123 := NB535_575.out
           have hnb124 := NB575_541.out
           have hnc124 := NB541_575.out
           have hcz125_0 : w118.cell? ⟨gb575, 0, none⟩ = some (.int .i64 0) := (blk_cell BK575.out 0).trans rfl
           have hcz125_1 : w118.cell? ⟨gb575, 1, none⟩ = some (.slice none 0 0) := (blk_cell BK575.out 1).trans rfl
           have hfz125_0 := blk_frozen BK575.out 0
           have hfz125_1 := blk_frozen BK575.out 1
           try go_wp2_with (first | ((with_reducible refine gate_callee (f := 24) rfl ?_); refine goesL_ (some 189) rfl rfl Try.func24 (by kernel_rfl) rfl #[.int .i64 t571, .slice Ao120 t572.length co120, .int .i64 (Int.tmod (wrap64 (a1_0)) t537)] rfl (by (try simp only [List.map_toArray, List.map_cons, List.map_nil]); first | done | rfl | (simp only [List.length_drop, List.length_take]; rfl)) ?_; (with_reducible refine (digraph_Reach.calls t571 _ _ t572 (Int.tmod (wrap64 (a1_0)) t537) t576 _ ?side1 ?side2 A108.out).mono ?_); (case side1 => refine (Kd.R_reads' (e := 55) (base := w.heap.size) (ok := fun k_ => some k_ ≠ (.slice Ao31 t538.length co31 : Value).ownBlock) (n := t572.length) (c := co120) ?_).2.2; exact (by (with_reducible repeat (first | apply Kd.R_alloc | apply Kd.R_drewN | apply Kd.R_drew)); exact (Kd.R_mono (Kd.R_far (p := ⟨gb575, 1, none⟩) (Kd.R_far (p := ⟨gb575, 0, none⟩) (Kd.R_types HO574.out BK575.out (by decide)) (fun _ hk => hk.2) (.int .i64 t571)) (fun _ hk => hk.2) (.slice Ao120 t572.length co120)) (fun _ h_ => h_.1)))); (case side2 => exact (Kd.R_reads' HO574.out).2.1); rintro e w126 ⟨v577, rfl, ho0, hb⟩; refine ⟨_, rfl, ?_⟩; have n0_ := Aside0.mk (Kd.R_elder' (by (with_reducible repeat (first | apply Kd.R_alloc | apply Kd.R_drewN | apply Kd.R_drew)); exact (Kd.R_mono (Kd.R_far (p := ⟨gb575, 1, none⟩) (Kd.R_far (p := ⟨gb575, 0, none⟩) (Kd.R_types HO_8.out BK575.out (by decide)) (fun _ hk => hk.2) (.int .i64 t571)) (fun _ hk => hk.2) (.slice Ao120 t572.length co120)) (fun _ h_ => h_.1))) (Kd.R_base ho0) hb); have n1_ := Aside0.mk (Kd.R_below (by (with_reducible repeat (first | apply Kd.R_alloc | apply Kd.R_drewN | apply Kd.R_drew)); exact (Kd.R_mono (Kd.R_far (p := ⟨gb575, 1, none⟩) (Kd.R_far (p := ⟨gb575, 0, none⟩) (Kd.R_types HO_542001.out BK575.out (by decide)) (fun _ hk => hk.2) (.int .i64 t571)) (fun _ hk => hk.2) (.slice Ao120 t572.length co120)) (fun _ h_ => h_.1))) hb); have n2_ := Aside0.mk (Kd.R_elder' (by (with_reducible repeat (first | apply Kd.R_alloc | apply Kd.R_drewN | apply Kd.R_drew)); exact (Kd.R_mono (Kd.R_far (p := ⟨gb575, 1, none⟩) (Kd.R_far (p := ⟨gb575, 0, none⟩) (Kd.R_types HO570.out BK575.out (by decide)) (fun _ hk => hk.2) (.int .i64 t571)) (fun _ hk => hk.2) (.slice Ao120 t572.length co120)) (fun _ h_ => h_.1))) (Kd.R_base ho0) hb); have n3_ := Aside0.mk (Kd.R_below (by (with_reducible repeat (first | apply Kd.R_alloc | apply Kd.R_drewN | apply Kd.R_drew)); exact (Kd.R_mono (Kd.R_far (p := ⟨gb575, 1, none⟩) (Kd.R_far (p := ⟨gb575, 0, none⟩) (Kd.R_types HO574.out BK575.out (by decide)) (fun _ hk => hk.2) (.int .i64 t571)) (fun _ hk => hk.2) (.slice Ao120 t572.length co120)) (fun _ h_ => h_.1))) hb); have n4_ := Aside0.mk (Kd.R_lower (Kd.R_new' (Kd.R_new' ho0 (Kd.R_lt (by (with_reducible repeat (first | apply Kd.R_alloc | apply Kd.R_drewN | apply Kd.R_drew)); exact (Kd.R_mono (Kd.R_far (p := ⟨gb575, 1, none⟩) (Kd.R_far (p := ⟨gb575, 0, none⟩) (Kd.R_types HO_8.out BK575.out (by decide)) (fun _ hk => hk.2) (.int .i64 t571)) (fun _ hk => hk.2) (.slice Ao120 t572.length co120)) (fun _ h_ => h_.1))))) (Kd.R_lt (by (with_reducible repeat (first | apply Kd.R_alloc | apply Kd.R_drewN | apply Kd.R_drew)); exact (Kd.R_mono (Kd.R_far (p := ⟨gb575, 1, none⟩) (Kd.R_far (p := ⟨gb575, 0, none⟩) (Kd.R_types HO570.out BK575.out (by decide)) (fun _ hk => hk.2) (.int .i64 t571)) (fun _ hk => hk.2) (.slice Ao120 t572.length co120)) (fun _ h_ => h_.1))))) (below_size (by repeat (first | (with_reducible first | exact HB.out | apply below_alloc | apply pw_below_drewN | apply below_drew1 | refine below_set ?_ GE534.out | refine below_set ?_ GE535.out | refine below_set ?_ GE541.out | refine below_set ?_ GE575.out) | exact HB.out)))); have n5_ := Aside0.mk (blk_below (g := gb534) (o := .cells #[.int .u8 a0_0, .int .u8 a0_1, .slice A0_2 l0_2.length c0_2] 24 (0, 0)) (by (with_reducible repeat (first | refine blk_drewN ?_ _ | refine blk_drew ?_ | refine blk_alloc ?_ _)); refine blk_far ?_ NB534_575.out _; (with_reducible repeat (first | refine blk_drewN ?_ _ | refine blk_drew ?_ | refine blk_alloc ?_ _)); refine blk_far ?_ NB534_575.out _; (with_reducible repeat (first | refine blk_drewN ?_ _ | refine blk_drew ?_ | refine blk_alloc ?_ _)); exact BK534.out) hb); have n6_ := Aside0.mk (blk_below (g := gb535) (o := .cells #[.int .u8 a1_0, .int .u8 a1_1, .int .u8 a1_2] 52 (0, 0)) (by (with_reducible repeat (first | refine blk_drewN ?_ _ | refine blk_drew ?_ | refine blk_alloc ?_ _)); refine blk_far ?_ NB535_575.out _; (with_reducible repeat (first | refine blk_drewN ?_ _ | refine blk_drew ?_ | refine blk_alloc ?_ _)); refine blk_far ?_ NB535_575.out _; (with_reducible repeat (first | refine blk_drewN ?_ _ | refine blk_drew ?_ | refine blk_alloc ?_ _)); exact BK535.out) hb); have n7_ := Aside0.mk (blk_below (g := gb541) (o := .cells #[.int .i64 t537, .slice Ao31 t538.length co31] 31 (0, 0)) (by (with_reducible repeat (first | refine blk_drewN ?_ _ | refine blk_drew ?_ | refine blk_alloc ?_ _)); refine blk_far ?_ NB541_575.out _; (with_reducible repeat (first | refine blk_drewN ?_ _ | refine blk_drew ?_ | refine blk_alloc ?_ _)); refine blk_far ?_ NB541_575.out _; (with_reducible repeat (first | refine blk_drewN ?_ _ | refine blk_drew ?_ | refine blk_alloc ?_ _)); exact BK541.out) hb); have n8_ := Aside0.mk (blk_below (g := gb575) (o := .cells #[.int .i64 t571, .slice Ao120 t572.length co120] 31 (0, 0)) (by (with_reducible repeat (first | refine blk_drewN ?_ _ | refine blk_drew ?_ | refine blk_alloc ?_ _)); refine blk_put (cs := #[.int .i64 t571, .slice none 0 0]) ?_ 1 _ rfl; (with_reducible repeat (first | refine blk_drewN ?_ _ | refine blk_drew ?_ | refine blk_alloc ?_ _)); refine blk_put (cs := #[.int .i64 0, .slice none 0 0]) ?_ 0 _ rfl; (with_reducible repeat (first | refine blk_drewN ?_ _ | refine blk_drew ?_ | refine blk_alloc ?_ _)); exact BK575.out) hb); have n9_ := Aside0.mk (below_step (by repeat (first | (with_reducible first | exact HB.out | apply below_alloc | apply pw_below_drewN | apply below_drew1 | refine below_set ?_ GE534.out | refine below_set ?_ GE535.out | refine below_set ?_ GE541.out | refine below_set ?_ GE575.out) | exact HB.out)) hb); clear HO_8; clear HO_542001; clear HO570; clear HO574; clear BK534; clear BK535; clear BK541; clear BK575; clear HB; have HO_8 := n0_; have HO_542001 := n1_; have HO570 := n2_; have HO574 := n3_; have HO578 := n4_; have BK534 := n5_; have BK535 := n6_; have BK541 := n7_; have BK575 := n8_; have HB := n9_; clear n0_ n1_ n2_ n3_ n4_ n5_ n6_ n7_ n8_ n9_; (try clear hb); (try clear hb2); (try clear hk); (try clear hi); (try clear ho0)))
           go_loopg [16] k1 (fun kq v16 w' => ∃ (x16_2 : Int), v16 = .int .i64 x16_2 ∧ Aside0 (wireloomlaw05_DigraphReaches.l2 kq true t542 t568 t576 x16_2 = some r) ∧ Aside0 (kq ≤ k1) ∧ Aside0 (Kd.R (Kd.int .i64) 3 w' w.heap.size (fun k_ => some k_ ≠ (v569 : Value).ownBlock ∧ some k_ ≠ (v577 : Value).ownBlock) (.slice (some ad567) t542.length co34) t542) ∧ Aside0 (Kd.R (Kd.int .i64) 3 w' w.heap.size (fun k_ => some k_ ≠ ((.slice (some ad567) t542.length co34) : Value).ownBlock ∧ some k_ ≠ (v577 : Value).ownBlock) v569 t568) ∧ Aside0 (Kd.R (Kd.int .i64) 3 w' w.heap.size (fun k_ => some k_ ≠ ((.slice (some ad567) t542.length co34) : Value).ownBlock ∧ some k_ ≠ (v569 : Value).ownBlock) v577 t576) ∧ Aside0 (Kd.R k55 55 w' w.heap.size (fun k_ => some k_ ≠ ((.slice Ao120 t572.length co120) : Value).ownBlock) (.slice Ao31 t538.length co31) t538) ∧ Aside0 (Kd.R k55 55 w' w.heap.size (fun k_ => some k_ ≠ ((.slice Ao31 t538.length co31) : Value).ownBlock) (.slice Ao120 t572.length co120) t572) ∧ Aside0 (w'.heap[gb534]? = some (.cells #[.int .u8 a0_0, .int .u8 a0_1, (.slice A0_2 l0_2.length c0_2)] 24 (0, 0))) ∧ Aside0 (w'.heap[gb535]? = some (.cells #[.int .u8 a1_0, .int .u8 a1_1, .int .u8 a1_2] 52 (0, 0))) ∧ Aside0 (w'.heap[gb541]? = some (.cells #[.int .i64 t537, (.slice Ao31 t538.length co31)] 31 (0, 0))) ∧ Aside0 (w'.heap[gb575]? = some (.cells #[.int .i64 t571, (.slice Ao120 t572.length co120)] 31 (0, 0))) ∧ Aside0 (Below w.heap.size w w'))
           case atStart => exact ⟨(0), (by first | rfl | (simp; done) | (simp [*]; done)), H', ⟨Nat.le_refl _⟩, ⟨rA HO_8.out⟩, ⟨rA HO570.out⟩, ⟨by (with_reducible repeat (first | apply Kd.R_alloc | apply Kd.R_drewN | apply Kd.R_drew)); exact Kd.R_mono HO578.out (fun _ hk => ⟨hk.1.2, hk.2⟩)⟩, ⟨rA HO_542001.out⟩, ⟨rA HO574.out⟩, ⟨bA BK534.out⟩, ⟨bA BK535.out⟩, ⟨bA BK541.out⟩, ⟨bA BK575.out⟩, ⟨by repeat (first | (with_reducible first | exact HB.out | apply below_alloc | apply pw_below_drewN | apply below_drew1 | refine below_set ?_ GE534.out | refine below_set ?_ GE535.out | refine below_set ?_ GE541.out | refine below_set ?_ GE575.out) | exact HB.out)⟩⟩
           case round =>
            clear H'
            try clear c1
            try clear c2
            try clear p2
            try clear c3
            try clear p5
            try clear q5
            try clear hx5
            try clear p6
            try clear c7
            try clear c9
            try clear c10
            try clear c11
            try clear c12
            try clear c24
            try clear c32
            try clear c35
            try clear c35b0
            try clear c36
            try clear p56
            try clear q56
            try clear hx56
            try clear p64
            try clear c79
            try clear c93
            try clear c94
            try clear c101
            try clear c101b0
            try clear c101b1
            try clear c101b2
            try clear c103
            try clear c103b0
            try clear c104
            try clear c104b0
            try clear c106
            try clear c106b0
            try clear c106b1
            try clear c109
            try clear c110
            try clear c112
            try clear c122
            try clear c123
            try clear c124
            try clear hcz111_0
            try clear hcz111_1
            try clear hcz111_2
            try clear hcz113_0
            try clear hcz113_1
            try clear hcz125_0
            try clear hcz125_1
            try clear hfz111_0
            try clear hfz111_1
            try clear hfz111_2
            try clear hfz113_0
            try clear hfz113_1
            try clear hfz125_0
            try clear hfz125_1
            try clear hx567_0
            try clear p567
            try clear q567
            obtain ⟨x16_2, rfl, HA, HK2, HO_8, HO_13, HO_15, HO_542001, HO_576001, BK534, BK535, BK541, BK575, HB⟩ := hrel
            cases gk with
            | zero => exact absurd HA.out (by simp [wireloomlaw05_DigraphReaches.l2])
            | succ k2 =>
             have H := HA.out
             clear HA
             simp only [wireloomlaw05_DigraphReaches.l2] at H
             by_cases c127 : x16_2 < (t568.length : Int)
             ·rw [if_pos c127] at H
              have c127b0 : decide (x16_2 < (t568.length : Int)) = true := decide_eq_true c127
              clear c127
              by_cases c128 : 0 ≤ x16_2
              ·rw [if_pos c128] at H
               have c128b0 : decide (0 ≤ x16_2) = true := decide_eq_true c128
               clear c128
               replace H := Option.bind_eq_some_iff.mp H
               obtain ⟨t580, A1290, H⟩ := H
               replace H : (if t580 = true then (wireloomlaw05_DigraphReaches.l2 k2 true t542 t568 t576 (wrap64 (x16_2 + 1))) else (none)) = some r := H
               have A129 := Aside0.mk A1290
               clear A1290
               by_cases c130 : t580 = true
               ·subst c130
                have H1 : (wireloomlaw05_DigraphReaches.l2 k2 true t542 t568 t576 (wrap64 (x16_2 + 1))) = some r := by rw [if_pos rfl] at H; exact H
                clear H
                have H := H1
                clear H1
                have H' := Aside0.mk H
                clear H
                obtain ⟨Ao131, co131, eo131⟩ := Kd.R_slice HO_13.out
                subst eo131
                have p579 : 0 ≤ (x16_2 : Int) := of_decide_eq_true (by first | (with_reducible assumption) | assumption)
                have q579 : x16_2 < (t568.length : Int) := of_decide_eq_true (by first | (with_reducible assumption) | assumption)
                obtain ⟨ad579, e579, hx579_0⟩ := Kd.at_int (Kd.R_reads' HO_13.out).2.2 x16_2 p579 q579
                cases e579
                replace p579 := eq_true p579
                replace q579 := eq_true q579
                go_wp2_with (first | ((with_reducible refine gate_callee (f := 31) rfl ?_); refine goesL_ (some 201) rfl rfl Try.func31 (by kernel_rfl) rfl #[.slice (some ad567) t542.length co34, .int .i64 (rd t568 x16_2)] rfl (by (try simp only [List.map_toArray, List.map_cons, List.map_nil]); first | done | rfl | (simp only [List.length_drop, List.length_take]; rfl)) ?_; (with_reducible refine (wireloomref05_In.calls k2 _ _ t542 (rd t568 x16_2) true _ ?side1 ?side2 A129.out).mono ?_); (case side1 => repeat (first | exact (Kd.R_reads' HO_8.out).2.2 | (with_reducible refine Kd.C_alloc ?_ _) | (with_reducible refine Kd.C_drewN ?_ _) | (with_reducible refine Kd.C_drew ?_))); (case side2 => exact (Kd.R_reads' HO_8.out).2.1); rintro e w' ⟨rfl, ⟨nd, rfl⟩⟩; refine ⟨_, rfl, ?_⟩))
                go_roundg k2
                case measure => have := HK1.out; have := HK2.out; omega
                case rel => exact ⟨(wrap64 (x16_2 + 1)), (by first | rfl | (simp; done) | (simp [*]; done)), H', ⟨by have := HK1.out; have := HK2.out; omega⟩, ⟨rA HO_8.out⟩, ⟨rA HO_13.out⟩, ⟨rA HO_15.out⟩, ⟨rA HO_542001.out⟩, ⟨rA HO_576001.out⟩, ⟨bA BK534.out⟩, ⟨bA BK535.out⟩, ⟨bA BK541.out⟩, ⟨bA BK575.out⟩, ⟨by repeat (first | (with_reducible first | exact HB.out | apply below_alloc | apply pw_below_drewN | apply below_drew1 | refine below_set ?_ GE534.out | refine below_set ?_ GE535.out | refine below_set ?_ GE541.out | refine below_set ?_ GE575.out) | exact HB.out)⟩⟩
               ·replace c130 := Bool.eq_false_iff.mpr c130
                subst c130
                have H1 : (none) = some r := by rw [if_neg (show ¬ (false = true) by decide)] at H; exact H
                clear H
                have H := H1
                clear H1
                exact absurd H (by simp)
              ·rw [if_neg c128] at H
               exact absurd H (by simp)
             ·rw [if_neg c127] at H
              have c127b0 : decide (x16_2 < (t568.length : Int)) = false := decide_eq_false c127
              clear c127
              have H' := Aside0.mk H
              clear H
              obtain ⟨Ao132, co132, eo132⟩ := Kd.R_slice HO_13.out
              subst eo132
              go_wp2
              go_loopg [17] k2 (fun kq v17 w' => ∃ (x17_3 : Int), v17 = .int .i64 x17_3 ∧ Aside0 (wireloomlaw05_DigraphReaches.l3 kq true t542 t576 x17_3 = some r) ∧ Aside0 (kq ≤ k2) ∧ Aside0 (Kd.R (Kd.int .i64) 3 w' w.heap.size (fun k_ => some k_ ≠ (v577 : Value).ownBlock) (.slice (some ad567) t542.length co34) t542) ∧ Aside0 (Kd.R (Kd.int .i64) 3 w' w.heap.size (fun k_ => some k_ ≠ ((.slice (some ad567) t542.length co34) : Value).ownBlock) v577 t576) ∧ Aside0 (Kd.R k55 55 w' w.heap.size (fun k_ => some k_ ≠ ((.slice Ao120 t572.length co120) : Value).ownBlock) (.slice Ao31 t538.length co31) t538) ∧ Aside0 (Kd.R k55 55 w' w.heap.size (fun k_ => some k_ ≠ ((.slice Ao31 t538.length co31) : Value).ownBlock) (.slice Ao120 t572.length co120) t572) ∧ Aside0 (w'.heap[gb534]? = some (.cells #[.int .u8 a0_0, .int .u8 a0_1, (.slice A0_2 l0_2.length c0_2)] 24 (0, 0))) ∧ Aside0 (w'.heap[gb535]? = some (.cells #[.int .u8 a1_0, .int .u8 a1_1, .int .u8 a1_2] 52 (0, 0))) ∧ Aside0 (w'.heap[gb541]? = some (.cells #[.int .i64 t537, (.slice Ao31 t538.length co31)] 31 (0, 0))) ∧ Aside0 (w'.heap[gb575]? = some (.cells #[.int .i64 t571, (.slice Ao120 t572.length co120)] 31 (0, 0))) ∧ Aside0 (Below w.heap.size w w'))
              case atStart => exact ⟨(0), (by first | rfl | (simp; done) | (simp [*]; done)), H', ⟨Nat.le_refl _⟩, ⟨by (with_reducible repeat (first | apply Kd.R_alloc | apply Kd.R_drewN | apply Kd.R_drew)); exact Kd.R_mono HO_8.out (fun _ hk => hk.2)⟩, ⟨by (with_reducible repeat (first | apply Kd.R_alloc | apply Kd.R_drewN | apply Kd.R_drew)); exact Kd.R_mono HO_15.out (fun _ hk => hk.1)⟩, ⟨rA HO_542001.out⟩, ⟨rA HO_576001.out⟩, ⟨bA BK534.out⟩, ⟨bA BK535.out⟩, ⟨bA BK541.out⟩, ⟨bA BK575.out⟩, ⟨by repeat (first | (with_reducible first | exact HB.out | apply below_alloc | apply pw_below_drewN | apply below_drew1 | refine below_set ?_ GE534.out | refine below_set ?_ GE535.out | refine below_set ?_ GE541.out | refine below_set ?_ GE575.out) | exact HB.out)⟩⟩
              case round =>
               clear H'
               try clear c1
               try clear c2
               try clear p2
               try clear c3
               try clear p5
               try clear q5
               try clear hx5
               try clear p6
               try clear c7
               try clear c9
               try clear c10
               try clear c11
               try clear c12
               try clear c13
               try clear c24
               try clear c31
               try clear c32
               try clear c35
               try clear c35b0
               try clear c36
               try clear p56
               try clear q56
               try clear hx56
               try clear p57
               try clear q57
               try clear hx57
               try clear p64
               try clear c79
               try clear c93
               try clear c94
               try clear c101
               try clear c101b0
               try clear c101b1
               try clear c101b2
               try clear c103
               try clear c103b0
               try clear c104
               try clear c104b0
               try clear c106
               try clear c106b0
               try clear c106b1
               try clear c109
               try clear c110
               try clear c112
               try clear c122
               try clear c123
               try clear c124
               try clear c127
               try clear c127b0
               try clear c128
               try clear c128b0
               try clear c130
               try clear hcz111_0
               try clear hcz111_1
               try clear hcz111_2
               try clear hcz113_0
               try clear hcz113_1
               try clear hcz125_0
               try clear hcz125_1
               try clear hfz111_0
               try clear hfz111_1
               try clear hfz111_2
               try clear hfz113_0
               try clear hfz113_1
               try clear hfz125_0
               try clear hfz125_1
               try clear hx567_0
               try clear hx579_0
               try clear p2
               try clear p5
               try clear p56
               try clear p567
               try clear p579
               try clear p6
               try clear p64
               try clear q5
               try clear q56
               try clear q567
               try clear q579
               obtain ⟨x17_3, rfl, HA, HK3, HO_8, HO_15, HO_542001, HO_576001, BK534, BK535, BK541, BK575, HB⟩ := hrel
               cases gk with
               | zero => exact absurd HA.out (by simp [wireloomlaw05_DigraphReaches.l3])
               | succ k3 =>
                have H := HA.out
                clear HA
                simp only [wireloomlaw05_DigraphReaches.l3] at H
                by_cases c133 : x17_3 < (t542.length : Int)
                ·rw [if_pos c133] at H
                 have c133b0 : decide (x17_3 < (t542.length : Int)) = true := decide_eq_true c133
                 clear c133
                 by_cases c134 : 0 ≤ x17_3
                 ·rw [if_pos c134] at H
                  have c134b0 : decide (0 ≤ x17_3) = true := decide_eq_true c134
                  clear c134
                  replace H := Option.bind_eq_some_iff.mp H
                  obtain ⟨t582, A1350, H⟩ := H
                  replace H : (if t582 = true then (wireloomlaw05_DigraphReaches.l3 k3 true t542 t576 (wrap64 (x17_3 + 1))) else (none)) = some r := H
                  have A135 := Aside0.mk A1350
                  clear A1350
                  by_cases c136 : t582 = true
                  ·subst c136
                   have H1 : (wireloomlaw05_DigraphReaches.l3 k3 true t542 t576 (wrap64 (x17_3 + 1))) = some r := by rw [if_pos rfl] at H; exact H
                   clear H
                   have H := H1
                   clear H1
                   have H' := Aside0.mk H
                   clear H
                   have p581 : 0 ≤ (x17_3 : Int) := of_decide_eq_true (by first | (with_reducible assumption) | assumption)
                   have q581 : x17_3 < (t542.length : Int) := of_decide_eq_true (by first | (with_reducible assumption) | assumption)
                   obtain ⟨ad581, e581, hx581_0⟩ := Kd.at_int (Kd.R_reads' HO_8.out).2.2 x17_3 p581 q581
                   obtain rfl : ad567 = ad581 := (by injection e581)
                   replace p581 := eq_true p581
                   replace q581 := eq_true q581
                   obtain ⟨Ao137, co137, eo137⟩ := Kd.R_slice HO_15.out
                   subst eo137
                   go_wp2_with (first | ((with_reducible refine gate_callee (f := 31) rfl ?_); refine goesL_ (some 214) rfl rfl Try.func31 (by kernel_rfl) rfl #[.slice Ao137 t576.length co137, .int .i64 (rd t542 x17_3)] rfl (by (try simp only [List.map_toArray, List.map_cons, List.map_nil]); first | done | rfl | (simp only [List.length_drop, List.length_take]; rfl)) ?_; (with_reducible refine (wireloomref05_In.calls k3 _ _ t576 (rd t542 x17_3) true _ ?side1 ?side2 A135.out).mono ?_); (case side1 => repeat (first | exact (Kd.R_reads' HO_15.out).2.2 | (with_reducible refine Kd.C_alloc ?_ _) | (with_reducible refine Kd.C_drewN ?_ _) | (with_reducible refine Kd.C_drew ?_))); (case side2 => exact (Kd.R_reads' HO_15.out).2.1); rintro e w' ⟨rfl, ⟨nd, rfl⟩⟩; refine ⟨_, rfl, ?_⟩))
                   go_roundg k3
                   case measure => have := HK1.out; have := HK2.out; have := HK3.out; omega
                   case rel => exact ⟨(wrap64 (x17_3 + 1)), (by first | rfl | (simp; done) | (simp [*]; done)), H', ⟨by have := HK1.out; have := HK2.out; have := HK3.out; omega⟩, ⟨rA HO_8.out⟩, ⟨rA HO_15.out⟩, ⟨rA HO_542001.out⟩, ⟨rA HO_576001.out⟩, ⟨bA BK534.out⟩, ⟨bA BK535.out⟩, ⟨bA BK541.out⟩, ⟨bA BK575.out⟩, ⟨by repeat (first | (with_reducible first | exact HB.out | apply below_alloc | apply pw_below_drewN | apply below_drew1 | refine below_set ?_ GE534.out | refine below_set ?_ GE535.out | refine below_set ?_ GE541.out | refine below_set ?_ GE575.out) | exact HB.out)⟩⟩
                  ·replace c136 := Bool.eq_false_iff.mpr c136
                   subst c136
                   have H1 : (none) = some r := by rw [if_neg (show ¬ (false = true) by decide)] at H; exact H
                   clear H
                   have H := H1
                   clear H1
                   exact absurd H (by simp)
                 ·rw [if_neg c134] at H
                  exact absurd H (by simp)
                ·rw [if_neg c133] at H
                 have c133b0 : decide (x17_3 < (t542.length : Int)) = false := decide_eq_false c133
                 clear c133
                 obtain rfl := Option.some.inj H
                 go_wp2
                 go_ret
                 exact ⟨by first | rfl | (simp [errW_none, errW_some] <;> rfl) | (simp only [← hji102]; first | rfl | (simp [errW_none, errW_some] <;> rfl)) | (simp [*, errW_none, errW_some] <;> rfl), by repeat (first | (with_reducible first | exact HB.out | apply below_alloc | apply pw_below_drewN | apply below_drew1 | refine below_set ?_ GE534.out | refine below_set ?_ GE535.out | refine below_set ?_ GE541.out | refine below_set ?_ GE575.out) | exact HB.out)⟩
         ·rw [if_neg c104] at H
          exact absurd H (by simp)
        ·rw [if_neg c103] at H
         exact absurd H (by simp)
   ·replace c20 := Bool.eq_false_iff.mpr c20
    subst c20
    have H1 : (none) = some r := by rw [if_neg (show ¬ (false = true) by decide)] at H; exact H
    clear H
    have H := H1
    clear H1
    exact absurd H (by simp)
 ·replace c4 := Bool.eq_false_iff.mpr c4
  subst c4
  have H1 : (none) = some r := by rw [if_neg (show ¬ (false = true) by decide)] at H; exact H
  clear H
  have H := H1
  clear H1
  exact absurd H (by simp)
end Go.Proofs.Ytlldjinejckbaaa.PD

end
section
namespace Go.Proofs.Ytlldjinejckbaaa.Pg
open Go Go.RowKit Go.Proofs.YtlldjinejckbaaaW.PrintWords Go.Proofs.Ytlldjinejckbaaa.Mod Go.Proofs.Ytlldjinejckbaaa.Gs Go.Proofs.Ytlldjinejckbaaa.Lb Go.Proofs.Ytlldjinejckbaaa.Ng Go.Proofs.Ytlldjinejckbaaa.Rc Go.Proofs.Ytlldjinejckbaaa.PD
def E (l : List S55) (u v : Int) : Prop := ∃ e ∈ l, e.f0 = u ∧ e.f1 = v
def Ok (n : Nat) (l : List S55) : Prop := ∀ e ∈ l, 0 ≤ e.f0 ∧ e.f0 < n ∧ 0 ≤ e.f1 ∧ e.f1 < n
theorem E.ok {n : Nat} {l : List S55} (h : Ok n l) {u v : Int} (e : E l u v) : 0 ≤ u ∧ u < n ∧ 0 ≤ v ∧ v < n := by
 obtain ⟨x, hx, rfl, rfl⟩ := e
 exact h x hx
theorem compactUpTo_strict (d : Array Int) (hs : d.toList.Pairwise (· ≤ ·)) : ∀ m, m ≤ d.size → (Lib.compactUpTo d m).Pairwise (· < ·) ∧ (∀ x, x ∈ Lib.compactUpTo d m ↔ ∃ j, j < m ∧ d[j]! = x) := by
 have hle : ∀ i j, i ≤ j → j < d.size → d[i]! ≤ d[j]! := fun i j hij hj => by
  rw [getElem!_pos d i (by omega), getElem!_pos d j hj]
  rcases Nat.lt_or_eq_of_le hij with h | h
  ·have := List.pairwise_iff_getElem.1 hs i j (by simp; omega) (by simpa using hj) h
   simpa using this
  ·subst h; exact Int.le_refl _
 intro m
 induction m with
 | zero => intro _; simp [Lib.compactUpTo]
 | succ m ih =>
  intro hm
  obtain ⟨h1, h2⟩ := ih (by omega)
  rw [Lib.compactUpTo_succ]
  by_cases hk : Lib.keeps d m = true
  ·rw [if_pos hk]
   refine ⟨?_, fun x => ?_⟩
   ·rw [List.pairwise_append]
    refine ⟨h1, by simp, fun a ha b hb => ?_⟩
    rw [List.mem_singleton] at hb
    subst hb
    obtain ⟨j, hj, rfl⟩ := (h2 a).1 ha
    unfold Lib.keeps at hk
    rw [decide_eq_true_eq] at hk
    rcases hk with hk | hk
    ·omega
    ·have h3 := hle j (m - 1) (by omega) (by omega)
     have h4 := hle (m - 1) m (by omega) (by omega)
     omega
   ·rw [List.mem_append, List.mem_singleton, h2]
    constructor
    ·rintro (⟨j, hj, e⟩ | e)
     ·exact ⟨j, by omega, e⟩
     ·exact ⟨m, by omega, e.symm⟩
    ·rintro ⟨j, hj, e⟩
     rcases Nat.lt_or_eq_of_le (Nat.le_of_lt_succ hj) with h | h
     ·exact .inl ⟨j, h, e⟩
     ·subst h; exact .inr e.symm
  ·rw [if_neg hk, List.append_nil]
   refine ⟨h1, fun x => ?_⟩
   rw [h2]
   constructor
   ·rintro ⟨j, hj, e⟩; exact ⟨j, by omega, e⟩
   ·rintro ⟨j, hj, e⟩
    rcases Nat.lt_or_eq_of_le (Nat.le_of_lt_succ hj) with h | h
    ·exact ⟨j, h, e⟩
    ·subst h
     unfold Lib.keeps at hk
     rw [decide_eq_true_eq] at hk
     have h5 : ¬ j = 0 := fun h => hk (.inl h)
     have h6 : d[j]! = d[j - 1]! := Classical.byContradiction fun h => hk (.inr h)
     exact ⟨j - 1, by omega, by rw [← h6]; exact e⟩
theorem sortI_sorted (xs : List Int) : (sortI xs).Pairwise (· ≤ ·) := by
 unfold sortI
 have := List.pairwise_mergeSort (le := fun x y : Int => decide (x ≤ y)) (fun a b c h1 h2 => by simp at *; omega) (fun a b => by simp; omega) xs
 exact this.imp (fun h => by simpa using h)
theorem tidyRow (xs : List Int) : (Lib.compact (sortI xs)).Pairwise (· < ·) ∧ ∀ x, x ∈ Lib.compact (sortI xs) ↔ x ∈ xs := by
 unfold Lib.compact
 obtain ⟨h1, h2⟩ := compactUpTo_strict (sortI xs).toArray (by simpa using sortI_sorted xs) (sortI xs).length (by simp)
 refine ⟨h1, fun x => ?_⟩
 rw [h2, ← mem_sortI (r := xs)]
 constructor
 ·rintro ⟨j, hj, rfl⟩
  rw [getElem!_pos (sortI xs).toArray j (by simpa using hj)]
  simp
 ·intro h
  obtain ⟨j, hj, rfl⟩ := List.mem_iff_getElem.1 h
  exact ⟨j, hj, by rw [getElem!_pos (sortI xs).toArray j (by simpa using hj)]; simp⟩
theorem row_tidy (rows : List (List Int)) (v : Int) : row (tidy rows) v = Lib.compact (sortI (row rows v)) := by
 unfold row tidy
 rw [List.getD_eq_getElem?_getD, List.getD_eq_getElem?_getD, List.getElem?_map]
 cases h : rows[v.toNat]? with
 | none => simp [sortI, Lib.compact, Lib.compactUpTo]
 | some r => rfl
theorem row_built {n : Nat} : ∀ (l : List S55), Ok n l → ∀ (v x : Int), 0 ≤ v → v < n → ((x ∈ row (built n l true) v ↔ E l v x) ∧ (x ∈ row (built n l false) v ↔ E l x v)) := by
 have key : ∀ (l : List S55) (R : Bool → List (List Int)), Ok n l → (∀ b, (R b).length = n) → ∀ (b : Bool) (v x : Int), 0 ≤ v → v < n → (x ∈ row (l.foldl addE R b) v ↔ x ∈ row (R b) v ∨ (if b then E l v x else E l x v)) := by
  intro l
  induction l with
  | nil => intro R _ _ b v x _ _; cases b <;> simp [E]
  | cons e l ih =>
   intro R hok hR b v x h0 h1
   obtain ⟨e0, e1, e2, e3⟩ := hok e (by simp)
   rw [List.foldl_cons, ih (addE R e) (fun z hz => hok z (by simp [hz])) (fun b => by rw [addE_length]; exact hR b) b v x h0 h1]
   have hrow : x ∈ row (addE R e b) v ↔ x ∈ row (R b) v ∨ (if b then e.f0 = v ∧ e.f1 = x else e.f0 = x ∧ e.f1 = v) := by
    unfold addE
    cases b with
    | true =>
     rw [upd_other _ _ _ (by decide), upd_same]
     unfold row
     rw [List.getD_eq_getElem?_getD, List.getElem?_set]
     by_cases hv : e.f0 = v
     ·rw [if_pos (by omega), if_pos (by rw [hR]; omega)]
      subst hv
      simp [List.getD_eq_getElem?_getD, eq_comm]
     ·rw [if_neg (by omega), ← List.getD_eq_getElem?_getD]
      simp [hv]
    | false =>
     rw [upd_same, upd_other _ _ _ (by decide)]
     unfold row
     rw [List.getD_eq_getElem?_getD, List.getElem?_set]
     by_cases hv : e.f1 = v
     ·rw [if_pos (by omega), if_pos (by rw [hR]; omega)]
      subst hv
      simp [List.getD_eq_getElem?_getD, eq_comm]
     ·rw [if_neg (by omega), ← List.getD_eq_getElem?_getD]
      simp [hv]
   rw [hrow]
   have hE : ∀ a c, E (e :: l) a c ↔ (e.f0 = a ∧ e.f1 = c) ∨ E l a c := fun a c => by
    unfold E
    simp
   cases b with
   | true => simp only [if_true]; rw [hE]; exact or_assoc
   | false => simp only [Bool.false_eq_true, if_false]; rw [hE]; exact or_assoc
 intro l hok v x h0 h1
 have e : ∀ b : Bool, x ∈ row ((fun _ => List.replicate n ([] : List Int)) b) v ↔ False := fun b => by
  unfold row
  simp only [List.getD_eq_getElem?_getD, List.getElem?_replicate]
  split <;> simp
 have h1' := key l (fun _ => List.replicate n []) hok (fun _ => by simp) true v x h0 h1
 have h2' := key l (fun _ => List.replicate n []) hok (fun _ => by simp) false v x h0 h1
 rw [e true] at h1'
 rw [e false] at h2'
 exact ⟨by unfold built; rw [h1']; simp, by unfold built; rw [h2']; simp⟩
abbrev nx (n : Nat) (l : List S55) : List (List Int) := tidy (built n l true)
abbrev pv (n : Nat) (l : List S55) : List (List Int) := tidy (built n l false)
theorem mem_nx {n : Nat} {l : List S55} (h : Ok n l) {v : Int} (x : Int) (h0 : 0 ≤ v) (h1 : v < n) : x ∈ row (nx n l) v ↔ E l v x := by
 rw [row_tidy, (tidyRow _).2]; exact (row_built l h v x h0 h1).1
theorem mem_pv {n : Nat} {l : List S55} (h : Ok n l) {v : Int} (x : Int) (h0 : 0 ≤ v) (h1 : v < n) : x ∈ row (pv n l) v ↔ E l x v := by
 rw [row_tidy, (tidyRow _).2]; exact (row_built l h v x h0 h1).2
theorem row_strict (rows : List (List Int)) (v : Int) : (row (tidy rows) v).Pairwise (· < ·) := by rw [row_tidy]; exact (tidyRow _).1
theorem row_nodup (rows : List (List Int)) (v : Int) : (row (tidy rows) v).Nodup := (row_strict rows v).imp (fun h => by omega)
theorem len_nx (n : Nat) (l : List S55) : (nx n l).length = n := by unfold nx; rw [tidy_length, built_length]
theorem strict_ext {a b : List Int} (ha : a.Pairwise (· < ·)) (hb : b.Pairwise (· < ·)) (h : ∀ x, x ∈ a ↔ x ∈ b) : a = b := by
 have na : a.Nodup := ha.imp (fun h => by omega)
 have nb : b.Nodup := hb.imp (fun h => by omega)
 have hp : a.Perm b := (List.perm_ext_iff_of_nodup na nb).2 h
 exact List.Perm.eq_of_pairwise (le := fun x y : Int => x < y) (fun x y _ _ h1 h2 => by omega) ha hb hp
theorem nodup_len {n : Nat} {a : List Int} (hn : a.Nodup) (h : ∀ x ∈ a, 0 ≤ x ∧ x < (n : Int)) : a.length ≤ n := by
 have hs : a ⊆ (List.range n).map (fun k : Nat => (k : Int)) := fun x hx => by
  obtain ⟨h0, h1⟩ := h x hx
  exact List.mem_map.2 ⟨x.toNat, List.mem_range.2 (by omega), by omega⟩
 have := hn.length_le_of_subset hs
 simpa using this
end Go.Proofs.Ytlldjinejckbaaa.Pg

end
section
namespace Go.Proofs.Ytlldjinejckbaaa.Po
open Go Go.RowKit Go.Proofs.YtlldjinejckbaaaW.PrintWords Go.Proofs.Ytlldjinejckbaaa.Mod Go.Proofs.Ytlldjinejckbaaa.Lb Go.Proofs.Ytlldjinejckbaaa.Ng Go.Proofs.Ytlldjinejckbaaa.Rc Go.Proofs.Ytlldjinejckbaaa.PD Go.Proofs.Ytlldjinejckbaaa.Pg Go.Proofs.Ytlldjinejckbaaa.Od Go.Proofs.Ytlldjinejckbaaa.Ins
def Avail (n : Nat) (l : List S55) (out : List Int) (v : Int) : Prop := 0 ≤ v ∧ v < n ∧ v ∉ out ∧ ∀ u, E l u v → u ∈ out
def Greedy (n : Nat) (l : List S55) (out : List Int) : Prop := ∀ k : Nat, k < out.length → Avail n l (out.take k) (rd out k) ∧ ∀ u, Avail n l (out.take k) u → rd out k ≤ u
theorem rd_get {l : List Int} {k : Nat} (h : k < l.length) : rd l (k : Int) = l[k] := by
 unfold rd
 rw [Int.toNat_natCast, List.getD_eq_getElem?_getD, List.getElem?_eq_getElem h]
 rfl
theorem Greedy.nil (n : Nat) (l : List S55) : Greedy n l [] := fun k hk => absurd hk (Nat.not_lt_zero k)
theorem Greedy.snoc {n : Nat} {l : List S55} {out : List Int} (h : Greedy n l out) {v : Int} (ha : Avail n l out v) (hm : ∀ u, Avail n l out u → v ≤ u) : Greedy n l (out ++ [v]) := by
 intro k hk
 rw [List.length_append, List.length_singleton] at hk
 rcases Nat.lt_or_eq_of_le (Nat.le_of_lt_succ hk) with hk | hk
 ·have e1 : (out ++ [v]).take k = out.take k := by rw [List.take_append_of_le_length (Nat.le_of_lt hk)]
  have e2 : rd (out ++ [v]) (k : Int) = rd out (k : Int) := by rw [rd_get hk, rd_get (by simp; omega), List.getElem_append_left hk]
  rw [e1, e2]; exact h k hk
 ·subst hk
  have e1 : (out ++ [v]).take out.length = out := by simp
  have e2 : rd (out ++ [v]) (out.length : Int) = v := by rw [rd_get (by simp)]; simp
  rw [e1, e2]; exact ⟨ha, hm⟩
theorem Greedy.range {n : Nat} {l : List S55} {out : List Int} (h : Greedy n l out) : ∀ v ∈ out, 0 ≤ v ∧ v < (n : Int) := by
 intro v hv
 obtain ⟨k, hk, rfl⟩ := List.mem_iff_getElem.1 hv
 have := (h k hk).1
 rw [rd_get hk] at this
 exact ⟨this.1, this.2.1⟩
theorem Greedy.nodup {n : Nat} {l : List S55} {out : List Int} (h : Greedy n l out) : out.Nodup := by
 rw [List.nodup_iff_pairwise_ne, List.pairwise_iff_getElem]
 intro i j hi hj hij e
 have h2 := (h j hj).1.2.2.1
 rw [rd_get hj] at h2
 apply h2
 rw [List.mem_iff_getElem]
 exact ⟨i, by rw [List.length_take]; omega, by rw [List.getElem_take]; exact e⟩
theorem Greedy.before {n : Nat} {l : List S55} {out : List Int} (h : Greedy n l out) {k : Nat} (hk : k < out.length) {u : Int} (he : E l u (rd out k)) : u ∈ out.take k := (h k hk).1.2.2.2 u he
theorem Greedy.closed {n : Nat} {l : List S55} {out : List Int} (h : Greedy n l out) {u v : Int} (hv : v ∈ out) (he : E l u v) : u ∈ out := by
 obtain ⟨k, hk, rfl⟩ := List.mem_iff_getElem.1 hv
 rw [← rd_get hk] at he
 exact List.mem_of_mem_take (h.before hk he)
theorem Greedy.len {n : Nat} {l : List S55} {out : List Int} (h : Greedy n l out) : out.length ≤ n := nodup_len h.nodup h.range
theorem insert_strict (r : List Int) (x : Int) (h : r.Pairwise (· < ·)) (hx : x ∉ r) : (insertAt r (r.countP (· < x)) x).Pairwise (· < ·) ∧ ∀ y, y ∈ insertAt r (r.countP (· < x)) x ↔ y = x ∨ y ∈ r := by
 have hle := insert_sorted r x (h.imp (fun h => by omega))
 have hp : (insertAt r (r.countP (· < x)) x).Perm (x :: r) := by
  unfold insertAt
  have := List.perm_middle (a := x) (l₁ := r.take (r.countP (· < x))) (l₂ := r.drop (r.countP (· < x)))
  rwa [List.take_append_drop] at this
 have hn : (insertAt r (r.countP (· < x)) x).Nodup := hp.nodup_iff.2 (List.nodup_cons.2 ⟨hx, h.imp (fun h => by omega)⟩)
 refine ⟨?_, fun y => by rw [hp.mem_iff, List.mem_cons]⟩
 rw [List.pairwise_iff_getElem] at hle ⊢
 intro i j hi hj hij
 have h1 := hle i j hi hj hij
 have h2 := List.pairwise_iff_getElem.1 (List.nodup_iff_pairwise_ne.1 hn) i j hi hj hij
 omega
theorem wrap_small {x : Int} (h0 : -1000000 ≤ x) (h1 : x ≤ 1000000) : wrap64 x = x := by unfold wrap64; omega
theorem takeRow_spec : ∀ (xs w r : List Int), xs.Nodup → (∀ y ∈ xs, 0 ≤ y ∧ y < (w.length : Int)) → (∀ y ∈ xs, 1 ≤ rd w y ∧ rd w y ≤ 100000) → r.Pairwise (· < ·) → (∀ y ∈ xs, y ∉ r) →
  (takeRow xs w r).1.length = w.length ∧ (∀ y : Int, 0 ≤ y → rd (takeRow xs w r).1 y = rd w y - (if y ∈ xs then 1 else 0)) ∧ (takeRow xs w r).2.Pairwise (· < ·) ∧ ∀ y, y ∈ (takeRow xs w r).2 ↔ y ∈ r ∨ (y ∈ xs ∧ rd w y = 1)
 | [], w, r, _, _, _, hr, _ => ⟨rfl, fun y _ => by simp [takeRow], hr, fun y => by simp [takeRow]⟩
 | x :: xs, w, r, hn, hx, hb, hr, hnr => by
  obtain ⟨hx0, hx1⟩ := hx x (by simp)
  obtain ⟨hb0, hb1⟩ := hb x (by simp)
  rw [List.nodup_cons] at hn
  have hw : wrap64 (rd w x - 1) = rd w x - 1 := wrap_small (by omega) (by omega)
  have hset : ∀ y, 0 ≤ y → rd (w.set x.toNat (rd w x - 1)) y = if y = x then rd w x - 1 else rd w y := fun y hy => by
   by_cases e : y = x
   ·subst e; rw [if_pos rfl, rd_set_same _ _ _ hx0 hx1]
   ·rw [if_neg e, rd_set_other _ _ _ _ hy hx0 e]
  have hxs : ∀ y ∈ xs, y ≠ x := fun y hy e => hn.1 (by rw [← e]; exact hy)
  have h1 : ∀ y ∈ xs, 0 ≤ y ∧ y < ((w.set x.toNat (rd w x - 1)).length : Int) := fun y hy => by rw [List.length_set]; exact hx y (List.mem_cons_of_mem _ hy)
  have h2 : ∀ y ∈ xs, 1 ≤ rd (w.set x.toNat (rd w x - 1)) y ∧ rd (w.set x.toNat (rd w x - 1)) y ≤ 100000 := fun y hy => by
   rw [hset y (hx y (List.mem_cons_of_mem _ hy)).1, if_neg (hxs y hy)]; exact hb y (List.mem_cons_of_mem _ hy)
  have fin : ∀ (r' : List Int), r'.Pairwise (· < ·) → (∀ y ∈ xs, y ∉ r') → (∀ y, y ∈ r' ↔ y ∈ r ∨ (y = x ∧ rd w x = 1)) →
    (takeRow xs (w.set x.toNat (rd w x - 1)) r').1.length = w.length ∧ (∀ y : Int, 0 ≤ y → rd (takeRow xs (w.set x.toNat (rd w x - 1)) r').1 y = rd w y - (if y ∈ x :: xs then 1 else 0)) ∧
    (takeRow xs (w.set x.toNat (rd w x - 1)) r').2.Pairwise (· < ·) ∧ ∀ y, y ∈ (takeRow xs (w.set x.toNat (rd w x - 1)) r').2 ↔ y ∈ r ∨ (y ∈ x :: xs ∧ rd w y = 1) := by
   intro r' hr' hnr' hm
   obtain ⟨a, b, c, d⟩ := takeRow_spec xs (w.set x.toNat (rd w x - 1)) r' hn.2 h1 h2 hr' hnr'
   refine ⟨by rw [a, List.length_set], fun y hy => ?_, c, fun y => ?_⟩
   ·rw [b y hy, hset y hy]
    by_cases e : y = x
    ·subst e; rw [if_pos rfl, if_neg hn.1, if_pos (by simp)]; omega
    ·rw [if_neg e]
     by_cases hyx : y ∈ xs
     ·rw [if_pos hyx, if_pos (by simp [hyx])]
     ·rw [if_neg hyx, if_neg (by simp [hyx, e])]
   ·rw [d, hm]
    constructor
    ·rintro ((h | ⟨e, h⟩) | ⟨h, h'⟩)
     ·exact .inl h
     ·subst e; exact .inr ⟨by simp, h⟩
     ·rw [hset y (hx y (List.mem_cons_of_mem _ h)).1, if_neg (hxs y h)] at h'
      exact .inr ⟨by simp [h], h'⟩
    ·rintro (h | ⟨h, h'⟩)
     ·exact .inl (.inl h)
     ·rcases List.mem_cons.1 h with e | h
      ·subst e; exact .inl (.inr ⟨rfl, h'⟩)
      ·exact .inr ⟨h, by rw [hset y (hx y (List.mem_cons_of_mem _ h)).1, if_neg (hxs y h)]; exact h'⟩
  unfold takeRow
  rw [hw]
  by_cases hz : rd w x - 1 = 0
  ·rw [if_pos hz]
   obtain ⟨i1, i2⟩ := insert_strict r x hr (hnr x (by simp))
   exact fin _ i1 (fun y hy => by rw [i2]; rintro (e | e); exact hxs y hy e; exact hnr y (by simp [hy]) e) (fun y => by rw [i2]; constructor; (rintro (e | e); exact .inr ⟨e, by omega⟩; exact .inl e); (rintro (e | e); exact .inr e; exact .inl e.1))
  ·rw [if_neg hz]
   exact fin r hr (fun y hy => hnr y (by simp [hy])) (fun y => ⟨fun h => .inl h, fun h => h.elim id (fun h => absurd h.2 (by omega))⟩)
theorem countP_out (L : List Int) (hn : L.Nodup) (out : List Int) (v : Int) (hv : v ∉ out) : L.countP (fun u => decide (u ∉ out ++ [v])) + (if v ∈ L then 1 else 0) = L.countP (fun u => decide (u ∉ out)) := by
 induction L with
 | nil => simp
 | cons a L ih =>
  rw [List.nodup_cons] at hn
  have ih := ih hn.2
  rw [List.countP_cons, List.countP_cons]
  by_cases e : a = v
  ·subst e
   rw [if_neg hn.1] at ih
   simp [hv] at ih ⊢
   omega
  ·have e1 : (decide (a ∉ out ++ [v])) = decide (a ∉ out) := by simp [e]
   rw [e1]
   have e2 : (v ∈ a :: L) ↔ v ∈ L := by simp [Ne.symm e]
   by_cases hL : v ∈ L
   ·rw [if_pos hL] at ih; rw [if_pos (e2.2 hL)]; omega
   ·rw [if_neg hL] at ih; rw [if_neg (fun h => hL (e2.1 h))]; omega
structure KInv (n : Nat) (l : List S55) (w r out : List Int) : Prop where
 wl : w.length = n
 g : Greedy n l out
 cnt : ∀ v : Int, 0 ≤ v → v < n → v ∉ out → rd w v = ((row (pv n l) v).countP (fun u => decide (u ∉ out)) : Nat)
 rs : r.Pairwise (· < ·)
 rm : ∀ v, v ∈ r ↔ Avail n l out v
theorem KInv.step {n : Nat} (hn : n ≤ 1000) {l : List S55} (hl : Ok n l) {w q out : List Int} {v : Int} (h : KInv n l w (v :: q) out) : KInv n l (takeRow (row (nx n l) v) w q).1 (takeRow (row (nx n l) v) w q).2 (out ++ [v]) := by
 have hv : Avail n l out v := (h.rm v).1 (by simp)
 obtain ⟨hv0, hv1, hvo, hvp⟩ := hv
 have hrow : ∀ y, y ∈ row (nx n l) v ↔ E l v y := fun y => mem_nx hl y hv0 hv1
 have hq := List.pairwise_cons.1 h.rs
 have hs : ∀ y ∈ row (nx n l) v, 0 ≤ y ∧ y < (n : Int) ∧ y ∉ out ∧ y ≠ v := fun y hy => by
  have he := (hrow y).1 hy
  obtain ⟨_, _, y0, y1⟩ := he.ok hl
  exact ⟨y0, y1, fun hyo => hvo (h.g.closed hyo he), fun e => by subst e; exact hvo (hvp _ he)⟩
 have hb : ∀ y ∈ row (nx n l) v, 1 ≤ rd w y ∧ rd w y ≤ 100000 := fun y hy => by
  obtain ⟨y0, y1, y2, y3⟩ := hs y hy
  rw [h.cnt y y0 y1 y2]
  have h1 : 0 < (row (pv n l) y).countP (fun u => decide (u ∉ out)) := List.countP_pos_iff.2 ⟨v, (mem_pv hl v y0 y1).2 ((hrow y).1 hy), by simpa using hvo⟩
  have h2 : (row (pv n l) y).countP (fun u => decide (u ∉ out)) ≤ (row (pv n l) y).length := List.countP_le_length
  have h3 : (row (pv n l) y).length ≤ n := nodup_len (row_nodup _ _) (fun u hu => by have := ((mem_pv hl u y0 y1).1 hu).ok hl; exact ⟨this.1, this.2.1⟩)
  omega
 obtain ⟨t1, t2, t3, t4⟩ := takeRow_spec (row (nx n l) v) w q (row_nodup _ _) (fun y hy => by rw [h.wl]; exact ⟨(hs y hy).1, (hs y hy).2.1⟩) hb hq.2 (fun y hy hyq => hvo (((h.rm y).1 (by simp [hyq])).2.2.2 v ((hrow y).1 hy)))
 have hcnt : ∀ y : Int, 0 ≤ y → y < n → y ∉ out ++ [v] → rd (takeRow (row (nx n l) v) w q).1 y = ((row (pv n l) y).countP (fun u => decide (u ∉ out ++ [v])) : Nat) := fun y y0 y1 hy => by
  have hyo : y ∉ out := fun h => hy (by simp [h])
  have hc := countP_out (row (pv n l) y) (row_nodup _ _) out v hvo
  rw [t2 y y0, h.cnt y y0 y1 hyo]
  by_cases he : y ∈ row (nx n l) v
  ·rw [if_pos he]
   rw [if_pos ((mem_pv hl v y0 y1).2 ((hrow y).1 he))] at hc
   omega
  ·rw [if_neg he]
   rw [if_neg (fun h => he ((hrow y).2 ((mem_pv hl v y0 y1).1 h)))] at hc
   omega
 refine ⟨by rw [t1, h.wl], h.g.snoc ⟨hv0, hv1, hvo, hvp⟩ (fun u hu => ?_), hcnt, t3, fun y => ?_⟩
 ·have hur := (h.rm u).2 hu
  rcases List.mem_cons.1 hur with e | hur
  ·omega
  ·have := hq.1 u hur; omega
 ·rw [t4]
  have hcz : ∀ (o : List Int), 0 ≤ y → y < n → ((row (pv n l) y).countP (fun u => decide (u ∉ o)) = 0 ↔ ∀ u, E l u y → u ∈ o) := fun o y0 y1 => by
   rw [List.countP_eq_zero]
   constructor
   ·intro h u hu
    have := h u ((mem_pv hl u y0 y1).2 hu)
    simpa using this
   ·intro h u hu
    have := h u ((mem_pv hl u y0 y1).1 hu)
    simpa using this
  constructor
  ·rintro (hyq | ⟨hyr, hy1⟩)
   ·obtain ⟨y0, y1, y2, y3⟩ := (h.rm y).1 (by simp [hyq])
    have := hq.1 y hyq
    exact ⟨y0, y1, by simp [y2]; omega, fun u hu => by simp [y3 u hu]⟩
   ·obtain ⟨y0, y1, y2, y3⟩ := hs y hyr
    refine ⟨y0, y1, by simp [y2, y3], (hcz _ y0 y1).1 ?_⟩
    have hc := countP_out (row (pv n l) y) (row_nodup _ _) out v hvo
    rw [if_pos ((mem_pv hl v y0 y1).2 ((hrow y).1 hyr))] at hc
    rw [h.cnt y y0 y1 y2] at hy1
    omega
  ·rintro ⟨y0, y1, y2, y3⟩
   have hyo : y ∉ out := fun h => y2 (by simp [h])
   have hyv : y ≠ v := fun h => y2 (by simp [h])
   by_cases hall : ∀ u, E l u y → u ∈ out
   ·have := (h.rm y).2 ⟨y0, y1, hyo, hall⟩
    rcases List.mem_cons.1 this with e | hyq
    ·exact absurd e hyv
    ·exact .inl hyq
   ·have hev : E l v y := Classical.byContradiction fun hne => hall fun u hu => by
     have := y3 u hu
     rcases List.mem_append.1 this with h | h
     ·exact h
     ·rw [List.mem_singleton] at h; subst h; exact absurd hu hne
    refine .inr ⟨(hrow y).2 hev, ?_⟩
    have hc := countP_out (row (pv n l) y) (row_nodup _ _) out v hvo
    rw [if_pos ((mem_pv hl v y0 y1).2 hev), (hcz _ y0 y1).2 y3] at hc
    rw [h.cnt y y0 y1 hyo]
    omega
end Go.Proofs.Ytlldjinejckbaaa.Po

end
section
namespace Go.Proofs.Ytlldjinejckbaaa.Pd
open Go Go.RowKit Go.Proofs.YtlldjinejckbaaaW.PrintWords Go.Proofs.Ytlldjinejckbaaa.Mod Go.Proofs.Ytlldjinejckbaaa.Lb Go.Proofs.Ytlldjinejckbaaa.Ng Go.Proofs.Ytlldjinejckbaaa.Rc Go.Proofs.Ytlldjinejckbaaa.PD Go.Proofs.Ytlldjinejckbaaa.Pg Go.Proofs.Ytlldjinejckbaaa.Od Go.Proofs.Ytlldjinejckbaaa.Po Go.Proofs.Ytlldjinejckbaaa.Dp
theorem stepD_fold (v : Int) (hv : 0 ≤ v) : ∀ (xs cur : List Int), xs.Nodup → v ∉ xs → (∀ y ∈ xs, 0 ≤ y ∧ y < (cur.length : Int)) → -1000 ≤ rd cur v → rd cur v ≤ 100000 →
  (xs.foldl (stepD v) cur).length = cur.length ∧ ∀ y : Int, 0 ≤ y → rd (xs.foldl (stepD v) cur) y = if y ∈ xs then max (rd cur y) (rd cur v + 1) else rd cur y
 | [], cur, _, _, _, _, _ => ⟨rfl, fun y _ => by simp⟩
 | x :: xs, cur, hn, hvx, hx, hb0, hb1 => by
  rw [List.nodup_cons] at hn
  obtain ⟨hx0, hx1⟩ := hx x (by simp)
  have hw : wrap64 (rd cur v + 1) = rd cur v + 1 := Po.wrap_small (by omega) (by omega)
  have hne : v ≠ x := fun e => hvx (by simp [e])
  have hset : ∀ y, 0 ≤ y → rd (stepD v cur x) y = if y = x then max (rd cur x) (rd cur v + 1) else rd cur y := fun y hy => by
   unfold stepD
   rw [hw]
   by_cases e : y = x
   ·subst e; rw [if_pos rfl, rd_set_same _ _ _ hx0 hx1]
   ·rw [if_neg e, rd_set_other _ _ _ _ hy hx0 e]
  have hvv : rd (stepD v cur x) v = rd cur v := by rw [hset v hv, if_neg hne]
  obtain ⟨a, b⟩ := stepD_fold v hv xs (stepD v cur x) hn.2 (fun h => hvx (by simp [h])) (fun y hy => by rw [stepD_len]; exact hx y (by simp [hy])) (by rw [hvv]; exact hb0) (by rw [hvv]; exact hb1)
  rw [List.foldl_cons]
  refine ⟨by rw [a, stepD_len], fun y hy => ?_⟩
  rw [b y hy, hset y hy, hvv]
  by_cases e : y = x
  ·subst e; rw [if_neg hn.1, if_pos rfl, if_pos (by simp)]
  ·rw [if_neg e]
   by_cases h : y ∈ xs
   ·rw [if_pos h, if_pos (by simp [h])]
   ·rw [if_neg h, if_neg (by simp [h, e])]
structure DInv (n : Nat) (l : List S55) (P cur : List Int) : Prop where
 len : cur.length = n
 lo : ∀ w : Int, 0 ≤ w → w < n → 0 ≤ rd cur w ∧ rd cur w ≤ (P.length : Int)
 ge : ∀ u w : Int, u ∈ P → E l u w → rd cur u + 1 ≤ rd cur w
 inP : ∀ u ∈ P, rd cur u < (P.length : Int)
 at_ : ∀ w : Int, 0 ≤ w → w < n → rd cur w = 0 ∨ ∃ u, u ∈ P ∧ E l u w ∧ rd cur w = rd cur u + 1
theorem DInv.step {n : Nat} {l : List S55} (hl : Ok n l) {P cur : List Int} {v : Int} (h : DInv n l P cur) (hP : P.length ≤ 1000) (hv0 : 0 ≤ v) (hv1 : v < n) (hvs : ¬ E l v v) (hvP : ∀ u ∈ P, ¬ E l v u) (hP0 : ∀ u ∈ P, 0 ≤ u) :
  DInv n l (P ++ [v]) ((row (nx n l) v).foldl (stepD v) cur) := by
 have hrow : ∀ y, y ∈ row (nx n l) v ↔ E l v y := fun y => mem_nx hl y hv0 hv1
 obtain ⟨b0, b1⟩ := h.lo v hv0 hv1
 obtain ⟨s1, s2⟩ := stepD_fold v hv0 (row (nx n l) v) cur (row_nodup _ _) (fun hm => hvs ((hrow v).1 hm)) (fun y hy => by rw [h.len]; have := ((hrow y).1 hy).ok hl; exact ⟨this.2.2.1, this.2.2.2⟩) (by omega) (by omega)
 have hold : ∀ u, 0 ≤ u → (u ∈ P ∨ u = v) → rd ((row (nx n l) v).foldl (stepD v) cur) u = rd cur u := fun u hu hm => by
  rw [s2 u hu, if_neg]
  intro hr
  have he := (hrow u).1 hr
  rcases hm with hm | hm
  ·exact hvP u hm he
  ·subst hm; exact hvs he
 refine ⟨by rw [s1, h.len], fun w w0 w1 => ?_, fun u w hu he => ?_, fun u hu => ?_, fun w w0 w1 => ?_⟩
 ·obtain ⟨c0, c1⟩ := h.lo w w0 w1
  rw [s2 w w0, List.length_append, List.length_singleton]
  split <;> omega
 ·obtain ⟨u0, u1, w0, w1⟩ := he.ok hl
  have hu' : u ∈ P ∨ u = v := by rcases List.mem_append.1 hu with h | h; exact .inl h; exact .inr (by simpa using h)
  rw [hold u u0 hu', s2 w w0]
  rcases hu' with hu' | hu'
  ·have := h.ge u w hu' he
   split <;> omega
  ·subst hu'
   rw [if_pos ((hrow w).2 he)]
   omega
 ·rw [List.length_append, List.length_singleton]
  rcases List.mem_append.1 hu with hu | hu
  ·have h1 := h.inP u hu
   rw [hold u (hP0 u hu) (.inl hu)]
   omega
  ·rw [List.mem_singleton] at hu
   subst hu
   rw [hold u hv0 (.inr rfl)]
   omega
 ·rw [s2 w w0]
  by_cases hm : w ∈ row (nx n l) v
  ·rw [if_pos hm]
   by_cases hc : rd cur w ≤ rd cur v + 1
   ·right
    refine ⟨v, by simp, (hrow w).1 hm, ?_⟩
    rw [hold v hv0 (.inr rfl)]
    omega
   ·rcases h.at_ w w0 w1 with e | ⟨u, hu, he, e⟩
    ·left; omega
    ·right
     refine ⟨u, by simp [hu], he, ?_⟩
     rw [hold u (he.ok hl).1 (.inl hu)]
     omega
  ·rw [if_neg hm]
   rcases h.at_ w w0 w1 with e | ⟨u, hu, he, e⟩
   ·exact .inl e
   ·exact .inr ⟨u, by simp [hu], he, by rw [hold u (he.ok hl).1 (.inl hu)]; exact e⟩
end Go.Proofs.Ytlldjinejckbaaa.Pd

end
section
namespace Go.Proofs.Ytlldjinejckbaaa.Pe
open Go Go.RowKit Go.Proofs.YtlldjinejckbaaaW.PrintWords Go.Proofs.Ytlldjinejckbaaa.Mod Go.Proofs.Ytlldjinejckbaaa.Lb Go.Proofs.Ytlldjinejckbaaa.Ng Go.Proofs.Ytlldjinejckbaaa.Rc Go.Proofs.Ytlldjinejckbaaa.PD Go.Proofs.Ytlldjinejckbaaa.Pg Go.Proofs.Ytlldjinejckbaaa.Tj
def uins (x : Int) : List Int → List Int
 | [] => [x]
 | y :: ys => if x < y then x :: y :: ys else if x = y then y :: ys else y :: uins x ys
def usort (xs : List Int) : List Int := xs.foldr uins []
theorem mem_uins (x z : Int) : ∀ ys, z ∈ uins x ys ↔ z = x ∨ z ∈ ys
 | [] => by simp [uins]
 | y :: ys => by
  unfold uins
  split
  ·simp
  ·split
   ·rename_i h; subst h; simp
   ·rw [List.mem_cons, mem_uins x z ys, List.mem_cons]
    constructor
    ·rintro (h | h | h); exact .inr (.inl h); exact .inl h; exact .inr (.inr h)
    ·rintro (h | h | h); exact .inr (.inl h); exact .inl h; exact .inr (.inr h)
theorem uins_strict (x : Int) : ∀ ys, ys.Pairwise (· < ·) → (uins x ys).Pairwise (· < ·)
 | [], _ => by simp [uins]
 | y :: ys, h => by
  rw [List.pairwise_cons] at h
  unfold uins
  split
  ·rename_i hx
   rw [List.pairwise_cons]
   refine ⟨fun z hz => ?_, List.pairwise_cons.2 h⟩
   rcases List.mem_cons.1 hz with hz | hz
   ·omega
   ·have := h.1 z hz; omega
  ·split
   ·exact List.pairwise_cons.2 h
   ·rw [List.pairwise_cons]
    refine ⟨fun z hz => ?_, uins_strict x ys h.2⟩
    rcases (mem_uins x z ys).1 hz with hz | hz
    ·omega
    ·exact h.1 z hz
theorem usort_spec : ∀ xs : List Int, (usort xs).Pairwise (· < ·) ∧ ∀ z, z ∈ usort xs ↔ z ∈ xs
 | [] => by simp [usort]
 | x :: xs => by
  obtain ⟨h1, h2⟩ := usort_spec xs
  exact ⟨uins_strict x _ h1, fun z => by show z ∈ uins x (usort xs) ↔ _; rw [mem_uins, h2, List.mem_cons]⟩
theorem compact_sort (xs : List Int) : Lib.compact (sortI xs) = usort xs := strict_ext (tidyRow xs).1 (usort_spec xs).1 (fun z => by rw [(tidyRow xs).2, (usort_spec xs).2])
theorem tidy_eval (rows : List (List Int)) : tidy rows = rows.map usort := by
 unfold tidy
 exact List.map_congr_left (fun r _ => compact_sort r)
def ins1 (x : Int) : List Int → List Int
 | [] => [x]
 | y :: ys => if x ≤ y then x :: y :: ys else y :: ins1 x ys
def isort (xs : List Int) : List Int := xs.foldr ins1 []
theorem ins1_perm (x : Int) : ∀ ys, (ins1 x ys).Perm (x :: ys)
 | [] => .refl _
 | y :: ys => by
  unfold ins1
  split
  ·exact .refl _
  ·exact ((ins1_perm x ys).cons y).trans (List.Perm.swap x y ys)
theorem ins1_sorted (x : Int) : ∀ ys, ys.Pairwise (· ≤ ·) → (ins1 x ys).Pairwise (· ≤ ·)
 | [], _ => by simp [ins1]
 | y :: ys, h => by
  rw [List.pairwise_cons] at h
  unfold ins1
  split
  ·rename_i hx
   rw [List.pairwise_cons]
   refine ⟨fun z hz => ?_, List.pairwise_cons.2 h⟩
   rcases List.mem_cons.1 hz with hz | hz
   ·omega
   ·have := h.1 z hz; omega
  ·rw [List.pairwise_cons]
   refine ⟨fun z hz => ?_, ins1_sorted x ys h.2⟩
   rcases List.mem_cons.1 ((ins1_perm x ys).mem_iff.1 hz) with hz | hz
   ·omega
   ·exact h.1 z hz
theorem isort_spec : ∀ xs : List Int, (isort xs).Pairwise (· ≤ ·) ∧ (isort xs).Perm xs
 | [] => by simp [isort]
 | x :: xs => by
  obtain ⟨h1, h2⟩ := isort_spec xs
  exact ⟨ins1_sorted x _ h1, (ins1_perm x _).trans (h2.cons x)⟩
theorem sortA_eq : sortA = isort := by
 funext xs
 have h1 : (sortA xs).Pairwise (· ≤ ·) := sortI_sorted xs
 have h2 : (sortA xs).Perm xs := List.mergeSort_perm _ _
 exact List.Perm.eq_of_pairwise (le := fun x y : Int => x ≤ y) (fun x y _ _ h1 h2 => by omega) h1 (isort_spec xs).1 (h2.trans (isort_spec xs).2.symm)
def shutE (s : TS) (k : Nat) : TS :=
 { s with stack := s.stack.take k, opn := (s.stack.drop k).foldl (fun o x => o.set x.toNat false) s.opn, out := s.out ++ [isort (s.stack.drop k)] }
def visitE (rows : List (List Int)) : Nat → Int → TS → Option TS
 | 0, _, _ => none
 | f + 1, v, s => if 50000 < s.stack.length then none else match visitRow (visitE rows f) v (row rows v) (s.meet v) with
  | none => none
  | some s2 => if rd s2.low v < rd s2.num v then some s2 else if 50000 < s2.stack.length ∨ 50000 < s2.out.length then none else (match s2.stack.findIdx? (· == v) with
   | some k => some (shutE s2 k)
   | none => none)
theorem visit_eq (rows : List (List Int)) : ∀ f, visit rows f = visitE rows f
 | 0 => by funext v s; rfl
 | f + 1 => by
  funext v s
  unfold visit visitE
  rw [visit_eq rows f]
  have e : ∀ (s : TS) k, s.shut k = shutE s k := fun s k => by unfold TS.shut shutE; rw [sortA_eq]
  simp only [e]
  rfl
def visitAllE (rows : List (List Int)) (n : Nat) : Nat → TS → Option TS
 | 0, s => some s
 | k + 1, s => if rd s.num ((n - (k + 1) : Nat) : Int) = 0 then (match visitE rows (n + 1) ((n - (k + 1) : Nat) : Int) s with
   | some s' => visitAllE rows n k s'
   | none => none) else visitAllE rows n k s
theorem visitAll_eq (rows : List (List Int)) (n : Nat) : ∀ k s, visitAll rows n k s = visitAllE rows n k s
 | 0, s => rfl
 | k + 1, s => by
  unfold visitAll visitAllE
  rw [visit_eq]
  split
  ·split
   ·rename_i s' h; rw [h]; exact visitAll_eq rows n k s'
   ·rename_i h; rw [h]
  ·exact visitAll_eq rows n k s
abbrev g1 : List S55 := [⟨2, 0⟩, ⟨0, 3⟩, ⟨1, 3⟩]
abbrev g2 : List S55 := [⟨2, 0⟩, ⟨0, 3⟩, ⟨1, 3⟩, ⟨3, 2⟩]
abbrev g3 : List S55 := [⟨2, 0⟩, ⟨0, 3⟩, ⟨1, 3⟩, ⟨1, 1⟩]
theorem t1 : tidy (built 4 g1 true) = [[3], [3], [0], []] := by rw [tidy_eval]; decide +kernel
theorem t1p : tidy (built 4 g1 false) = [[2], [], [], [0, 1]] := by rw [tidy_eval]; decide +kernel
theorem t2 : tidy (built 4 g2 true) = [[3], [3], [0], [2]] := by rw [tidy_eval]; decide +kernel
theorem t2p : tidy (built 4 g2 false) = [[2], [], [3], [0, 1]] := by rw [tidy_eval]; decide +kernel
theorem t3 : tidy (built 4 g3 true) = [[3], [1, 3], [0], []] := by rw [tidy_eval]; decide +kernel
theorem t3p : tidy (built 4 g3 false) = [[2], [1], [], [0, 1]] := by rw [tidy_eval]; decide +kernel
theorem o1 : Od.orderOf 4 g1 = some ([1, 2, 0, 3], 0) := by unfold Od.orderOf; rw [t1, t1p]; decide +kernel
theorem o2 : Od.orderOf 4 g2 = some ([], 50) := by unfold Od.orderOf; rw [t2, t2p]; decide +kernel
theorem d1 : Dp.depthOf 4 g1 = some ([1, 0, 0, 2], 0) := by unfold Dp.depthOf; rw [o1, t1]; decide +kernel
theorem d2 : Dp.depthOf 4 g2 = some ([], 50) := by unfold Dp.depthOf; rw [o2]; rfl
theorem c1 : Cy.cycleOf 4 g1 = some ([], 4) := by unfold Cy.cycleOf; rw [t1, t1p]; decide +kernel
theorem c2 : Cy.cycleOf 4 g2 = some ([0, 3, 2], 0) := by unfold Cy.cycleOf; rw [t2, t2p]; decide +kernel
theorem c3 : Cy.cycleOf 4 g3 = some ([1], 0) := by unfold Cy.cycleOf; rw [t3, t3p]; decide +kernel
theorem k1 : Tj.compsOf (tidy (built 4 g2 true)) 4 = some [[0, 2, 3], [1]] := by
 unfold Tj.compsOf
 rw [t2, visitAll_eq]
 have e : visitAllE [[3], [3], [0], [2]] 4 4 (Tj.start 4) = some { count := 4, num := [1, 4, 3, 2], low := [1, 4, 1, 1], opn := [false, false, false, false], stack := [], out := [[0, 2, 3], [1]] } := by kernel_rfl
 rw [e]
 have hf : Tj.fine [[0, 2, 3], [1]] = true := by decide +kernel
 simp only
 rw [if_pos hf, List.mergeSort_of_pairwise (by decide +kernel)]
theorem ch1 : Ck.checkOf 4 g1 [2, 0, 1, 3] = 0 := by decide +kernel
theorem ch2 : Ck.checkOf 4 g1 [0, 1, 2, 3] = 6 := by decide +kernel
theorem o0 : Od.orderOf 0 [] = some ([], 0) := by unfold Od.orderOf; rw [tidy_eval, tidy_eval]; decide +kernel
theorem sortI_eq : sortI = isort := sortA_eq
theorem r1 : Rc.reachOf 4 g1 2 = [0, 2, 3] := by unfold Rc.reachOf; rw [t1, sortI_eq]; decide +kernel
theorem r2 : Rc.reachOf 4 g1 4 = [] := by decide +kernel
end Go.Proofs.Ytlldjinejckbaaa.Pe

end
section
namespace Go.Proofs.Ytlldjinejckbaaa.PD
open Go Go.RowKit Go.Proofs.YtlldjinejckbaaaW.PrintWords Go.Proofs.YtlldjinejckbaaaW.PrintLast Go.Proofs.YtlldjinejckbaaaW.PrintMore
open Go.Proofs.Ytlldjinejckbaaa.Pg Go.Proofs.Ytlldjinejckbaaa.Pe
theorem ex_order1 : wireloomlaw05_order.f 4 g1 = some ([1, 2, 0, 3], 0) := by unfold wireloomlaw05_order.f digraph_Order.f; rw [if_pos (by decide), show (4 : Int).toNat = 4 from rfl, o1]; rfl
theorem ex_order2 : wireloomlaw05_order.f 4 g2 = some ([], 50) := by unfold wireloomlaw05_order.f digraph_Order.f; rw [if_pos (by decide), show (4 : Int).toNat = 4 from rfl, o2]; rfl
theorem ex_order0 : wireloomlaw05_order.f 0 [] = some ([], 0) := by unfold wireloomlaw05_order.f digraph_Order.f; rw [if_pos (by decide), show (0 : Int).toNat = 0 from rfl, o0]; rfl
theorem ex_depth1 : wireloomlaw05_depth.f 4 g1 = some ([1, 0, 0, 2], 0) := by unfold wireloomlaw05_depth.f digraph_Depth.f; rw [if_pos (by decide), show (4 : Int).toNat = 4 from rfl, d1]; rfl
theorem ex_depth2 : wireloomlaw05_depth.f 4 g2 = some ([], 50) := by unfold wireloomlaw05_depth.f digraph_Depth.f; rw [if_pos (by decide), show (4 : Int).toNat = 4 from rfl, d2]; rfl
theorem ex_cycle1 : wireloomlaw05_cycle.f 4 g1 = some ([], 4) := by unfold wireloomlaw05_cycle.f digraph_Cycle.f; rw [if_pos (by decide), show (4 : Int).toNat = 4 from rfl, c1]; rfl
theorem ex_cycle2 : wireloomlaw05_cycle.f 4 g2 = some ([0, 3, 2], 0) := by unfold wireloomlaw05_cycle.f digraph_Cycle.f; rw [if_pos (by decide), show (4 : Int).toNat = 4 from rfl, c2]; rfl
theorem ex_cycle3 : wireloomlaw05_cycle.f 4 g3 = some ([1], 0) := by unfold wireloomlaw05_cycle.f digraph_Cycle.f; rw [if_pos (by decide), show (4 : Int).toNat = 4 from rfl, c3]; rfl
theorem ex_reach1 : digraph_Reach.f 4 g1 2 = some [0, 2, 3] := by unfold digraph_Reach.f; rw [if_pos (by decide), show (4 : Int).toNat = 4 from rfl, r1]
theorem ex_reach2 : digraph_Reach.f 4 g1 4 = some [] := by unfold digraph_Reach.f; rw [if_pos (by decide), show (4 : Int).toNat = 4 from rfl, r2]
theorem ex_comps : digraph_Components.f 4 g2 = some [[0, 2, 3], [1]] := by unfold digraph_Components.f; rw [if_pos (by decide), show (4 : Int).toNat = 4 from rfl, k1]
theorem ex_check1 : digraph_Check.f 4 g1 [2, 0, 1, 3] = some 0 := by unfold digraph_Check.f; rw [if_pos (by decide), show (4 : Int).toNat = 4 from rfl, ch1]
theorem ex_check2 : digraph_Check.f 4 g1 [0, 1, 2, 3] = some 6 := by unfold digraph_Check.f; rw [if_pos (by decide), show (4 : Int).toNat = 4 from rfl, ch2]
theorem ex_with1 : wireloomref05_With.f 4 g1 3 2 = some (4, g2) := by kernel_rfl
theorem ex_with2 : wireloomref05_With.f 4 g1 1 1 = some (4, g3) := by kernel_rfl
theorem ex_valid1 : digraph_Valid.f 20 4 g1 = some true := by kernel_rfl
theorem ex_valid2 : digraph_Valid.f 20 3 g1 = some false := by kernel_rfl
theorem examples_at : wireloomlaw05_examples.f 22 = some true := by
 unfold wireloomlaw05_examples.f
 simp only [Option.bind_some]
 rw [ex_with1, Option.bind_some, ex_with2, Option.bind_some, ex_order1, Option.bind_some]
 rw [show wireloomref05_Alike.f 22 [1, 2, 0, 3] 0 [1, 2, 0, 3] 0 = some true from by kernel_rfl, Option.bind_some, if_pos rfl, ex_depth1, Option.bind_some]
 rw [show wireloomref05_Alike.f 22 [1, 0, 0, 2] 0 [1, 0, 0, 2] 0 = some true from by kernel_rfl, Option.bind_some, if_pos rfl, ex_reach1, Option.bind_some]
 rw [show wireloomref05_Same.f 22 [0, 2, 3] [0, 2, 3] = some true from by kernel_rfl, Option.bind_some, if_pos rfl, ex_cycle1, Option.bind_some]
 show wireloomlaw05_examples.j0 (21 + 1) false 4 g1 4 g2 4 g3 = some true
 simp only [wireloomlaw05_examples.j0]
 rw [if_neg (by decide), ex_order2, Option.bind_some, if_pos rfl, ex_depth2, Option.bind_some, if_pos rfl, ex_cycle2, Option.bind_some]
 rw [show wireloomref05_Alike.f 21 [0, 3, 2] 0 [0, 3, 2] 0 = some true from by kernel_rfl, Option.bind_some, if_pos rfl, ex_cycle3, Option.bind_some]
 rw [show wireloomref05_Alike.f 21 [1] 0 [1] 0 = some true from by kernel_rfl, Option.bind_some, if_pos rfl, ex_comps, Option.bind_some]
 rw [show wireloomref05_SameLists.f 21 [[0, 2, 3], [1]] [[0, 2, 3], [1]] = some true from by kernel_rfl, Option.bind_some]
 show wireloomlaw05_examples.j1 (20 + 1) false 4 g1 = some true
 simp only [wireloomlaw05_examples.j1]
 rw [if_neg (by decide), ex_valid1, Option.bind_some, if_pos rfl, ex_valid2, Option.bind_some, if_neg (by decide), ex_check1, Option.bind_some, if_pos rfl, ex_check2, Option.bind_some, if_pos rfl, ex_order0, Option.bind_some, if_pos rfl, ex_reach2, Option.bind_some]
 rfl
theorem examples_ev : Ev (fun k => wireloomlaw05_examples.f k) true := Ev.of wireloomlaw05_examples.mono examples_at
theorem wrap_ok {x : Int} (h0 : -1000000 ≤ x) (h1 : x ≤ 1000000) : wrap64 x = x := by unfold wrap64; omega
theorem rd_bound {B : List Int} (hB : ∀ x ∈ B, 0 ≤ x ∧ x ≤ 255) {i : Int} (h0 : 0 ≤ i) (h1 : i < (B.length : Int)) : 0 ≤ rd B i ∧ rd B i ≤ 255 := by
 apply hB
 unfold rd
 rw [List.getD_eq_getElem?_getD, List.getElem?_eq_getElem (by omega)]
 exact List.getElem_mem _
theorem ok_add {n : Nat} {l : List S55} (h : Ok n l) {u v : Int} (h0 : 0 ≤ u) (h1 : u < n) (h2 : 0 ≤ v) (h3 : v < n) : Ok n (l ++ [⟨u, v⟩]) := fun e he => by
 rcases List.mem_append.1 he with he | he
 ·exact h e he
 ·rw [List.mem_singleton] at he; subst he; exact ⟨h0, h1, h2, h3⟩
theorem made_loop {n : Nat} (hn : n ≤ 12) (a b : Int) (hb0 : 0 ≤ b) {B : List Int} (hB : ∀ x ∈ B, 0 ≤ x ∧ x ≤ 255) : ∀ (d j : Nat) (l : List S55), j + d = 30 → l.length ≤ j → Ok n l →
  ∃ lf, Ev (fun k => wireloomref05_Made.l0 k n (2 * (j : Int)) a b B n l) ((n : Int), lf) ∧ Ok n lf ∧ lf.length ≤ 30 := by
 intro d
 induction d with
 | zero =>
  intro j l hj hl hok
  refine ⟨l, ?_, hok, by omega⟩
  obtain rfl : j = 30 := by omega
  have hend : Ev (fun k => wireloomref05_Made.j1 k n (2 * ((30 : Nat) : Int)) false a b B n l) ((n : Int), l) := Ev.step (f := fun _ => some ((n : Int), l)) (fun k => by simp only [wireloomref05_Made.j1]; rw [if_neg (by decide)]) (Ev.now _)
  refine Ev.step (f := fun k => wireloomref05_Made.j1 k n (2 * ((30 : Nat) : Int)) false a b B n l) (fun k => ?_) hend
  simp only [wireloomref05_Made.l0]
  split
  ·rw [if_neg (by omega)]
  ·rfl
 | succ d ih =>
  intro j l hj hl hok
  have hi : (0 : Int) ≤ 2 * (j : Int) ∧ 2 * (j : Int) ≤ 58 := by omega
  have w1 : wrap64 (2 * (j : Int) + 1) = 2 * (j : Int) + 1 := wrap_ok (by omega) (by omega)
  have w2 : wrap64 (2 * (j : Int) + 2) = 2 * ((j + 1 : Nat) : Int) := by rw [wrap_ok (by omega) (by omega)]; omega
  have hend : Ev (fun k => wireloomref05_Made.j1 k n (2 * (j : Int)) false a b B n l) ((n : Int), l) := Ev.step (f := fun _ => some ((n : Int), l)) (fun k => by simp only [wireloomref05_Made.j1]; rw [if_neg (by decide)]) (Ev.now _)
  by_cases hc : 2 * (j : Int) + 1 < (B.length : Int) ∧ 0 < n
  ·obtain ⟨hc1, hc2⟩ := hc
   obtain ⟨r0, r1⟩ := rd_bound hB (i := 2 * (j : Int)) (by omega) (by omega)
   obtain ⟨s0, s1⟩ := rd_bound hB (i := 2 * (j : Int) + 1) (by omega) (by omega)
   have wr : wrap64 (rd B (2 * (j : Int))) = rd B (2 * (j : Int)) := wrap_ok (by omega) (by omega)
   have ws : wrap64 (rd B (2 * (j : Int) + 1)) = rd B (2 * (j : Int) + 1) := wrap_ok (by omega) (by omega)
   obtain ⟨v, hv⟩ : ∃ v, v = Int.tmod (rd B (2 * (j : Int))) n := ⟨_, rfl⟩
   obtain ⟨u, hu⟩ : ∃ u, u = Int.tmod (rd B (2 * (j : Int) + 1)) n := ⟨_, rfl⟩
   have v0 : 0 ≤ v := by rw [hv]; exact Int.tmod_nonneg _ r0
   have v1 : v < n := by rw [hv]; exact Int.tmod_lt_of_pos _ (by omega)
   have u0 : 0 ≤ u := by rw [hu]; exact Int.tmod_nonneg _ s0
   have u1 : u < n := by rw [hu]; exact Int.tmod_lt_of_pos _ (by omega)
   have hlt : l.length < 8796093022208 := by omega
   have next : ∀ l', l'.length ≤ j + 1 → Ok n l' → ∃ lf, Ev (fun k => wireloomref05_Made.l0 k n (wrap64 (2 * (j : Int) + 2)) a b B n l') ((n : Int), lf) ∧ Ok n lf ∧ lf.length ≤ 30 := fun l' h1 h2 => by
    rw [w2]; exact ih (j + 1) l' (by omega) h1 h2
   have swapped : ∀ x y : Int, 0 ≤ x → x < n → 0 ≤ y → y < n → ∃ lf, Ev (fun k => wireloomref05_Made.j2 k n (2 * (j : Int)) x y a b B n l) ((n : Int), lf) ∧ Ok n lf ∧ lf.length ≤ 30 := fun x y x0 x1 y0 y1 => by
    by_cases h4 : Int.tmod b 4 = 2
    ·by_cases h5 : Int.tmod (n : Int) 5 = 0
     ·obtain ⟨lf, e, o, q⟩ := next l (by omega) hok
      refine ⟨lf, Ev.step (fun k => ?_) e, o, q⟩
      simp only [wireloomref05_Made.j2]
      rw [if_pos h4, if_neg (by omega), if_pos h5]
     ·have wx : wrap64 (wrap64 (5 * x) + 3) = 5 * x + 3 := by rw [wrap_ok (x := 5 * x) (by omega) (by omega), wrap_ok (by omega) (by omega)]
      have wy : wrap64 (wrap64 (5 * y) + 3) = 5 * y + 3 := by rw [wrap_ok (x := 5 * y) (by omega) (by omega), wrap_ok (by omega) (by omega)]
      obtain ⟨lf, e, o, q⟩ := next (l ++ [⟨Int.tmod (5 * x + 3) n, Int.tmod (5 * y + 3) n⟩]) (by simp; omega) (ok_add hok (Int.tmod_nonneg _ (by omega)) (Int.tmod_lt_of_pos _ (by omega)) (Int.tmod_nonneg _ (by omega)) (Int.tmod_lt_of_pos _ (by omega)))
      refine ⟨lf, Ev.step (fun k => ?_) e, o, q⟩
      simp only [wireloomref05_Made.j2]
      rw [if_pos h4, if_neg (by omega), if_neg h5, if_pos hlt, wx, wy]
    ·obtain ⟨lf, e, o, q⟩ := next (l ++ [⟨x, y⟩]) (by simp; omega) (ok_add hok x0 x1 y0 y1)
     refine ⟨lf, Ev.step (fun k => ?_) e, o, q⟩
     simp only [wireloomref05_Made.j2]
     rw [if_neg h4]
     split <;> first | rfl | rw [if_pos hlt]
   have body : ∃ lf, Ev (fun k => wireloomref05_Made.j1 k n (2 * (j : Int)) true a b B n l) ((n : Int), lf) ∧ Ok n lf ∧ lf.length ≤ 30 := by
    have e0 : ∀ k, wireloomref05_Made.j1 (k + 1) n (2 * (j : Int)) true a b B n l = (if (Int.tmod b 2) = 0 then (if v = u then (wireloomref05_Made.l0 k n (wrap64 (2 * (j : Int) + 2)) a b B n l) else (if v > u then (wireloomref05_Made.j2 k n (2 * (j : Int)) u v a b B n l) else (wireloomref05_Made.j2 k n (2 * (j : Int)) v u a b B n l))) else (wireloomref05_Made.l0 k n (wrap64 (2 * (j : Int) + 2)) a b B n (l ++ [⟨v, u⟩]))) := fun k => by
     simp only [wireloomref05_Made.j1]
     rw [if_pos (by first | rfl | trivial), if_pos (by omega), if_pos (by omega), if_neg (by omega), w1, if_pos (by omega), if_pos (by omega), if_pos hlt, wr, ws, ← hv, ← hu]
    by_cases h2 : Int.tmod b 2 = 0
    ·by_cases hvu : v = u
     ·obtain ⟨lf, e, o, q⟩ := next l (by omega) hok
      exact ⟨lf, Ev.step (fun k => by rw [e0, if_pos h2, if_pos hvu]) e, o, q⟩
     ·by_cases hgt : v > u
      ·obtain ⟨lf, e, o, q⟩ := swapped u v u0 u1 v0 v1
       exact ⟨lf, Ev.step (fun k => by rw [e0, if_pos h2, if_neg hvu, if_pos hgt]) e, o, q⟩
      ·obtain ⟨lf, e, o, q⟩ := swapped v u v0 v1 u0 u1
       exact ⟨lf, Ev.step (fun k => by rw [e0, if_pos h2, if_neg hvu, if_neg hgt]) e, o, q⟩
    ·obtain ⟨lf, e, o, q⟩ := next (l ++ [⟨v, u⟩]) (by simp; omega) (ok_add hok v0 v1 u0 u1)
     exact ⟨lf, Ev.step (fun k => by rw [e0, if_neg h2]) e, o, q⟩
   obtain ⟨lf, e, o, q⟩ := body
   refine ⟨lf, Ev.step (fun k => ?_) e, o, q⟩
   simp only [wireloomref05_Made.l0]
   rw [w1, if_pos hc1, if_pos (by omega), decide_eq_true (by omega)]
  ·refine ⟨l, Ev.step (fun k => ?_) hend, hok, by omega⟩
   simp only [wireloomref05_Made.l0]
   rw [w1]
   by_cases h1 : 2 * (j : Int) + 1 < (B.length : Int)
   ·rw [if_pos h1, if_pos (by omega), decide_eq_false (by omega)]
   ·rw [if_neg h1]
theorem made_spec (a b : Int) (ha : 0 ≤ a) (hb : 0 ≤ b) {B : List Int} (hB : ∀ x ∈ B, 0 ≤ x ∧ x ≤ 255) : ∃ (n : Nat) (l : List S55), Ev (fun k => wireloomref05_Made.f k a b B) ((n : Int), l) ∧ n ≤ 12 ∧ Ok n l ∧ l.length ≤ 30 := by
 obtain ⟨n, hn⟩ : ∃ n : Nat, Int.tmod a 13 = n := ⟨(Int.tmod a 13).toNat, by have := Int.tmod_nonneg 13 ha; omega⟩
 have hn2 : n ≤ 12 := by have := Int.tmod_lt_of_pos a (b := 13) (by omega); omega
 have w : wrap64 (Int.tmod a 13) = n := by rw [hn]; exact wrap_ok (by omega) (by omega)
 obtain ⟨lf, e, o, q⟩ := made_loop hn2 a b hb hB 30 0 [] (by omega) (by simp) (fun e he => by simp at he)
 refine ⟨n, lf, Ev.congr (fun k => ?_) e, hn2, o, q⟩
 unfold wireloomref05_Made.f
 rw [w]
 rfl
end Go.Proofs.Ytlldjinejckbaaa.PD

end
section
namespace Go.Proofs.Ytlldjinejckbaaa.Pb
open Go Go.RowKit Go.Proofs.YtlldjinejckbaaaW.PrintWords Go.Proofs.Ytlldjinejckbaaa.Mod Go.Proofs.Ytlldjinejckbaaa.Pg
def Pa (R : Int → Int → Prop) : Nat → Int → Int → Prop
 | 0, u, v => u = v
 | k + 1, u, v => ∃ m, Pa R k u m ∧ R m v
def Dist (R : Int → Int → Prop) (u v : Int) (d : Nat) : Prop := Pa R d u v ∧ ∀ k, k < d → ¬ Pa R k u v
theorem Dist.le {R : Int → Int → Prop} {u v : Int} {d k : Nat} (h : Dist R u v d) (hp : Pa R k u v) : d ≤ k := Classical.byContradiction fun hn => h.2 k (by omega) hp
theorem Dist.eq {R : Int → Int → Prop} {u v : Int} {d e : Nat} (h : Dist R u v d) (h' : Dist R u v e) : d = e := by have := h.le h'.1; have := h'.le h.1; omega
theorem Pa.add {R : Int → Int → Prop} {u v : Int} {j : Nat} (h : Pa R j u v) : ∀ {k : Nat} {w : Int}, Pa R k v w → Pa R (j + k) u w
 | 0, w, hk => by cases hk; exact h
 | k + 1, w, ⟨m, hm, hr⟩ => ⟨m, Pa.add h hm, hr⟩
theorem Pa.one {R : Int → Int → Prop} {u v : Int} (h : R u v) : Pa R 1 u v := ⟨u, rfl, h⟩
theorem Pa.split {R : Int → Int → Prop} {u : Int} : ∀ {j k : Nat} {w : Int}, Pa R (j + k) u w → ∃ v, Pa R j u v ∧ Pa R k v w
 | j, 0, w, h => ⟨w, h, rfl⟩
 | j, k + 1, w, ⟨m, hm, hr⟩ => by
  obtain ⟨v, h1, h2⟩ := Pa.split (j := j) (k := k) hm
  exact ⟨v, h1, m, h2, hr⟩
theorem Pa.flip {R : Int → Int → Prop} {u : Int} : ∀ {k : Nat} {v : Int}, Pa R k u v → Pa (fun a b => R b a) k v u
 | 0, v, h => h.symm
 | k + 1, v, ⟨m, hm, hr⟩ => by
  have h1 := Pa.flip hm
  have h2 : Pa (fun a b => R b a) 1 v m := ⟨v, rfl, hr⟩
  rw [Nat.add_comm]
  exact h2.add h1
theorem Dist.flip {R : Int → Int → Prop} {u v : Int} {d : Nat} (h : Dist R u v d) : Dist (fun a b => R b a) v u d := ⟨h.1.flip, fun k hk hp => h.2 k hk hp.flip⟩
theorem Dist.prev {R : Int → Int → Prop} {u v : Int} {d : Nat} (h : Dist R u v (d + 1)) : ∃ m, Dist R u m d ∧ R m v := by
 obtain ⟨⟨m, hm, hr⟩, hn⟩ := h
 exact ⟨m, ⟨hm, fun k hk hp => hn (k + 1) (by omega) ⟨m, hp, hr⟩⟩, hr⟩
theorem Dist.next {R : Int → Int → Prop} {u v : Int} {d : Nat} (h : Dist R u v (d + 1)) : ∃ m, R u m ∧ Dist R m v d := by
 obtain ⟨m, h1, h2⟩ := h.flip.prev
 exact ⟨m, h2, h1.flip⟩
structure Tells (n : Nat) (rows : List (List Int)) (R : Int → Int → Prop) : Prop where
 len : rows.length = n
 row : ∀ v x : Int, 0 ≤ v → v < n → (x ∈ row rows v ↔ R v x)
 nd : ∀ v : Int, (Mod.row rows v).Nodup
 ok : ∀ v x : Int, R v x → 0 ≤ v ∧ v < n ∧ 0 ≤ x ∧ x < n
theorem tells_nx {n : Nat} {l : List PD.S55} (h : Ok n l) : Tells n (nx n l) (E l) := ⟨len_nx n l, fun v x h0 h1 => mem_nx h x h0 h1, fun v => row_nodup _ v, fun v x he => he.ok h⟩
theorem relax_spec (v : Int) : ∀ (xs far q : List Int), xs.Nodup → (∀ y ∈ xs, 0 ≤ y ∧ y < (far.length : Int)) → 0 ≤ v → 1 ≤ rd far v → rd far v ≤ 100000 →
  (relax v xs far q).1.length = far.length ∧ (relax v xs far q).2 = q ++ xs.filter (fun x => decide (rd far x = 0)) ∧ ∀ y : Int, 0 ≤ y → rd (relax v xs far q).1 y = if y ∈ xs ∧ rd far y = 0 then rd far v + 1 else rd far y
 | [], far, q, _, _, _, _, _ => ⟨rfl, by simp [relax], fun y _ => by simp [relax]⟩
 | x :: xs, far, q, hn, hx, hv, h1, h2 => by
  rw [List.nodup_cons] at hn
  obtain ⟨x0, x1⟩ := hx x (by simp)
  have hw : wrap64 (rd far v + 1) = rd far v + 1 := Po.wrap_small (by omega) (by omega)
  unfold relax
  by_cases hz : rd far x = 0
  ·have hxv : v ≠ x := fun e => by subst e; omega
   have hvv : rd (far.set x.toNat (rd far v + 1)) v = rd far v := rd_set_other _ _ _ _ hv x0 hxv
   obtain ⟨a, b, c⟩ := relax_spec v xs (far.set x.toNat (rd far v + 1)) (q ++ [x]) hn.2 (fun y hy => by rw [List.length_set]; exact hx y (by simp [hy])) hv (by rw [hvv]; exact h1) (by rw [hvv]; exact h2)
   have hset : ∀ y, 0 ≤ y → rd (far.set x.toNat (rd far v + 1)) y = if y = x then rd far v + 1 else rd far y := fun y hy => by
    by_cases e : y = x
    ·subst e; rw [if_pos rfl, rd_set_same _ _ _ x0 x1]
    ·rw [if_neg e, rd_set_other _ _ _ _ hy x0 e]
   rw [if_pos hz, hw]
   refine ⟨by rw [a, List.length_set], ?_, fun y hy => ?_⟩
   ·rw [b, List.filter_cons, if_pos (by simpa using hz), List.append_assoc]
    congr 1
    show x :: _ = _
    congr 1
    apply List.filter_congr
    intro y hy
    rw [hset y (hx y (by simp [hy])).1, if_neg (fun e => hn.1 (by rw [← e]; exact hy))]
   ·rw [c y hy, hset y hy, hvv]
    by_cases e : y = x
    ·subst e
     rw [if_pos rfl, if_neg (fun h => hn.1 h.1), if_pos ⟨by simp, hz⟩]
    ·rw [if_neg e]
     by_cases h : y ∈ xs ∧ rd far y = 0
     ·rw [if_pos h, if_pos ⟨by simp [h.1], h.2⟩]
     ·rw [if_neg h, if_neg (fun h' => h ⟨by rcases List.mem_cons.1 h'.1 with h' | h'; exact absurd h' e; exact h', h'.2⟩)]
  ·obtain ⟨a, b, c⟩ := relax_spec v xs far q hn.2 (fun y hy => hx y (by simp [hy])) hv h1 h2
   rw [if_neg hz]
   refine ⟨a, ?_, fun y hy => ?_⟩
   ·rw [b, List.filter_cons, if_neg (by simpa using hz)]
   ·rw [c y hy]
    by_cases h : y ∈ xs ∧ rd far y = 0
    ·rw [if_pos h, if_pos ⟨by simp [h.1], h.2⟩]
    ·rw [if_neg h, if_neg (fun h' => h ⟨by rcases List.mem_cons.1 h'.1 with h' | h'; (subst h'; exact absurd h'.2 hz); exact h', h'.2⟩)]
structure BI (n : Nat) (R : Int → Int → Prop) (s : Int) (done far q : List Int) : Prop where
 len : far.length = n
 nd : (done ++ q).Nodup
 rng : ∀ v ∈ done ++ q, 0 ≤ v ∧ v < (n : Int)
 seen : ∀ v : Int, 0 ≤ v → v < n → (rd far v ≠ 0 ↔ v ∈ done ++ q)
 dist : ∀ v ∈ done ++ q, ∃ d : Nat, rd far v = (d : Int) + 1 ∧ Dist R s v d ∧ d + 1 ≤ (done ++ q).length
 cl : ∀ v ∈ done, ∀ x, R v x → x ∈ done ++ q
 st : s ∈ done ++ q
 mono : q.Pairwise (fun a b => rd far a ≤ rd far b)
 near : ∀ a ∈ q, ∀ b ∈ q.head?, rd far a ≤ rd far b + 1
 old : ∀ a ∈ done, ∀ b ∈ q.head?, rd far a ≤ rd far b
 all : ∀ b ∈ q.head?, ∀ (k : Nat) (x : Int), Pa R k s x → (k : Int) + 1 ≤ rd far b → x ∈ done ++ q
theorem BI.step {n : Nat} (hn : n ≤ 1000) {rows : List (List Int)} {R : Int → Int → Prop} (hT : Tells n rows R) {s : Int} {done far q : List Int} {v : Int} (h : BI n R s done far (v :: q)) :
  BI n R s (done ++ [v]) (relax v (row rows v) far q).1 (relax v (row rows v) far q).2 := by
 have hvm : v ∈ done ++ v :: q := by simp
 obtain ⟨v0, v1⟩ := h.rng v hvm
 obtain ⟨d, hd, hdist, hdn⟩ := h.dist v hvm
 have hcard : (done ++ v :: q).length ≤ n := nodup_len h.nd h.rng
 have hrow : ∀ x, x ∈ row rows v ↔ R v x := fun x => hT.row v x v0 v1
 obtain ⟨r1, r2, r3⟩ := relax_spec v (row rows v) far q (hT.nd v) (fun y hy => by rw [h.len]; have := hT.ok v y ((hrow y).1 hy); exact ⟨this.2.2.1, this.2.2.2⟩) v0 (by omega) (by omega)
 obtain ⟨news, hnews⟩ : ∃ news, news = (row rows v).filter (fun x => decide (rd far x = 0)) := ⟨_, rfl⟩
 rw [← hnews] at r2
 have hnm : ∀ x, x ∈ news ↔ R v x ∧ rd far x = 0 := fun x => by rw [hnews, List.mem_filter, hrow]; simp
 have hnr : ∀ x ∈ news, 0 ≤ x ∧ x < (n : Int) := fun x hx => by have := hT.ok v x ((hnm x).1 hx).1; exact ⟨this.2.2.1, this.2.2.2⟩
 have hnn : ∀ x ∈ news, x ∉ done ++ v :: q := fun x hx hm => by
  have := (h.seen x (hnr x hx).1 (hnr x hx).2).2 hm
  exact this ((hnm x).1 hx).2
 have hfar : ∀ y, 0 ≤ y → rd (relax v (row rows v) far q).1 y = if y ∈ news then rd far v + 1 else rd far y := fun y hy => by
  rw [r3 y hy]
  by_cases hc : y ∈ row rows v ∧ rd far y = 0
  ·rw [if_pos hc, if_pos ((hnm y).2 ⟨(hrow y).1 hc.1, hc.2⟩)]
  ·rw [if_neg hc, if_neg (fun hm => hc ⟨(hrow y).2 ((hnm y).1 hm).1, ((hnm y).1 hm).2⟩)]
 have hold : ∀ y ∈ done ++ v :: q, rd (relax v (row rows v) far q).1 y = rd far y := fun y hy => by
  rw [hfar y (h.rng y hy).1, if_neg (fun hm => hnn y hm hy)]
 have hnew : ∀ y ∈ news, rd (relax v (row rows v) far q).1 y = rd far v + 1 := fun y hy => by rw [hfar y (hnr y hy).1, if_pos hy]
 have hmem : ∀ y, y ∈ done ++ [v] ++ (q ++ news) ↔ y ∈ done ++ v :: q ∨ y ∈ news := fun y => by
  have e : done ++ [v] ++ (q ++ news) = (done ++ v :: q) ++ news := by simp
  rw [e, List.mem_append]
 rw [r2]
 have hall : ∀ (k : Nat) (x : Int), Pa R k s x → (k : Int) + 1 ≤ rd far v → x ∈ done ++ v :: q := h.all v (by simp)
 have hcl : ∀ u ∈ done ++ [v], ∀ x, R u x → x ∈ done ++ v :: q ∨ x ∈ news := fun u hu x hx => by
  rcases List.mem_append.1 hu with hu | hu
  ·exact .inl (h.cl u hu x hx)
  ·rw [List.mem_singleton] at hu
   subst hu
   by_cases hz : rd far x = 0
   ·exact .inr ((hnm x).2 ⟨hx, hz⟩)
   ·have := hT.ok u x hx
    exact .inl ((h.seen x this.2.2.1 this.2.2.2).1 hz)
 have hq := List.pairwise_cons.1 h.mono
 have hnear : ∀ a ∈ q, rd far a ≤ rd far v + 1 := fun a ha => h.near a (by simp [ha]) v (by simp)
 have hdeep : ∀ b ∈ q ++ news, rd far v ≤ rd (relax v (row rows v) far q).1 b ∧ rd (relax v (row rows v) far q).1 b ≤ rd far v + 1 := fun b hb => by
  rcases List.mem_append.1 hb with hb | hb
  ·rw [hold b (by simp [hb])]
   exact ⟨hq.1 b hb, hnear b hb⟩
  ·rw [hnew b hb]; omega
 have hheadm : ∀ b, b ∈ (q ++ news).head? → b ∈ q ++ news := fun b hb => by
  cases hqn : q ++ news with
  | nil => rw [hqn] at hb; simp at hb
  | cons z zs => rw [hqn] at hb; simp at hb; subst hb; simp
 refine ⟨by rw [r1, h.len], ?_, fun y hy => ?_, fun y y0 y1 => ?_, fun y hy => ?_, fun u hu x hx => (hmem x).2 (hcl u hu x hx), (hmem s).2 (.inl h.st), ?_, fun a ha b hb => ?_, fun a ha b hb => ?_, fun b hb k x hp hk => ?_⟩
 ·have h1 : (done ++ v :: q).Nodup := h.nd
  have e : done ++ [v] ++ (q ++ news) = (done ++ v :: q) ++ news := by simp
  rw [e, List.nodup_append]
  refine ⟨h1, ?_, fun a ha b hb e => hnn b hb (by rw [← e]; exact ha)⟩
  rw [hnews]; exact List.Pairwise.filter _ (hT.nd v)
 ·rcases (hmem y).1 hy with hy | hy
  ·exact h.rng y hy
  ·exact hnr y hy
 ·rw [hmem, hfar y y0]
  by_cases hy : y ∈ news
  ·rw [if_pos hy]; exact ⟨fun _ => .inr hy, fun _ => by omega⟩
  ·rw [if_neg hy, h.seen y y0 y1]; exact ⟨fun hh => .inl hh, fun hh => hh.resolve_right hy⟩
 ·have hlen : (done ++ [v] ++ (q ++ news)).length = (done ++ v :: q).length + news.length := by simp only [List.length_append, List.length_cons, List.length_nil]; omega
  rcases (hmem y).1 hy with hy | hy
  ·rw [hold y hy, hlen]
   obtain ⟨dy, e1, e2, e3⟩ := h.dist y hy
   exact ⟨dy, e1, e2, by omega⟩
  ·refine ⟨d + 1, by rw [hnew y hy, hd]; omega, ⟨⟨v, hdist.1, ((hnm y).1 hy).1⟩, fun k hk hp => hnn y hy (hall k y hp (by omega))⟩, ?_⟩
   have : 0 < news.length := List.length_pos_of_mem hy
   rw [hlen]; omega
 ·rw [List.pairwise_append]
  refine ⟨hq.2.imp_of_mem (fun {a b} ha hb hab => by rw [hold a (by simp [ha]), hold b (by simp [hb])]; exact hab), ?_, fun a ha b hb => ?_⟩
  ·exact List.Pairwise.imp_of_mem (fun {a b} ha hb _ => by rw [hnew a ha, hnew b hb]; exact Int.le_refl _) (show news.Pairwise (· ≠ ·) by rw [hnews]; exact List.Pairwise.filter _ (hT.nd v))
  ·rw [hold a (by simp [ha]), hnew b hb]; exact hnear a ha
 ·have := hdeep a ha
  have := hdeep b (hheadm b hb)
  omega
 ·have hb2 := (hdeep b (hheadm b hb)).1
  rcases List.mem_append.1 ha with ha | ha
  ·rw [hold a (by simp [ha])]
   have := h.old a ha v (by simp)
   omega
  ·rw [List.mem_singleton] at ha; subst ha
   rw [hold a (by simp)]; exact hb2
 ·
  rw [hmem]
  have hb2 := hdeep b (hheadm b hb)
  by_cases hkd : (k : Int) + 1 ≤ rd far v
  ·exact .inl (hall k x hp hkd)
  ·obtain ⟨k', rfl⟩ : ∃ k', k = k' + 1 := ⟨k - 1, by omega⟩
   obtain ⟨m, hm, hr⟩ := hp
   have hmm := hall k' m hm (by omega)
   have hmd : m ∈ done ++ [v] := by
    rcases List.mem_append.1 hmm with hh | hh
    ·simp [hh]
    ·rcases List.mem_cons.1 hh with hh | hh
     ·simp [hh]
     ·obtain ⟨dm, e1, e2, e2'⟩ := h.dist m hmm
      have h1 := e2.le hm
      have hge : rd (relax v (row rows v) far q).1 b ≤ rd (relax v (row rows v) far q).1 m := by
       cases q with
       | nil => simp at hh
       | cons z zs =>
        have hbz : b = z := by simpa using hb.symm
        subst hbz
        rw [hold b (by simp), hold m (by simp [hh])]
        rcases List.mem_cons.1 hh with hh | hh
        ·subst hh; exact Int.le_refl _
        ·exact (List.pairwise_cons.1 hq.2).1 m hh
      rw [hold m hmm] at hge
      omega
   exact hcl m hmd x hr
end Go.Proofs.Ytlldjinejckbaaa.Pb

end
