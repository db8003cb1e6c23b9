/- The law DigraphCloses of package digraph holds for every input: what it is called with is opened, the printed text of the law and its plain proof are joined. (Part 5 of 6 of its proof.) -/
import Derived.Test.YtlldjinejckbaaaZ03
set_option linter.unusedVariables false
set_option linter.unusedSimpArgs false
section
namespace Go.Proofs.Ytlldjinejckbaaa.PD
open Go.RowKit Go.Proofs.YtlldjinejckbaaaW.PrintWords Go.Proofs.YtlldjinejckbaaaW.PrintLast Go.Proofs.YtlldjinejckbaaaW.PrintMore
attribute [local go_sem] max2_int min2_int max_two min_two max_three min_three max_four min_four
set_option linter.unusedVariables false
set_option linter.unusedSimpArgs false
def wireloomref05_Reversed.l0 : Nat → Int → Int → List (S55) → Int → List (S55) → Option (Int × (List (S55)))
 | 0, _, _, _, _, _ => none
 | k + 1, x4, x684000, x684001, x686000, x686001 => if x4 < (x684001.length : Int) then (if 0 ≤ x4 then (if x686001.length < 8796093022208 then (wireloomref05_Reversed.l0 k (wrap64 (x4 + 1)) x684000 x684001 x686000 (x686001 ++ [(⟨(rd_T55 x684001 x4).f1, (rd_T55 x684001 x4).f0⟩ : S55)])) else (none)) else (none)) else (some (x686000, x686001))
def wireloomref05_Reversed.f (k : Nat) (a0_0 : Int) (l0_1 : List (S55)) : Option (Int × (List (S55))) := wireloomref05_Reversed.l0 k 0 a0_0 l0_1 a0_0 ([] : List (S55))
theorem wireloomref05_Reversed.mono_l : ∀ k, (∀ y0 y1 y2 y3 y4, LeO (wireloomref05_Reversed.l0 k y0 y1 y2 y3 y4) (wireloomref05_Reversed.l0 (k + 1) y0 y1 y2 y3 y4))
 | 0 => fun _ _ _ _ _ r h => by simp [wireloomref05_Reversed.l0] at h
 | k + 1 => by
  have ih0 := wireloomref05_Reversed.mono_l k
  ·intro y0 y1 y2 y3 y4
   unfold wireloomref05_Reversed.l0
   repeat' first
   | (with_reducible exact ih0 _ _ _ _ _)
   | (with_reducible exact LeO.refl _)
   | (with_reducible exact LeO.none _)
   | (with_reducible refine LeO.ite ?_ ?_)
   | (with_reducible refine LeO.bind ?_ (fun _ => ?_))
   | exact ih0 _ _ _ _ _
   | exact LeO.none _
   | refine LeO.ite ?_ ?_
   | refine LeO.bind ?_ (fun _ => ?_)
theorem wireloomref05_Reversed.mono : ∀ a0 a1 k, LeO (wireloomref05_Reversed.f k a0 a1) (wireloomref05_Reversed.f (k + 1) a0 a1) := by
 intro a0 a1 k
 have ih0 := wireloomref05_Reversed.mono_l k
 unfold wireloomref05_Reversed.f
 repeat' first
   | (with_reducible exact ih0 _ _ _ _ _)
   | (with_reducible exact LeO.refl _)
   | (with_reducible exact LeO.none _)
   | (with_reducible refine LeO.ite ?_ ?_)
   | (with_reducible refine LeO.bind ?_ (fun _ => ?_))
   | exact ih0 _ _ _ _ _
   | exact LeO.none _
   | refine LeO.ite ?_ ?_
   | refine LeO.bind ?_ (fun _ => ?_)
def wireloomref05_Reversed.T5 : Bool × List (List Nat × List Nat) := (true, [([], []), ([0], [0]), ([], []), ([2], [2]), ([], []), ([3, 4], [3, 4]), ([5], [5]), ([6], [6]), ([], []), ([8], [8]), ([], []), ([9, 10], [9, 10]), ([11], [11]), ([12], [12]), ([7, 13], [7, 13]), ([14], [14]), ([1, 15], [1, 15]), ([0, 1, 2, 3, 4, 5, 6, 7, 8, 9, 10, 11, 12, 13, 14, 15, 16], []), ([17, 16, 16, 0, 1, 2, 3, 4, 5, 6, 7, 8, 9, 10, 11, 12, 13, 14, 15, 16], [16, 17])])
def wireloomref05_Reversed.B5 : List Nat := [0, 1, 0, 4, 0, 28, 60, 124, 0, 256, 0, 1792, 3840, 7936, 16380, 32764, 65535, 131071, 262143]
theorem wireloomref05_Reversed.tab5 : rtab .any (opsOf Try.f33 5) = wireloomref05_Reversed.T5 := by kernel_rfl
theorem wireloomref05_Reversed.bits5 : waitsOk wireloomref05_Reversed.T5.2 wireloomref05_Reversed.B5 = true := by kernel_rfl
set_option maxHeartbeats 8000000 in
set_option maxRecDepth 100000 in
theorem wireloomref05_Reversed.calls (k : Nat) (a0_0 : Int) (A0_1 : Option Addr) (c0_1 : Nat) (l0_1 : List (S55)) (r1 : Int) (r2 : List (S55)) (w : World) (hr0_1 : Kd.C k55 w A0_1 l0_1.length l0_1) (hc0_1 : l0_1.length ≤ c0_1) (h : wireloomref05_Reversed.f k a0_0 l0_1 = some (r1, r2)) :
  Calls Try.prog 33 #[.agg #[.int .i64 a0_0, .slice A0_1 l0_1.length c0_1]] w fun e w' => ∃ v1_ : Value, e = .returned (.agg #[.int .i64 r1, v1_]) ∧ Kd.R k55 55 w' w.heap.size (fun _ => True) v1_ r2 ∧ Below w.heap.size w w' := by
 have hu31 := Try.underlying31
 have hu55 := Try.underlying55
 have HR0_1 := Aside0.mk hr0_1
 have HC0_1 := Aside0.mk hc0_1
 clear hr0_1 hc0_1
 have HB := Aside0.mk (Below.refl w.heap.size w)
 have H : (wireloomref05_Reversed.l0 k 0 a0_0 l0_1 a0_0 ([] : List (S55))) = some (r1, r2) := h
 clear h
 have H' := Aside0.mk H
 clear H
 go_enter Try.func33, Try.ntmps33
 go_wp2_with (first | ((with_reducible refine gate_dst (N := 1) rfl ?_); refine box_event ?hg (N := 1) ?hd (cs := #[.int .i64 a0_0, .slice A0_1 l0_1.length c0_1]) (t := 31) ?hr ?_; (case hd => rfl); (case hg => rfl); (case hr => first | (go_simp; done) | (go_simp; rfl)); intro gb683 hg w2 hbox hb; have n0_ := Aside0.mk (below_step (by repeat (first | (with_reducible first | exact HB.out | apply below_alloc | apply pw_below_drewN | apply below_drew1) | exact HB.out)) hb); have n1_ := Aside0.mk (hbox); have n2_ := Aside0.mk ((by rw [hg]; exact (below_size (by repeat (first | (with_reducible first | exact HB.out | apply below_alloc | apply pw_below_drewN | apply below_drew1) | exact HB.out))) : w.heap.size ≤ gb683)); have n3_ := Aside0.mk ((by rw [hg]; exact (below_size (by repeat (first | (with_reducible first | exact HB.out | apply below_alloc | apply pw_below_drewN | apply below_drew1) | exact HB.out))) : w.heap.size ≤ gb683)); clear HB; have HB := n0_; have BK683 := n1_; have GW683 := n2_; have GE683 := n3_; clear n0_ n1_ n2_ n3_; clear hb hbox hg) | ((with_reducible refine gate_dst (N := 2) rfl ?_); refine box_event ?hg (N := 2) ?hd (cs := #[.int .i64 0, .slice none 0 0]) (t := 31) ?hr ?_; (case hd => rfl); (case hg => rfl); (case hr => first | (go_simp; done) | (go_simp; rfl)); intro gb684 hg w3 hbox hb; have n0_ := Aside0.mk (blk_below (g := gb683) (o := .cells #[.int .i64 a0_0, .slice A0_1 l0_1.length c0_1] 31 (0, 0)) (bA BK683.out) hb); have n1_ := Aside0.mk (below_step (by repeat (first | (with_reducible first | exact HB.out | apply below_alloc | apply pw_below_drewN | apply below_drew1 | refine below_set ?_ GE683.out) | exact HB.out)) hb); have n2_ := Aside0.mk (hbox); have n3_ := Aside0.mk ((by rw [hg]; exact (below_size (by repeat (first | (with_reducible first | exact HB.out | apply below_alloc | apply pw_below_drewN | apply below_drew1 | refine below_set ?_ GE683.out) | exact HB.out))) : w.heap.size ≤ gb684)); have n4_ := Aside0.mk ((by rw [hg]; exact (below_size (by repeat (first | (with_reducible first | exact HB.out | apply below_alloc | apply pw_below_drewN | apply below_drew1 | refine below_set ?_ GE683.out) | exact HB.out))) : w.heap.size ≤ gb684)); have n5_ := Aside0.mk ((by rw [hg]; exact Nat.ne_of_lt (blk_lt (g := gb683) (o := .cells #[.int .i64 a0_0, .slice A0_1 l0_1.length c0_1] 31 (0, 0)) (bA BK683.out)) : gb683 ≠ gb684)); have n6_ := Aside0.mk ((by rw [hg]; exact Nat.ne_of_gt (blk_lt (g := gb683) (o := .cells #[.int .i64 a0_0, .slice A0_1 l0_1.length c0_1] 31 (0, 0)) (bA BK683.out)) : gb684 ≠ gb683)); clear BK683; clear HB; have BK683 := n0_; have HB := n1_; have BK684 := n2_; have GW684 := n3_; have GE684 := n4_; have NB683_684 := n5_; have NB684_683 := n6_; clear n0_ n1_ n2_ n3_ n4_ n5_ n6_; clear hb hbox hg; have hnb4 := NB683_684.out; have hnc4 := NB684_683.out; have hcz5_0 : w3.cell? ⟨gb683, 0, none⟩ = some (.int .i64 a0_0) := (blk_cell BK683.out 0).trans rfl; have hcz5_1 : w3.cell? ⟨gb683, 1, none⟩ = some (.slice A0_1 l0_1.length c0_1) := (blk_cell BK683.out 1).trans rfl; have hfz5_0 := blk_frozen BK683.out 0; have hfz5_1 := blk_frozen BK683.out 1) | ((with_reducible refine gate_dst (N := 3) rfl ?_); refine box_event ?hg (N := 3) ?hd (cs := #[.int .i64 0, .slice none 0 0]) (t := 31) ?hr ?_; (case hd => rfl); (case hg => rfl); (case hr => first | (go_simp; done) | (go_simp; rfl)); intro gb685 hg w6 hbox hb; have n0_ := Aside0.mk (blk_below (g := gb683) (o := .cells #[.int .i64 a0_0, .slice A0_1 l0_1.length c0_1] 31 (0, 0)) (bA BK683.out) hb); have n1_ := Aside0.mk (blk_below (g := gb684) (o := .cells #[.int .i64 0, .slice none 0 0] 31 (0, 0)) (bA BK684.out) hb); have n2_ := Aside0.mk (below_step (by repeat (first | (with_reducible first | exact HB.out | apply below_alloc | apply pw_below_drewN | apply below_drew1 | refine below_set ?_ GE683.out | refine below_set ?_ GE684.out) | exact HB.out)) hb); have n3_ := Aside0.mk (hbox); have n4_ := Aside0.mk ((by rw [hg]; exact (below_size (by repeat (first | (with_reducible first | exact HB.out | apply below_alloc | apply pw_below_drewN | apply below_drew1 | refine below_set ?_ GE683.out | refine below_set ?_ GE684.out) | exact HB.out))) : w.heap.size ≤ gb685)); have n5_ := Aside0.mk ((by rw [hg]; exact (below_size (by repeat (first | (with_reducible first | exact HB.out | apply below_alloc | apply pw_below_drewN | apply below_drew1 | refine below_set ?_ GE683.out | refine below_set ?_ GE684.out) | exact HB.out))) : w.heap.size ≤ gb685)); have n6_ := Aside0.mk ((by rw [hg]; exact Nat.ne_of_lt (blk_lt (g := gb683) (o := .cells #[.int .i64 a0_0, .slice A0_1 l0_1.length c0_1] 31 (0, 0)) (bA BK683.out)) : gb683 ≠ gb685)); have n7_ := Aside0.mk ((by rw [hg]; exact Nat.ne_of_gt (blk_lt (g := gb683) (o := .cells #[.int .i64 a0_0, .slice A0_1 l0_1.length c0_1] 31 (0, 0)) (bA BK683.out)) : gb685 ≠ gb683)); have n8_ := Aside0.mk ((by rw [hg]; exact Nat.ne_of_lt (blk_lt (g := gb684) (o := .cells #[.int .i64 0, .slice none 0 0] 31 (0, 0)) (bA BK684.out)) : gb684 ≠ gb685)); have n9_ := Aside0.mk ((by rw [hg]; exact Nat.ne_of_gt (blk_lt (g := gb684) (o := .cells #[.int .i64 0, .slice none 0 0] 31 (0, 0)) (bA BK684.out)) : gb685 ≠ gb684)); clear BK683; clear BK684; clear HB; have BK683 := n0_; have BK684 := n1_; have HB := n2_; have BK685 := n3_; have GW685 := n4_; have GE685 := n5_; have NB683_685 := n6_; have NB685_683 := n7_; have NB684_685 := n8_; have NB685_684 := n9_; clear n0_ n1_ n2_ n3_ n4_ n5_ n6_ n7_ n8_ n9_; clear hb hbox hg; have hnb7 := NB685_683.out; have hnc7 := NB683_685.out; have hnb8 := NB685_684.out; have hnc8 := NB684_685.out; have hcz9_0 : w6.cell? ⟨gb685, 0, none⟩ = some (.int .i64 0) := (blk_cell BK685.out 0).trans rfl; have hcz9_1 : w6.cell? ⟨gb685, 1, none⟩ = some (.slice none 0 0) := (blk_cell BK685.out 1).trans rfl; have hfz9_0 := blk_frozen BK685.out 0; have hfz9_1 := blk_frozen BK685.out 1))
 go_loopg [4] k (fun kq v4 w' => ∃ (x4_1 : Int) (x686001_1 : List (S55)) (u686001 : Value), v4 = .int .i64 x4_1 ∧ Aside0 (wireloomref05_Reversed.l0 kq x4_1 a0_0 l0_1 a0_0 x686001_1 = some (r1, r2)) ∧ Aside0 (kq ≤ k) ∧ Aside0 (Kd.R k55 55 w' w.heap.size (fun _ => True) u686001 x686001_1) ∧ Aside0 (w'.heap[gb683]? = some (.cells #[.int .i64 a0_0, (.slice A0_1 l0_1.length c0_1)] 31 (0, 0))) ∧ Aside0 (w'.heap[gb684]? = some (.cells #[.int .i64 0, (.slice none 0 0)] 31 (0, 0))) ∧ Aside0 (w'.heap[gb685]? = some (.cells #[.int .i64 a0_0, u686001] 31 (0, 0))) ∧ Aside0 (Below w.heap.size w w'))
 case atStart => exact ⟨(0), (([] : List (S55))), (.slice none 0 0), (by first | rfl | (simp; done) | (simp [*]; done)), H', ⟨Nat.le_refl _⟩, ⟨by first | exact Kd.R_nil _ _ _ _ _ | exact Kd.N_nil _ _ _ _ _ | exact Kd.V_nil _ _ _ _ _ | exact Kd.Q_nil _ _ _ _ _ | exact Kd.S_nil _ _ _ _ _⟩, ⟨by (with_reducible repeat (first | refine blk_drewN ?_ _ | refine blk_drew ?_ | refine blk_alloc ?_ _)); refine blk_far ?_ NB683_685.out _; (with_reducible repeat (first | refine blk_drewN ?_ _ | refine blk_drew ?_ | refine blk_alloc ?_ _)); refine blk_far ?_ NB683_685.out _; (with_reducible repeat (first | refine blk_drewN ?_ _ | refine blk_drew ?_ | refine blk_alloc ?_ _)); exact BK683.out⟩, ⟨by (with_reducible repeat (first | refine blk_drewN ?_ _ | refine blk_drew ?_ | refine blk_alloc ?_ _)); refine blk_far ?_ NB684_685.out _; (with_reducible repeat (first | refine blk_drewN ?_ _ | refine blk_drew ?_ | refine blk_alloc ?_ _)); refine blk_far ?_ NB684_685.out _; (with_reducible repeat (first | refine blk_drewN ?_ _ | refine blk_drew ?_ | refine blk_alloc ?_ _)); exact BK684.out⟩, ⟨by (with_reducible repeat (first | refine blk_drewN ?_ _ | refine blk_drew ?_ | refine blk_alloc ?_ _)); refine blk_put (cs := #[.int .i64 a0_0, .slice none 0 0]) ?_ 1 _ rfl; (with_reducible repeat (first | refine blk_drewN ?_ _ | refine blk_drew ?_ | refine blk_alloc ?_ _)); refine blk_put (cs := #[.int .i64 0, .slice none 0 0]) ?_ 0 _ rfl; (with_reducible repeat (first | refine blk_drewN ?_ _ | refine blk_drew ?_ | refine blk_alloc ?_ _)); exact BK685.out⟩, ⟨by repeat (first | (with_reducible first | exact HB.out | apply below_alloc | apply pw_below_drewN | apply below_drew1 | refine below_set ?_ GE683.out | refine below_set ?_ GE684.out | refine below_set ?_ GE685.out) | exact HB.out)⟩⟩
 case round =>
  clear H'
  try clear p2
  try clear c3
  try clear c4
  try clear c7
  try clear c8
  try clear hcz5_0
  try clear hcz5_1
  try clear hcz9_0
  try clear hcz9_1
  try clear hfz5_0
  try clear hfz5_1
  try clear hfz9_0
  try clear hfz9_1
  obtain ⟨x4_1, x686001_1, u686001, rfl, HA, HK1, HO_686001, BK683, BK684, BK685, HB⟩ := hrel
  cases gk with
  | zero => exact absurd HA.out (by simp [wireloomref05_Reversed.l0])
  | succ k1 =>
   have H := HA.out
   clear HA
   simp only [wireloomref05_Reversed.l0] at H
   by_cases c10 : x4_1 < (l0_1.length : Int)
   ·rw [if_pos c10] at H
    have c10b0 : decide (x4_1 < (l0_1.length : Int)) = true := decide_eq_true c10
    clear c10
    by_cases c11 : 0 ≤ x4_1
    ·rw [if_pos c11] at H
     have c11b0 : decide (0 ≤ x4_1) = true := decide_eq_true c11
     clear c11
     by_cases c12 : x686001_1.length < 8796093022208
     ·rw [if_pos c12] at H
      have LMc12 := Aside0.mk c12
      clear c12
      obtain ⟨y688, hy688⟩ : ∃ y_ : List (S55), y_ = (x686001_1 ++ [(⟨(rd_T55 l0_1 x4_1).f1, (rd_T55 l0_1 x4_1).f0⟩ : S55)]) := ⟨_, rfl⟩
      replace H : (wireloomref05_Reversed.l0 k1 (wrap64 (x4_1 + 1)) a0_0 l0_1 a0_0 y688) = some (r1, r2) := by first | (rw [hy688]; with_reducible exact H) | (have H2_ := (Option.bind_some _ _).symm.trans H; rw [hy688]; with_reducible exact H2_) | (have H2_ := (Option.bind_some _ _).symm.trans H; with_reducible exact H2_) | with_reducible exact H | (rw [hy688]; exact H) | exact H
      have Ny688 := Aside0.mk hy688
      clear hy688
      have H' := Aside0.mk H
      clear H
      have hnb13 := NB683_684.out
      have hnc13 := NB684_683.out
      have hnb14 := NB683_685.out
      have hnc14 := NB685_683.out
      have hcz15_0 : wr.cell? ⟨gb683, 0, none⟩ = some (.int .i64 a0_0) := (blk_cell BK683.out 0).trans rfl
      have hcz15_1 : wr.cell? ⟨gb683, 1, none⟩ = some (.slice A0_1 l0_1.length c0_1) := (blk_cell BK683.out 1).trans rfl
      have hfz15_0 := blk_frozen BK683.out 0
      have hfz15_1 := blk_frozen BK683.out 1
      try go_wp2
      have n0_ := Aside0.mk (Kd.R_drew HO_686001.out)
      have n1_ := Aside0.mk (blk_drew BK683.out)
      have n2_ := Aside0.mk (blk_drew BK684.out)
      have n3_ := Aside0.mk (blk_drew BK685.out)
      have n4_ := Aside0.mk (below_drew1 HB.out)
      clear HO_686001
      clear BK683
      clear BK684
      clear BK685
      clear HB
      have HO_686001 := n0_
      have BK683 := n1_
      have BK684 := n2_
      have BK685 := n3_
      have HB := n4_
      clear n0_ n1_ n2_ n3_ n4_
      have p686 : 0 ≤ (x4_1 : Int) := of_decide_eq_true (by first | (with_reducible assumption) | assumption)
      have q686 : x4_1 < (l0_1.length : Int) := of_decide_eq_true (by first | (with_reducible assumption) | assumption)
      obtain ⟨ad686, e686, hx686_0, hx686_1⟩ := at_T55 HR0_1.out x4_1 p686 q686
      have hw686_1 := hx686_1
      have hw686_0 := hx686_0
      cases e686
      (try (replace hx686_0 := (HB.out.cell (World.block_lt_of_cell? w _ hx686_0)).trans hx686_0))
      (try (replace hx686_1 := (HB.out.cell (World.block_lt_of_cell? w _ hx686_1)).trans hx686_1))
      replace p686 := eq_true p686
      replace q686 := eq_true q686
      have p687 : 0 ≤ (x4_1 : Int) := of_decide_eq_true (by first | (with_reducible assumption) | assumption)
      have q687 : x4_1 < (l0_1.length : Int) := of_decide_eq_true (by first | (with_reducible assumption) | assumption)
      obtain ⟨ad687, e687, hx687_0, hx687_1⟩ := at_T55 HR0_1.out x4_1 p687 q687
      have hw687_1 := hx687_1
      have hw687_0 := hx687_0
      obtain rfl : ad686 = ad687 := (by injection e687)
      (try (replace hx687_0 := (HB.out.cell (World.block_lt_of_cell? w _ hx687_0)).trans hx687_0))
      (try (replace hx687_1 := (HB.out.cell (World.block_lt_of_cell? w _ hx687_1)).trans hx687_1))
      replace p687 := eq_true p687
      replace q687 := eq_true q687
      refine start_ (n := 19) (S := fun w' => w'.cell? ⟨gb685, 0, none⟩ = some (.int .i64 a0_0) ∧ w'.cell? ⟨gb685, 1, none⟩ = some (u686001) ∧ w'.cell? ⟨gb683, 0, none⟩ = some (.int .i64 a0_0) ∧ w'.cell? ⟨gb683, 1, none⟩ = some (.slice (some ad686) l0_1.length c0_1) ∧ w'.cell? (ad686.add ((x4_1).toNat * 2)) = some (.int .i64 ((rd_T55 l0_1 x4_1).f0)) ∧ w'.cell? ⟨(ad686.add ((x4_1).toNat * 2)).block, (ad686.add ((x4_1).toNat * 2)).off + 1, none⟩ = some (.int .i64 ((rd_T55 l0_1 x4_1).f1)) ∧ w'.cell? (ad686.add ((x4_1).toNat * 2)) = some (.int .i64 ((rd_T55 l0_1 x4_1).f0)) ∧ w'.cell? ⟨(ad686.add ((x4_1).toNat * 2)).block, (ad686.add ((x4_1).toNat * 2)).off + 1, none⟩ = some (.int .i64 ((rd_T55 l0_1 x4_1).f1))) (ds := [18]) #[false, false, false, false, false, false, false, false, false, false, false, false, false, false, false, false, false, false, false] (by kernel_rfl) rfl rfl ⟨(blk_cell BK685.out 0).trans rfl, (blk_cell BK685.out 1).trans rfl, (blk_cell BK683.out 0).trans rfl, (blk_cell BK683.out 1).trans rfl, ((HB.out.cell (World.block_lt_of_cell? w _ hw686_0)).trans hw686_0), ((HB.out.cell (World.block_lt_of_cell? w _ hw686_1)).trans hw686_1), ((HB.out.cell (World.block_lt_of_cell? w _ hw687_0)).trans hw687_0), ((HB.out.cell (World.block_lt_of_cell? w _ hw687_1)).trans hw687_1)⟩ (fun hHeld => ?_); refine with_tabW wireloomref05_Reversed.tab5 wireloomref05_Reversed.bits5 (fun HT_ HW_ => ?_)
      generalize wr.drew = w16 at HO_686001 BK683 BK684 BK685 HB hx686_0 hx686_1 hx687_0 hx687_1 hHeld ⊢
      refine pV 0 15 (bz 19 0x1) HT_.out ?_
      refine pV 2 17 (bz 19 0x5) HT_.out ?_
      refine pV 4 19 (bz 19 0x15) HT_.out ?_
      refine pV 8 23 (bz 19 0x115) HT_.out ?_
      refine pV 10 25 (bz 19 0x515) HT_.out ?_
      refine tV 1 16 (bz 19 0x517) HT_.out HW_.out hHeld rfl rfl (by rintro w' ⟨s0, s1, s2, s3, s4, s5, s6, s7⟩; go_simp; with_reducible rfl) ?_
      refine tV 3 18 (bz 19 0x51f) HT_.out HW_.out hHeld rfl rfl (by rintro w' ⟨s0, s1, s2, s3, s4, s5, s6, s7⟩; go_simp; with_reducible rfl) ?_
      refine pV 5 20 (bz 19 0x53f) HT_.out ?_
      refine pV 6 21 (bz 19 0x57f) HT_.out ?_
      refine tV 7 22 (bz 19 0x5ff) HT_.out HW_.out hHeld rfl rfl (by rintro w' ⟨s0, s1, s2, s3, s4, s5, s6, s7⟩; go_simp; with_reducible rfl) ?_
      refine tV 9 24 (bz 19 0x7ff) HT_.out HW_.out hHeld rfl rfl (by rintro w' ⟨s0, s1, s2, s3, s4, s5, s6, s7⟩; go_simp; with_reducible rfl) ?_
      refine pV 11 26 (bz 19 0xfff) HT_.out ?_
      refine pV 12 27 (bz 19 0x1fff) HT_.out ?_
      refine tV 13 28 (bz 19 0x3fff) HT_.out HW_.out hHeld rfl rfl (by rintro w' ⟨s0, s1, s2, s3, s4, s5, s6, s7⟩; go_simp; with_reducible rfl) ?_
      refine pV 14 29 (bz 19 0x7fff) HT_.out ?_
      refine one_ (i := 15) (N := some 30) (bz 19 0xffff) rfl rfl (one_of HT_.out (by kernel_rfl)) (by decide) (fun K hK => ?_)
      refine value_ (w1 := ?_) (v := ?_) (by rfl) rfl ?_ ?_
      rotate_left 2
      ·go_simp
       constructor
       ·rfl
       ·rfl
      refine hK.out _ _ ⟨(blk_cell (blk_alloc BK685.out _) 0).trans rfl, (blk_cell (blk_alloc BK685.out _) 1).trans rfl, (blk_cell (blk_alloc BK683.out _) 0).trans rfl, (blk_cell (blk_alloc BK683.out _) 1).trans rfl, (World.cell?_alloc_lt _ _ _ (World.block_lt_of_cell? _ _ (((HB.out.cell (World.block_lt_of_cell? w _ hw686_0)).trans hw686_0)))).trans (((HB.out.cell (World.block_lt_of_cell? w _ hw686_0)).trans hw686_0)), (World.cell?_alloc_lt _ _ _ (World.block_lt_of_cell? _ _ (((HB.out.cell (World.block_lt_of_cell? w _ hw686_1)).trans hw686_1)))).trans (((HB.out.cell (World.block_lt_of_cell? w _ hw686_1)).trans hw686_1)), (World.cell?_alloc_lt _ _ _ (World.block_lt_of_cell? _ _ (((HB.out.cell (World.block_lt_of_cell? w _ hw687_0)).trans hw687_0)))).trans (((HB.out.cell (World.block_lt_of_cell? w _ hw687_0)).trans hw687_0)), (World.cell?_alloc_lt _ _ _ (World.block_lt_of_cell? _ _ (((HB.out.cell (World.block_lt_of_cell? w _ hw687_1)).trans hw687_1)))).trans (((HB.out.cell (World.block_lt_of_cell? w _ hw687_1)).trans hw687_1))⟩ (fun hHeld => ?_)
      clear hK K
      refine norm_ (a' := ?_) ?_ ?_
      rotate_left
      ·show Act.put _ (some 30) _ = _
       simp only [Act.put, List.setIfInBounds_toArray, List.set_cons_zero, List.set_cons_succ, i64_w, i32_w]
       rfl
      refine one_ (i := 16) (N := some 31) (bz 19 0x1ffff) rfl rfl (one_of HT_.out (by kernel_rfl)) (by decide) (fun K hK => ?_)
      refine Kd.R_append_step k55 (w0 := w) w.heap.size (by rfl) (.tmp 16) (.tmp 30) 25 55 (.agg #[(.int .i64 0), (.int .i64 0)]) 16 rfl Try.underlying25 info55 rfl (by decide) (by omega) u686001 x686001_1 (⟨(rd_T55 l0_1 x4_1).f1, (rd_T55 l0_1 x4_1).f0⟩ : S55) [.int .i64 ((rd_T55 l0_1 x4_1).f1), .int .i64 ((rd_T55 l0_1 x4_1).f0)] (fun _ => True) (fun _ => False) rfl rfl ?aP (fun _ hk => hk.elim) ?aF ?aO ?aB ?aS ?aL ?_
      (case aP => exact k55_mkM _ _ _ (⟨(rd_T55 l0_1 x4_1).f1, (rd_T55 l0_1 x4_1).f0⟩ : S55))
      (case aB => exact (by repeat (first | (with_reducible first | exact HB.out | apply below_alloc | apply pw_below_drewN | apply below_drew1 | refine below_set ?_ GE683.out | refine below_set ?_ GE684.out | refine below_set ?_ GE685.out) | exact HB.out)))
      (case aF => exact (fun _ _ => trivial))
      (case aO => exact (rA HO_686001.out))
      (case aS => exact (below_size (by repeat (first | (with_reducible first | exact HB.out | apply below_alloc | apply pw_below_drewN | apply below_drew1 | refine below_set ?_ GE683.out | refine below_set ?_ GE684.out | refine below_set ?_ GE685.out) | exact HB.out))))
      (case aL => have := LMc12.out; omega)
      intro v689 w17 ho hb hg hat
      rw [← Ny688.out] at ho
      have n0_ := Aside0.mk (blk_grown (g := gb683) (o := .cells #[.int .i64 a0_0, .slice (some ad686) l0_1.length c0_1] 31 (0, 0)) (bA BK683.out) hg (Kd.R_ne HO_686001.out BK683.out (by decide)))
      have n1_ := Aside0.mk (blk_grown (g := gb684) (o := .cells #[.int .i64 0, .slice none 0 0] 31 (0, 0)) (bA BK684.out) hg (Kd.R_ne HO_686001.out BK684.out (by decide)))
      have n2_ := Aside0.mk (blk_grown (g := gb685) (o := .cells #[.int .i64 a0_0, u686001] 31 (0, 0)) (bA BK685.out) hg (Kd.R_ne HO_686001.out BK685.out (by decide)))
      have n3_ := Aside0.mk (hb)
      have n4_ := Aside0.mk (ho)
      clear BK683
      clear BK684
      clear BK685
      clear HB
      clear HO_686001
      have BK683 := n0_
      have BK684 := n1_
      have BK685 := n2_
      have HB := n3_
      have HO690 := n4_
      clear n0_ n1_ n2_ n3_ n4_
      clear ho hb hg hat
      obtain ⟨Ao18, co18, eo18⟩ := Kd.R_slice HO690.out
      (first | subst eo18 | (injection eo18 with f1_ f2_ f3_; have f4_ := f1_.symm; have f5_ := f3_.symm; clear f1_ f2_ f3_; subst f4_; subst f5_))
      refine hK.out _ _ ⟨(blk_cell BK685.out 0).trans rfl, (blk_cell BK685.out 1).trans rfl, (blk_cell BK683.out 0).trans rfl, (blk_cell BK683.out 1).trans rfl, ((HB.out.cell (World.block_lt_of_cell? w _ hw686_0)).trans hw686_0), ((HB.out.cell (World.block_lt_of_cell? w _ hw686_1)).trans hw686_1), ((HB.out.cell (World.block_lt_of_cell? w _ hw687_0)).trans hw687_0), ((HB.out.cell (World.block_lt_of_cell? w _ hw687_1)).trans hw687_1)⟩ (fun hHeld => ?_)
      clear hK K
      refine norm_ (a' := ?_) ?_ ?_
      rotate_left
      ·show Act.put _ (some 31) _ = _
       simp only [Act.put, List.setIfInBounds_toArray, List.set_cons_zero, List.set_cons_succ, i64_w, i32_w]
       rfl
      refine pV 17 32 (bz 19 0x3ffff) HT_.out ?_
      refine last_ (i := 18) (N := none) (bz 19 0x7ffff) rfl rfl (one_of HT_.out (by kernel_rfl)) (by decide) (fun K hK => ?_)
      have hs19 : w17.cell? ⟨gb685, 1, none⟩ = some (u686001) := (blk_cell BK685.out 1).trans rfl
      have hfs19 := blk_frozen BK685.out 1
      have hns19_0 := NB683_685.out
      have hns19_1 := NB684_685.out
      have hms19_0 := NB685_683.out
      have hms19_1 := NB685_684.out
      refine skip_ (w1 := ?_) (by rfl) rfl ?_ ?_
      rotate_left
      ·go_simp
       rfl
      refine hK.out _ _ ?_
      clear hK K
      refine done_ (done_of HT_.out (by kernel_rfl)) ?_
      try go_wp2
      go_roundg k1
      case measure => have := HK1.out; omega
      case rel => exact ⟨(wrap64 (x4_1 + 1)), (y688), (.slice Ao18 y688.length co18), (by first | rfl | (simp; done) | (simp [*]; done)), H', ⟨by have := HK1.out; omega⟩, ⟨by (with_reducible repeat (first | apply Kd.R_alloc | apply Kd.R_drewN | apply Kd.R_drew)); exact Kd.R_mono (Kd.R_far (p := ⟨gb685, 1, none⟩) (Kd.R_types HO690.out BK685.out (by decide)) (fun _ hk => hk.2) (.slice Ao18 y688.length co18)) (fun _ hk => trivial)⟩, ⟨by (with_reducible repeat (first | refine blk_drewN ?_ _ | refine blk_drew ?_ | refine blk_alloc ?_ _)); refine blk_far ?_ NB683_685.out _; (with_reducible repeat (first | refine blk_drewN ?_ _ | refine blk_drew ?_ | refine blk_alloc ?_ _)); exact BK683.out⟩, ⟨by (with_reducible repeat (first | refine blk_drewN ?_ _ | refine blk_drew ?_ | refine blk_alloc ?_ _)); refine blk_far ?_ NB684_685.out _; (with_reducible repeat (first | refine blk_drewN ?_ _ | refine blk_drew ?_ | refine blk_alloc ?_ _)); exact BK684.out⟩, ⟨by (with_reducible repeat (first | refine blk_drewN ?_ _ | refine blk_drew ?_ | refine blk_alloc ?_ _)); refine blk_put (cs := #[.int .i64 a0_0, u686001]) ?_ 1 _ rfl; (with_reducible repeat (first | refine blk_drewN ?_ _ | refine blk_drew ?_ | refine blk_alloc ?_ _)); exact BK685.out⟩, ⟨by repeat (first | (with_reducible first | exact HB.out | apply below_alloc | apply pw_below_drewN | apply below_drew1 | refine below_set ?_ GE683.out | refine below_set ?_ GE684.out | refine below_set ?_ GE685.out) | exact HB.out)⟩⟩
     ·rw [if_neg c12] at H
      exact absurd H (by simp)
    ·rw [if_neg c11] at H
     exact absurd H (by simp)
   ·rw [if_neg c10] at H
    have c10b0 : decide (x4_1 < (l0_1.length : Int)) = false := decide_eq_false c10
    clear c10
    simp only [Option.some.injEq, Prod.mk.injEq] at H
    obtain ⟨rfl, rfl⟩ := H
    have hnb20 := NB683_684.out
    have hnc20 := NB684_683.out
    have hnb21 := NB683_685.out
    have hnc21 := NB685_683.out
    have hcz22_0 : wr.cell? ⟨gb683, 0, none⟩ = some (.int .i64 a0_0) := (blk_cell BK683.out 0).trans rfl
    have hcz22_1 : wr.cell? ⟨gb683, 1, none⟩ = some (.slice A0_1 l0_1.length c0_1) := (blk_cell BK683.out 1).trans rfl
    have hfz22_0 := blk_frozen BK683.out 0
    have hfz22_1 := blk_frozen BK683.out 1
    have hnb23 := NB685_684.out
    have hnc23 := NB684_685.out
    have hcz24_0 : wr.cell? ⟨gb685, 0, none⟩ = some (.int .i64 a0_0) := (blk_cell BK685.out 0).trans rfl
    have hcz24_1 : wr.cell? ⟨gb685, 1, none⟩ = some (u686001) := (blk_cell BK685.out 1).trans rfl
    have hfz24_0 := blk_frozen BK685.out 0
    have hfz24_1 := blk_frozen BK685.out 1
    have hcz25_0 : wr.cell? ⟨gb684, 0, none⟩ = some (.int .i64 0) := (blk_cell BK684.out 0).trans rfl
    have hcz25_1 : wr.cell? ⟨gb684, 1, none⟩ = some (.slice none 0 0) := (blk_cell BK684.out 1).trans rfl
    have hfz25_0 := blk_frozen BK684.out 0
    have hfz25_1 := blk_frozen BK684.out 1
    obtain ⟨Ao26, co26, eo26⟩ := Kd.R_slice HO_686001.out
    subst eo26
    go_wp2
    refine bodyPost_ret (results_cell_row rfl _ _ gb684 31 #[.int .i64 a0_0, .slice Ao26 x686001_1.length co26] (0, 0) _ rfl (by (with_reducible repeat (first | refine blk_drewN ?_ _ | refine blk_drew ?_ | refine blk_alloc ?_ _)); refine blk_put (cs := #[.int .i64 a0_0, .slice none 0 0]) ?_ 1 _ rfl; (with_reducible repeat (first | refine blk_drewN ?_ _ | refine blk_drew ?_ | refine blk_alloc ?_ _)); refine blk_put (cs := #[.int .i64 0, .slice none 0 0]) ?_ 0 _ rfl; (with_reducible repeat (first | refine blk_drewN ?_ _ | refine blk_drew ?_ | refine blk_alloc ?_ _)); exact BK684.out) Try.underlying31 rfl (by kernel_rfl)) rfl ?_
    exact ⟨_, by first | rfl | (simp [errW_none, errW_some] <;> rfl) | (simp [*, errW_none, errW_some] <;> rfl), by (with_reducible repeat (first | apply Kd.R_alloc | apply Kd.R_drewN | apply Kd.R_drew)); exact Kd.R_mono (Kd.R_far (p := ⟨gb684, 1, none⟩) (Kd.R_far (p := ⟨gb684, 0, none⟩) (Kd.R_types HO_686001.out BK684.out (by decide)) (fun _ hk => hk.2) (.int .i64 a0_0)) (fun _ hk => hk.2) (.slice Ao26 x686001_1.length co26)) (fun _ hk => trivial), by repeat (first | (with_reducible first | exact HB.out | apply below_alloc | apply pw_below_drewN | apply below_drew1 | refine below_set ?_ GE683.out | refine below_set ?_ GE684.out | refine below_set ?_ GE685.out) | exact HB.out)⟩
end Go.Proofs.Ytlldjinejckbaaa.PD

end
section
namespace Go.Proofs.Ytlldjinejckbaaa.PD
open Go.RowKit Go.Proofs.YtlldjinejckbaaaW.PrintWords Go.Proofs.YtlldjinejckbaaaW.PrintLast Go.Proofs.YtlldjinejckbaaaW.PrintMore
attribute [local go_sem] max2_int min2_int max_two min_two max_three min_three max_four min_four
set_option linter.unusedVariables false
set_option linter.unusedSimpArgs false
mutual
def wireloomlaw05_DigraphCloses.j0 : Nat → Bool → Bool → Int → Int → Int → List (S55) → Int → List (S55) → List Int → Int → Option (Bool)
 | 0, _, _, _, _, _, _, _, _, _, _ => none
 | k + 1, x5, x55, x693000, x693001, x699000, x699001, x704000, x704001, x724000, x724001 => if x55 = true then (if x5 = true then ((wireloomlaw05_order.f x704000 x704001).bind fun bt724 => (some ((x724001 == 0) == (bt724.2 == 0)))) else (none)) else (wireloomlaw05_DigraphCloses.l0 k x5 (([] : List Int)) (wrap64 ((x724000.length : Int) - 1)) x693000 x693001 x699000 x699001 x704000 x704001 x724000 x724001)
def wireloomlaw05_DigraphCloses.l0 : Nat → Bool → List Int → Int → Int → Int → Int → List (S55) → Int → List (S55) → List Int → Int → Option (Bool)
 | 0, _, _, _, _, _, _, _, _, _, _, _ => none
 | k + 1, x5, x9, x10, x693000, x693001, x699000, x699001, x704000, x704001, x724000, x724001 => if x10 ≥ 0 then (if 0 ≤ x10 then (if x10 < (x724000.length : Int) then (if x9.length < 17592186044416 then (wireloomlaw05_DigraphCloses.l0 k x5 (x9 ++ [rd x724000 x10]) (wrap64 (x10 - 1)) x693000 x693001 x699000 x699001 x704000 x704001 x724000 x724001) else (none)) else (none)) else (none)) else ((digraph_Check.f x704000 x704001 x9).bind fun t735 => (if t735 = 0 then (if x699000 = 0 then (none) else ((wireloomref05_With.f x699000 x699001 (Int.tmod (wrap64 (x693000)) x699000) (Int.tmod (wrap64 (x693001)) x699000)).bind fun bt736 => ((digraph_Reach.f x699000 x699001 (Int.tmod (wrap64 (x693001)) x699000)).bind fun t741 => ((wireloomref05_In.f k t741 (Int.tmod (wrap64 (x693000)) x699000)).bind fun t744 => ((wireloomlaw05_cycle.f bt736.1 bt736.2).bind fun bt745 => ((wireloomlaw05_order.f bt736.1 bt736.2).bind fun bt750 => (if ((bt750.2 == 0) == t744) = true then (none) else (if ((bt745.2 == 0) != t744) = true then (none) else (if t744 = true then ((wireloomref05_In.f k bt745.1 (Int.tmod (wrap64 (x693000)) x699000)).bind fun t754 => (if t754 = true then ((wireloomref05_In.f k bt745.1 (Int.tmod (wrap64 (x693001)) x699000)).bind fun t755 => (if t755 = true then (some x5) else (none))) else (none))) else (some x5)))))))))) else (none)))
end
def wireloomlaw05_DigraphCloses.f (k : Nat) (a0_0 : Int) (a0_1 : Int) (l0_2 : List Int) (a1_0 : Int) (a1_1 : Int) : Option (Bool) := (wireloomlaw05_examples.f k).bind fun t693 => (if t693 = true then ((wireloomref05_Made.f k a0_0 a0_1 l0_2).bind fun bt694 => ((wireloomref05_Reversed.f k bt694.1 bt694.2).bind fun bt699 => ((digraph_Components.f bt694.1 bt694.2).bind fun t704 => ((digraph_Components.f bt699.1 bt699.2).bind fun t707 => ((wireloomref05_SameLists.f k t704 t707).bind fun t710 => (if t710 = true then ((wireloomlaw05_cycle.f bt694.1 bt694.2).bind fun bt711 => ((wireloomlaw05_cycle.f bt699.1 bt699.2).bind fun bt715 => (if (bt711.1.length : Int) = (bt715.1.length : Int) then ((wireloomlaw05_order.f bt694.1 bt694.2).bind fun bt719 => (if bt719.2 = 0 then (wireloomlaw05_DigraphCloses.j0 k t693 (bt694.1 == 0) a1_0 a1_1 bt694.1 bt694.2 bt699.1 bt699.2 bt719.1 bt719.2) else (wireloomlaw05_DigraphCloses.j0 k t693 true a1_0 a1_1 bt694.1 bt694.2 bt699.1 bt699.2 bt719.1 bt719.2))) else (none)))) else (none))))))) else (none))
theorem wireloomlaw05_DigraphCloses.mono_l : ∀ k, (∀ y0 y1 y2 y3 y4 y5 y6 y7 y8 y9, LeO (wireloomlaw05_DigraphCloses.j0 k y0 y1 y2 y3 y4 y5 y6 y7 y8 y9) (wireloomlaw05_DigraphCloses.j0 (k + 1) y0 y1 y2 y3 y4 y5 y6 y7 y8 y9)) ∧ (∀ y0 y1 y2 y3 y4 y5 y6 y7 y8 y9 y10, LeO (wireloomlaw05_DigraphCloses.l0 k y0 y1 y2 y3 y4 y5 y6 y7 y8 y9 y10) (wireloomlaw05_DigraphCloses.l0 (k + 1) y0 y1 y2 y3 y4 y5 y6 y7 y8 y9 y10))
 | 0 => ⟨fun _ _ _ _ _ _ _ _ _ _ r h => by simp [wireloomlaw05_DigraphCloses.j0] at h, fun _ _ _ _ _ _ _ _ _ _ _ r h => by simp [wireloomlaw05_DigraphCloses.l0] at h⟩
 | k + 1 => by
  obtain ⟨ih0, ih1⟩ := wireloomlaw05_DigraphCloses.mono_l k
  refine ⟨?_, ?_⟩
  ·intro y0 y1 y2 y3 y4 y5 y6 y7 y8 y9
   unfold wireloomlaw05_DigraphCloses.j0
   repeat' first
   | (with_reducible exact ih0 _ _ _ _ _ _ _ _ _ _)
   | (with_reducible exact ih1 _ _ _ _ _ _ _ _ _ _ _)
   | (with_reducible exact wireloomlaw05_examples.mono _)
   | (with_reducible exact wireloomref05_In.mono _ _ _)
   | (with_reducible exact wireloomref05_Made.mono _ _ _ _)
   | (with_reducible exact wireloomref05_Reversed.mono _ _ _)
   | (with_reducible exact wireloomref05_SameLists.mono _ _ _)
   | (with_reducible exact LeO.refl _)
   | (with_reducible exact LeO.none _)
   | (with_reducible refine LeO.ite ?_ ?_)
   | (with_reducible refine LeO.bind ?_ (fun _ => ?_))
   | exact ih0 _ _ _ _ _ _ _ _ _ _
   | exact ih1 _ _ _ _ _ _ _ _ _ _ _
   | exact wireloomlaw05_examples.mono _
   | exact wireloomref05_In.mono _ _ _
   | exact wireloomref05_Made.mono _ _ _ _
   | exact wireloomref05_Reversed.mono _ _ _
   | exact wireloomref05_SameLists.mono _ _ _
   | exact LeO.none _
   | refine LeO.ite ?_ ?_
   | refine LeO.bind ?_ (fun _ => ?_)
  ·intro y0 y1 y2 y3 y4 y5 y6 y7 y8 y9 y10
   unfold wireloomlaw05_DigraphCloses.l0
   repeat' first
   | (with_reducible exact ih0 _ _ _ _ _ _ _ _ _ _)
   | (with_reducible exact ih1 _ _ _ _ _ _ _ _ _ _ _)
   | (with_reducible exact wireloomlaw05_examples.mono _)
   | (with_reducible exact wireloomref05_In.mono _ _ _)
   | (with_reducible exact wireloomref05_Made.mono _ _ _ _)
   | (with_reducible exact wireloomref05_Reversed.mono _ _ _)
   | (with_reducible exact wireloomref05_SameLists.mono _ _ _)
   | (with_reducible exact LeO.refl _)
   | (with_reducible exact LeO.none _)
   | (with_reducible refine LeO.ite ?_ ?_)
   | (with_reducible refine LeO.bind ?_ (fun _ => ?_))
   | exact ih0 _ _ _ _ _ _ _ _ _ _
   | exact ih1 _ _ _ _ _ _ _ _ _ _ _
   | exact wireloomlaw05_examples.mono _
   | exact wireloomref05_In.mono _ _ _
   | exact wireloomref05_Made.mono _ _ _ _
   | exact wireloomref05_Reversed.mono _ _ _
   | exact wireloomref05_SameLists.mono _ _ _
   | exact LeO.none _
   | refine LeO.ite ?_ ?_
   | refine LeO.bind ?_ (fun _ => ?_)
theorem wireloomlaw05_DigraphCloses.mono : ∀ a0 a1 a2 a3 a4 k, LeO (wireloomlaw05_DigraphCloses.f k a0 a1 a2 a3 a4) (wireloomlaw05_DigraphCloses.f (k + 1) a0 a1 a2 a3 a4) := by
 intro a0 a1 a2 a3 a4 k
 obtain ⟨ih0, ih1⟩ := wireloomlaw05_DigraphCloses.mono_l k
 unfold wireloomlaw05_DigraphCloses.f
 repeat' first
   | (with_reducible exact ih0 _ _ _ _ _ _ _ _ _ _)
   | (with_reducible exact ih1 _ _ _ _ _ _ _ _ _ _ _)
   | (with_reducible exact wireloomlaw05_examples.mono _)
   | (with_reducible exact wireloomref05_In.mono _ _ _)
   | (with_reducible exact wireloomref05_Made.mono _ _ _ _)
   | (with_reducible exact wireloomref05_Reversed.mono _ _ _)
   | (with_reducible exact wireloomref05_SameLists.mono _ _ _)
   | (with_reducible exact LeO.refl _)
   | (with_reducible exact LeO.none _)
   | (with_reducible refine LeO.ite ?_ ?_)
   | (with_reducible refine LeO.bind ?_ (fun _ => ?_))
   | exact ih0 _ _ _ _ _ _ _ _ _ _
   | exact ih1 _ _ _ _ _ _ _ _ _ _ _
   | exact wireloomlaw05_examples.mono _
   | exact wireloomref05_In.mono _ _ _
   | exact wireloomref05_Made.mono _ _ _ _
   | exact wireloomref05_Reversed.mono _ _ _
   | exact wireloomref05_SameLists.mono _ _ _
   | exact LeO.none _
   | refine LeO.ite ?_ ?_
   | refine LeO.bind ?_ (fun _ => ?_)
def wireloomlaw05_DigraphCloses.T6 : Bool × List (List Nat × List Nat) := (true, [([], []), ([0], [0]), ([], []), ([2], [2]), ([1, 3], [1, 3]), ([], []), ([5], [5]), ([], []), ([7], [7]), ([6, 8, 4], [6, 8]), ([4, 9, 9], [4, 9]), ([10], [10]), ([11, 10], [11]), ([12], [12]), ([13, 12, 12], [12, 13]), ([14, 12], [12, 14]), ([15, 12], [12, 15]), ([12], [12]), ([17, 14, 12], [12, 17]), ([18, 12], [12, 18]), ([19, 12], [12, 19]), ([16, 20, 12], [12, 16, 20]), ([12, 21], [12, 21])])
def wireloomlaw05_DigraphCloses.B6 : List Nat := [0, 1, 0, 4, 15, 0, 32, 0, 128, 511, 1023, 2047, 4095, 8191, 16383, 32767, 65535, 8191, 163839, 425983, 950271, 2097151, 4194303]
theorem wireloomlaw05_DigraphCloses.tab6 : rtab .any (opsOf Try.f9 6) = wireloomlaw05_DigraphCloses.T6 := by kernel_rfl
theorem wireloomlaw05_DigraphCloses.bits6 : waitsOk wireloomlaw05_DigraphCloses.T6.2 wireloomlaw05_DigraphCloses.B6 = true := by kernel_rfl
def wireloomlaw05_DigraphCloses.T10 : Bool × List (List Nat × List Nat) := (true, [([], []), ([0], [0]), ([1], [1]), ([2, 1], [1, 2]), ([3, 1], [1, 3]), ([1], [1]), ([5, 1, 1], [1, 5]), ([6, 1], [1, 6]), ([7, 1], [1, 7]), ([4, 8, 1], [1, 4, 8]), ([1, 9], [1, 9]), ([10, 6, 0, 1, 2, 3, 4, 5, 6, 7, 8, 9, 10], [10])])
def wireloomlaw05_DigraphCloses.B10 : List Nat := [0, 1, 3, 7, 15, 3, 35, 99, 227, 511, 1023, 2047]
theorem wireloomlaw05_DigraphCloses.tab10 : rtab .any (opsOf Try.f9 10) = wireloomlaw05_DigraphCloses.T10 := by kernel_rfl
theorem wireloomlaw05_DigraphCloses.bits10 : waitsOk wireloomlaw05_DigraphCloses.T10.2 wireloomlaw05_DigraphCloses.B10 = true := by kernel_rfl
set_option maxHeartbeats 8000000 in
set_option maxRecDepth 100000 in
theorem wireloomlaw05_DigraphCloses.calls (k : Nat) (a0_0 : Int) (a0_1 : Int) (A0_2 : Option Addr) (c0_2 : Nat) (l0_2 : List Int) (a1_0 : Int) (a1_1 : Int) (r : Bool) (w : World) (hr0_2 : Kd.C (Kd.int .u8) w A0_2 l0_2.length l0_2) (hc0_2 : l0_2.length ≤ c0_2) (h : wireloomlaw05_DigraphCloses.f k a0_0 a0_1 l0_2 a1_0 a1_1 = some r) :
  Calls Try.prog 9 #[.agg #[.int .u8 a0_0, .int .u8 a0_1, .slice A0_2 l0_2.length c0_2], .agg #[.int .u8 a1_0, .int .u8 a1_1]] w fun e w' => e = .returned (.bool r) ∧ Below w.heap.size w w' := by
 have hu24 := Try.underlying24
 have hu58 := Try.underlying58
 have hu31 := Try.underlying31
 have hfd37_0 : ∀ (x0 x1 : Value) (W : World), (Instr.field 37 (.agg #[x0, x1]) 0).run Try.prog W = .ok x0 W := fun _ _ _ => by rfl
 have hu37 := Try.underlying37
 have hfd37_1 : ∀ (x0 x1 : Value) (W : World), (Instr.field 37 (.agg #[x0, x1]) 1).run Try.prog W = .ok x1 W := fun _ _ _ => by rfl
 have HR0_2 := Aside0.mk hr0_2
 have HC0_2 := Aside0.mk hc0_2
 clear hr0_2 hc0_2
 have HB := Aside0.mk (Below.refl w.heap.size w)
 have H : ((wireloomlaw05_examples.f k).bind fun t693 => (if t693 = true then ((wireloomref05_Made.f k a0_0 a0_1 l0_2).bind fun bt694 => ((wireloomref05_Reversed.f k bt694.1 bt694.2).bind fun bt699 => ((digraph_Components.f bt694.1 bt694.2).bind fun t704 => ((digraph_Components.f bt699.1 bt699.2).bind fun t707 => ((wireloomref05_SameLists.f k t704 t707).bind fun t710 => (if t710 = true then ((wireloomlaw05_cycle.f bt694.1 bt694.2).bind fun bt711 => ((wireloomlaw05_cycle.f bt699.1 bt699.2).bind fun bt715 => (if (bt711.1.length : Int) = (bt715.1.length : Int) then ((wireloomlaw05_order.f bt694.1 bt694.2).bind fun bt719 => (if bt719.2 = 0 then (wireloomlaw05_DigraphCloses.j0 k t693 (bt694.1 == 0) a1_0 a1_1 bt694.1 bt694.2 bt699.1 bt699.2 bt719.1 bt719.2) else (wireloomlaw05_DigraphCloses.j0 k t693 true a1_0 a1_1 bt694.1 bt694.2 bt699.1 bt699.2 bt719.1 bt719.2))) else (none)))) else (none))))))) else (none))) = some r := h
 clear h
 replace H := Option.bind_eq_some_iff.mp H
 obtain ⟨t693, A30, H⟩ := H
 replace H : (if t693 = true then ((wireloomref05_Made.f k a0_0 a0_1 l0_2).bind fun bt694 => ((wireloomref05_Reversed.f k bt694.1 bt694.2).bind fun bt699 => ((digraph_Components.f bt694.1 bt694.2).bind fun t704 => ((digraph_Components.f bt699.1 bt699.2).bind fun t707 => ((wireloomref05_SameLists.f k t704 t707).bind fun t710 => (if t710 = true then ((wireloomlaw05_cycle.f bt694.1 bt694.2).bind fun bt711 => ((wireloomlaw05_cycle.f bt699.1 bt699.2).bind fun bt715 => (if (bt711.1.length : Int) = (bt715.1.length : Int) then ((wireloomlaw05_order.f bt694.1 bt694.2).bind fun bt719 => (if bt719.2 = 0 then (wireloomlaw05_DigraphCloses.j0 k t693 (bt694.1 == 0) a1_0 a1_1 bt694.1 bt694.2 bt699.1 bt699.2 bt719.1 bt719.2) else (wireloomlaw05_DigraphCloses.j0 k t693 true a1_0 a1_1 bt694.1 bt694.2 bt699.1 bt699.2 bt719.1 bt719.2))) else (none)))) else (none))))))) else (none)) = some r := H
 have A3 := Aside0.mk A30
 clear A30
 by_cases c4 : t693 = true
 ·subst c4
  have H1 : ((wireloomref05_Made.f k a0_0 a0_1 l0_2).bind fun bt694 => ((wireloomref05_Reversed.f k bt694.1 bt694.2).bind fun bt699 => ((digraph_Components.f bt694.1 bt694.2).bind fun t704 => ((digraph_Components.f bt699.1 bt699.2).bind fun t707 => ((wireloomref05_SameLists.f k t704 t707).bind fun t710 => (if t710 = true then ((wireloomlaw05_cycle.f bt694.1 bt694.2).bind fun bt711 => ((wireloomlaw05_cycle.f bt699.1 bt699.2).bind fun bt715 => (if (bt711.1.length : Int) = (bt715.1.length : Int) then ((wireloomlaw05_order.f bt694.1 bt694.2).bind fun bt719 => (if bt719.2 = 0 then (wireloomlaw05_DigraphCloses.j0 k true (bt694.1 == 0) a1_0 a1_1 bt694.1 bt694.2 bt699.1 bt699.2 bt719.1 bt719.2) else (wireloomlaw05_DigraphCloses.j0 k true true a1_0 a1_1 bt694.1 bt694.2 bt699.1 bt699.2 bt719.1 bt719.2))) else (none)))) else (none))))))) = some r := by rw [if_pos rfl] at H; exact H
  clear H
  have H := H1
  clear H1
  replace H := Option.bind_eq_some_iff.mp H
  obtain ⟨⟨t694, t695⟩, A50, H⟩ := H
  replace H : ((wireloomref05_Reversed.f k t694 t695).bind fun bt699 => ((digraph_Components.f t694 t695).bind fun t704 => ((digraph_Components.f bt699.1 bt699.2).bind fun t707 => ((wireloomref05_SameLists.f k t704 t707).bind fun t710 => (if t710 = true then ((wireloomlaw05_cycle.f t694 t695).bind fun bt711 => ((wireloomlaw05_cycle.f bt699.1 bt699.2).bind fun bt715 => (if (bt711.1.length : Int) = (bt715.1.length : Int) then ((wireloomlaw05_order.f t694 t695).bind fun bt719 => (if bt719.2 = 0 then (wireloomlaw05_DigraphCloses.j0 k true (t694 == 0) a1_0 a1_1 t694 t695 bt699.1 bt699.2 bt719.1 bt719.2) else (wireloomlaw05_DigraphCloses.j0 k true true a1_0 a1_1 t694 t695 bt699.1 bt699.2 bt719.1 bt719.2))) else (none)))) else (none)))))) = some r := H
  have A5 := Aside0.mk A50
  clear A50
  replace H := Option.bind_eq_some_iff.mp H
  obtain ⟨⟨t699, t700⟩, A60, H⟩ := H
  replace H : ((digraph_Components.f t694 t695).bind fun t704 => ((digraph_Components.f t699 t700).bind fun t707 => ((wireloomref05_SameLists.f k t704 t707).bind fun t710 => (if t710 = true then ((wireloomlaw05_cycle.f t694 t695).bind fun bt711 => ((wireloomlaw05_cycle.f t699 t700).bind fun bt715 => (if (bt711.1.length : Int) = (bt715.1.length : Int) then ((wireloomlaw05_order.f t694 t695).bind fun bt719 => (if bt719.2 = 0 then (wireloomlaw05_DigraphCloses.j0 k true (t694 == 0) a1_0 a1_1 t694 t695 t699 t700 bt719.1 bt719.2) else (wireloomlaw05_DigraphCloses.j0 k true true a1_0 a1_1 t694 t695 t699 t700 bt719.1 bt719.2))) else (none)))) else (none))))) = some r := H
  have A6 := Aside0.mk A60
  clear A60
  replace H := Option.bind_eq_some_iff.mp H
  obtain ⟨t704, A70, H⟩ := H
  replace H : ((digraph_Components.f t699 t700).bind fun t707 => ((wireloomref05_SameLists.f k t704 t707).bind fun t710 => (if t710 = true then ((wireloomlaw05_cycle.f t694 t695).bind fun bt711 => ((wireloomlaw05_cycle.f t699 t700).bind fun bt715 => (if (bt711.1.length : Int) = (bt715.1.length : Int) then ((wireloomlaw05_order.f t694 t695).bind fun bt719 => (if bt719.2 = 0 then (wireloomlaw05_DigraphCloses.j0 k true (t694 == 0) a1_0 a1_1 t694 t695 t699 t700 bt719.1 bt719.2) else (wireloomlaw05_DigraphCloses.j0 k true true a1_0 a1_1 t694 t695 t699 t700 bt719.1 bt719.2))) else (none)))) else (none)))) = some r := H
  have A7 := Aside0.mk A70
  clear A70
  replace H := Option.bind_eq_some_iff.mp H
  obtain ⟨t707, A80, H⟩ := H
  replace H : ((wireloomref05_SameLists.f k t704 t707).bind fun t710 => (if t710 = true then ((wireloomlaw05_cycle.f t694 t695).bind fun bt711 => ((wireloomlaw05_cycle.f t699 t700).bind fun bt715 => (if (bt711.1.length : Int) = (bt715.1.length : Int) then ((wireloomlaw05_order.f t694 t695).bind fun bt719 => (if bt719.2 = 0 then (wireloomlaw05_DigraphCloses.j0 k true (t694 == 0) a1_0 a1_1 t694 t695 t699 t700 bt719.1 bt719.2) else (wireloomlaw05_DigraphCloses.j0 k true true a1_0 a1_1 t694 t695 t699 t700 bt719.1 bt719.2))) else (none)))) else (none))) = some r := H
  have A8 := Aside0.mk A80
  clear A80
  replace H := Option.bind_eq_some_iff.mp H
  obtain ⟨t710, A90, H⟩ := H
  replace H : (if t710 = true then ((wireloomlaw05_cycle.f t694 t695).bind fun bt711 => ((wireloomlaw05_cycle.f t699 t700).bind fun bt715 => (if (bt711.1.length : Int) = (bt715.1.length : Int) then ((wireloomlaw05_order.f t694 t695).bind fun bt719 => (if bt719.2 = 0 then (wireloomlaw05_DigraphCloses.j0 k true (t694 == 0) a1_0 a1_1 t694 t695 t699 t700 bt719.1 bt719.2) else (wireloomlaw05_DigraphCloses.j0 k true true a1_0 a1_1 t694 t695 t699 t700 bt719.1 bt719.2))) else (none)))) else (none)) = some r := H
  have A9 := Aside0.mk A90
  clear A90
  by_cases c10 : t710 = true
  ·subst c10
   have H1 : ((wireloomlaw05_cycle.f t694 t695).bind fun bt711 => ((wireloomlaw05_cycle.f t699 t700).bind fun bt715 => (if (bt711.1.length : Int) = (bt715.1.length : Int) then ((wireloomlaw05_order.f t694 t695).bind fun bt719 => (if bt719.2 = 0 then (wireloomlaw05_DigraphCloses.j0 k true (t694 == 0) a1_0 a1_1 t694 t695 t699 t700 bt719.1 bt719.2) else (wireloomlaw05_DigraphCloses.j0 k true true a1_0 a1_1 t694 t695 t699 t700 bt719.1 bt719.2))) else (none)))) = some r := by rw [if_pos rfl] at H; exact H
   clear H
   have H := H1
   clear H1
   replace H := Option.bind_eq_some_iff.mp H
   obtain ⟨⟨t711, t714⟩, A110, H⟩ := H
   replace H : ((wireloomlaw05_cycle.f t699 t700).bind fun bt715 => (if (t711.length : Int) = (bt715.1.length : Int) then ((wireloomlaw05_order.f t694 t695).bind fun bt719 => (if bt719.2 = 0 then (wireloomlaw05_DigraphCloses.j0 k true (t694 == 0) a1_0 a1_1 t694 t695 t699 t700 bt719.1 bt719.2) else (wireloomlaw05_DigraphCloses.j0 k true true a1_0 a1_1 t694 t695 t699 t700 bt719.1 bt719.2))) else (none))) = some r := H
   have A11 := Aside0.mk A110
   clear A110
   replace H := Option.bind_eq_some_iff.mp H
   obtain ⟨⟨t715, t718⟩, A120, H⟩ := H
   replace H : (if (t711.length : Int) = (t715.length : Int) then ((wireloomlaw05_order.f t694 t695).bind fun bt719 => (if bt719.2 = 0 then (wireloomlaw05_DigraphCloses.j0 k true (t694 == 0) a1_0 a1_1 t694 t695 t699 t700 bt719.1 bt719.2) else (wireloomlaw05_DigraphCloses.j0 k true true a1_0 a1_1 t694 t695 t699 t700 bt719.1 bt719.2))) else (none)) = some r := H
   have A12 := Aside0.mk A120
   clear A120
   by_cases c13 : (t711.length : Int) = (t715.length : Int)
   ·rw [if_pos c13] at H
    have c13b0 : ((t711.length : Int) == (t715.length : Int)) = true := beq_iff_eq.mpr c13
    have c13b1 : ((t711.length : Int) != (t715.length : Int)) = false := bne_eq_false_iff_eq.mpr c13
    have c13b2 : (t711.length == t715.length) = true := by first | simpa using c13 | (simp at c13 ⊢; omega)
    clear c13
    replace H := Option.bind_eq_some_iff.mp H
    obtain ⟨⟨t719, t722⟩, A140, H⟩ := H
    replace H : (if t722 = 0 then (wireloomlaw05_DigraphCloses.j0 k true (t694 == 0) a1_0 a1_1 t694 t695 t699 t700 t719 t722) else (wireloomlaw05_DigraphCloses.j0 k true true a1_0 a1_1 t694 t695 t699 t700 t719 t722)) = some r := H
    have A14 := Aside0.mk A140
    clear A140
    have HC15 := Aside0.mk H
    clear H
    go_enter Try.func9, Try.ntmps9
    try go_wp2_with (first | ((with_reducible refine gate_dst (N := 2) rfl ?_); (try (refine gate_guard (by rfl) ?_; dsimp only)); refine box_event ?hg (N := 2) ?hd (cs := #[.int .u8 a0_0, .int .u8 a0_1, .slice A0_2 l0_2.length c0_2]) (t := 24) ?hr ?_; (case hd => rfl); (case hg => rfl); (case hr => first | (go_simp; done) | (go_simp; rfl)); intro gb691 hg w16 hbox hb; have n0_ := Aside0.mk (below_step (by repeat (first | (with_reducible first | exact HB.out | apply below_alloc | apply pw_below_drewN | apply below_drew1) | exact HB.out)) hb); have n1_ := Aside0.mk (hbox); have n2_ := Aside0.mk ((by rw [hg]; exact (below_size (by repeat (first | (with_reducible first | exact HB.out | apply below_alloc | apply pw_below_drewN | apply below_drew1) | exact HB.out))) : w.heap.size ≤ gb691)); have n3_ := Aside0.mk ((by rw [hg]; exact (below_size (by repeat (first | (with_reducible first | exact HB.out | apply below_alloc | apply pw_below_drewN | apply below_drew1) | exact HB.out))) : w.heap.size ≤ gb691)); clear HB; have HB := n0_; have BK691 := n1_; have GW691 := n2_; have GE691 := n3_; clear n0_ n1_ n2_ n3_; clear hb hbox hg) | ((with_reducible refine gate_dst (N := 3) rfl ?_); (try (refine gate_guard (by rfl) ?_; dsimp only)); refine box_event ?hg (N := 3) ?hd (cs := #[.int .u8 a1_0, .int .u8 a1_1]) (t := 58) ?hr ?_; (case hd => rfl); (case hg => rfl); (case hr => first | (go_simp; done) | (go_simp; rfl)); intro gb692 hg w17 hbox hb; have n0_ := Aside0.mk (blk_below (g := gb691) (o := .cells #[.int .u8 a0_0, .int .u8 a0_1, .slice A0_2 l0_2.length c0_2] 24 (0, 0)) (bA BK691.out) hb); have n1_ := Aside0.mk (below_step (by repeat (first | (with_reducible first | exact HB.out | apply below_alloc | apply pw_below_drewN | apply below_drew1 | refine below_set ?_ GE691.out) | exact HB.out)) hb); have n2_ := Aside0.mk (hbox); have n3_ := Aside0.mk ((by rw [hg]; exact (below_size (by repeat (first | (with_reducible first | exact HB.out | apply below_alloc | apply pw_below_drewN | apply below_drew1 | refine below_set ?_ GE691.out) | exact HB.out))) : w.heap.size ≤ gb692)); have n4_ := Aside0.mk ((by rw [hg]; exact (below_size (by repeat (first | (with_reducible first | exact HB.out | apply below_alloc | apply pw_below_drewN | apply below_drew1 | refine below_set ?_ GE691.out) | exact HB.out))) : w.heap.size ≤ gb692)); have n5_ := Aside0.mk ((by rw [hg]; exact Nat.ne_of_lt (blk_lt (g := gb691) (o := .cells #[.int .u8 a0_0, .int .u8 a0_1, .slice A0_2 l0_2.length c0_2] 24 (0, 0)) (bA BK691.out)) : gb691 ≠ gb692)); have n6_ := Aside0.mk ((by rw [hg]; exact Nat.ne_of_gt (blk_lt (g := gb691) (o := .cells #[.int .u8 a0_0, .int .u8 a0_1, .slice A0_2 l0_2.length c0_2] 24 (0, 0)) (bA BK691.out)) : gb692 ≠ gb691)); clear BK691; clear HB; have BK691 := n0_; have HB := n1_; have BK692 := n2_; have GW692 := n3_; have GE692 := n4_; have NB691_692 := n5_; have NB692_691 := n6_; clear n0_ n1_ n2_ n3_ n4_ n5_ n6_; clear hb hbox hg) | ((with_reducible refine gate_callee (f := 10) rfl ?_); refine goesL_ (some 16) rfl rfl Try.func10 (by kernel_rfl) rfl #[] rfl (by (try simp only [List.map_toArray, List.map_cons, List.map_nil]); first | done | rfl | (simp only [List.length_drop, List.length_take]; rfl)) ?_; (with_reducible refine (wireloomlaw05_examples.calls k  true _ A3.out).mono ?_); rintro e w18 ⟨rfl, hb⟩; refine ⟨_, rfl, ?_⟩; have n0_ := Aside0.mk (blk_below (g := gb691) (o := .cells #[.int .u8 a0_0, .int .u8 a0_1, .slice A0_2 l0_2.length c0_2] 24 (0, 0)) (bA BK691.out) hb); have n1_ := Aside0.mk (blk_below (g := gb692) (o := .cells #[.int .u8 a1_0, .int .u8 a1_1] 58 (0, 0)) (bA BK692.out) hb); have n2_ := Aside0.mk (below_step (by repeat (first | (with_reducible first | exact HB.out | apply below_alloc | apply pw_below_drewN | apply below_drew1 | refine below_set ?_ GE691.out | refine below_set ?_ GE692.out) | exact HB.out)) hb); clear BK691; clear BK692; clear HB; have BK691 := n0_; have BK692 := n1_; have HB := n2_; clear n0_ n1_ n2_; (try clear hb); (try clear hb2); (try clear hk); (try clear hi); have hnb19 := NB691_692.out; have hnc19 := NB692_691.out; have hcz20_0 : w18.cell? ⟨gb691, 0, none⟩ = some (.int .u8 a0_0) := (blk_cell BK691.out 0).trans rfl; have hcz20_1 : w18.cell? ⟨gb691, 1, none⟩ = some (.int .u8 a0_1) := (blk_cell BK691.out 1).trans rfl; have hcz20_2 : w18.cell? ⟨gb691, 2, none⟩ = some (.slice A0_2 l0_2.length c0_2) := (blk_cell BK691.out 2).trans rfl; have hfz20_0 := blk_frozen BK691.out 0; have hfz20_1 := blk_frozen BK691.out 1; have hfz20_2 := blk_frozen BK691.out 2) | ((with_reducible refine gate_callee (f := 11) rfl ?_); refine goesL_ (some 20) rfl rfl Try.func11 (by kernel_rfl) rfl #[.agg #[.int .u8 a0_0, .int .u8 a0_1, .slice A0_2 l0_2.length c0_2]] rfl (by (try simp only [List.map_toArray, List.map_cons, List.map_nil]); first | done | rfl | (simp only [List.length_drop, List.length_take]; rfl)) ?_; (with_reducible refine (wireloomref05_Made.calls k a0_0 a0_1 _ _ l0_2 t694 t695 _ ?side1 ?side2 A5.out).mono ?_); (case side1 => repeat (first | exact (Kd.C_below HR0_2.out HB.out) | (with_reducible refine Kd.C_alloc ?_ _) | (with_reducible refine Kd.C_drewN ?_ _) | (with_reducible refine Kd.C_drew ?_))); (case side2 => exact HC0_2.out); rintro e w21 ⟨v696, rfl, ho0, hb⟩; refine ⟨_, rfl, ?_⟩; have n0_ := Aside0.mk (Kd.R_lower ho0 (below_size (by repeat (first | (with_reducible first | exact HB.out | apply below_alloc | apply pw_below_drewN | apply below_drew1 | refine below_set ?_ GE691.out | refine below_set ?_ GE692.out) | exact HB.out)))); have n1_ := Aside0.mk (blk_below (g := gb691) (o := .cells #[.int .u8 a0_0, .int .u8 a0_1, .slice A0_2 l0_2.length c0_2] 24 (0, 0)) (bA BK691.out) hb); have n2_ := Aside0.mk (blk_below (g := gb692) (o := .cells #[.int .u8 a1_0, .int .u8 a1_1] 58 (0, 0)) (bA BK692.out) hb); have n3_ := Aside0.mk (below_step (by repeat (first | (with_reducible first | exact HB.out | apply below_alloc | apply pw_below_drewN | apply below_drew1 | refine below_set ?_ GE691.out | refine below_set ?_ GE692.out) | exact HB.out)) hb); clear BK691; clear BK692; clear HB; have HO697 := n0_; have BK691 := n1_; have BK692 := n2_; have HB := n3_; clear n0_ n1_ n2_ n3_; (try clear hb); (try clear hb2); (try clear hk); (try clear hi); (try clear ho0)) | ((with_reducible refine gate_dst (N := 6) rfl ?_); (try (refine gate_guard (by rfl) ?_; dsimp only)); refine box_event ?hg (N := 6) ?hd (cs := #[.int .i64 0, .slice none 0 0]) (t := 31) ?hr ?_; (case hd => rfl); (case hg => rfl); (case hr => first | (go_simp; done) | (go_simp; rfl)); intro gb698 hg w22 hbox hb; have n0_ := Aside0.mk (Kd.R_below (rA HO697.out) hb); have n1_ := Aside0.mk (blk_below (g := gb691) (o := .cells #[.int .u8 a0_0, .int .u8 a0_1, .slice A0_2 l0_2.length c0_2] 24 (0, 0)) (bA BK691.out) hb); have n2_ := Aside0.mk (blk_below (g := gb692) (o := .cells #[.int .u8 a1_0, .int .u8 a1_1] 58 (0, 0)) (bA BK692.out) hb); have n3_ := Aside0.mk (below_step (by repeat (first | (with_reducible first | exact HB.out | apply below_alloc | apply pw_below_drewN | apply below_drew1 | refine below_set ?_ GE691.out | refine below_set ?_ GE692.out) | exact HB.out)) hb); have n4_ := Aside0.mk (hbox); have n5_ := Aside0.mk ((by rw [hg]; exact (below_size (by repeat (first | (with_reducible first | exact HB.out | apply below_alloc | apply pw_below_drewN | apply below_drew1 | refine below_set ?_ GE691.out | refine below_set ?_ GE692.out) | exact HB.out))) : w.heap.size ≤ gb698)); have n6_ := Aside0.mk ((by rw [hg]; exact (below_size (by repeat (first | (with_reducible first | exact HB.out | apply below_alloc | apply pw_below_drewN | apply below_drew1 | refine below_set ?_ GE691.out | refine below_set ?_ GE692.out) | exact HB.out))) : w.heap.size ≤ gb698)); have n7_ := Aside0.mk ((by rw [hg]; exact Nat.ne_of_lt (blk_lt (g := gb691) (o := .cells #[.int .u8 a0_0, .int .u8 a0_1, .slice A0_2 l0_2.length c0_2] 24 (0, 0)) (bA BK691.out)) : gb691 ≠ gb698)); have n8_ := Aside0.mk ((by rw [hg]; exact Nat.ne_of_gt (blk_lt (g := gb691) (o := .cells #[.int .u8 a0_0, .int .u8 a0_1, .slice A0_2 l0_2.length c0_2] 24 (0, 0)) (bA BK691.out)) : gb698 ≠ gb691)); have n9_ := Aside0.mk ((by rw [hg]; exact Nat.ne_of_lt (blk_lt (g := gb692) (o := .cells #[.int .u8 a1_0, .int .u8 a1_1] 58 (0, 0)) (bA BK692.out)) : gb692 ≠ gb698)); have n10_ := Aside0.mk ((by rw [hg]; exact Nat.ne_of_gt (blk_lt (g := gb692) (o := .cells #[.int .u8 a1_0, .int .u8 a1_1] 58 (0, 0)) (bA BK692.out)) : gb698 ≠ gb692)); clear HO697; clear BK691; clear BK692; clear HB; have HO697 := n0_; have BK691 := n1_; have BK692 := n2_; have HB := n3_; have BK698 := n4_; have GW698 := n5_; have GE698 := n6_; have NB691_698 := n7_; have NB698_691 := n8_; have NB692_698 := n9_; have NB698_692 := n10_; clear n0_ n1_ n2_ n3_ n4_ n5_ n6_ n7_ n8_ n9_ n10_; clear hb hbox hg; have hnb23 := NB698_691.out; have hnc23 := NB691_698.out; have hnb24 := NB698_692.out; have hnc24 := NB692_698.out; have hcz25_0 : w22.cell? ⟨gb698, 0, none⟩ = some (.int .i64 0) := (blk_cell BK698.out 0).trans rfl; have hcz25_1 : w22.cell? ⟨gb698, 1, none⟩ = some (.slice none 0 0) := (blk_cell BK698.out 1).trans rfl; have hfz25_0 := blk_frozen BK698.out 0; have hfz25_1 := blk_frozen BK698.out 1; obtain ⟨Ao26, co26, eo26⟩ := Kd.R_slice HO697.out; subst eo26) | ((with_reducible refine gate_callee (f := 33) rfl ?_); refine goesL_ (some 22) rfl rfl Try.func33 (by kernel_rfl) rfl #[.agg #[.int .i64 t694, .slice Ao26 t695.length co26]] rfl (by (try simp only [List.map_toArray, List.map_cons, List.map_nil]); first | done | rfl | (simp only [List.length_drop, List.length_take]; rfl)) ?_; (with_reducible refine (wireloomref05_Reversed.calls k t694 _ _ t695 t699 t700 _ ?side1 ?side2 A6.out).mono ?_); (case side1 => refine (Kd.R_reads' (e := 55) (base := w.heap.size) (ok := fun k_ => True) (n := t695.length) (c := co26) ?_).2.2; exact (by (with_reducible repeat (first | apply Kd.R_alloc | apply Kd.R_drewN | apply Kd.R_drew)); exact (Kd.R_mono (Kd.R_far (p := ⟨gb698, 1, none⟩) (Kd.R_far (p := ⟨gb698, 0, none⟩) (Kd.R_types HO697.out BK698.out (by decide)) (fun _ hk => hk.2) (.int .i64 t694)) (fun _ hk => hk.2) (.slice Ao26 t695.length co26)) (fun _ h_ => h_.1)))); (case side2 => exact (Kd.R_reads' HO697.out).2.1); rintro e w27 ⟨v701, rfl, ho0, hb⟩; refine ⟨_, rfl, ?_⟩; have n0_ := Aside0.mk (Kd.R_elder' (by (with_reducible repeat (first | apply Kd.R_alloc | apply Kd.R_drewN | apply Kd.R_drew)); exact (Kd.R_mono (Kd.R_far (p := ⟨gb698, 1, none⟩) (Kd.R_far (p := ⟨gb698, 0, none⟩) (Kd.R_types HO697.out BK698.out (by decide)) (fun _ hk => hk.2) (.int .i64 t694)) (fun _ hk => hk.2) (.slice Ao26 t695.length co26)) (fun _ h_ => h_.1))) (Kd.R_base ho0) hb); have n1_ := Aside0.mk (Kd.R_lower (Kd.R_new' ho0 (Kd.R_lt (by (with_reducible repeat (first | apply Kd.R_alloc | apply Kd.R_drewN | apply Kd.R_drew)); exact (Kd.R_mono (Kd.R_far (p := ⟨gb698, 1, none⟩) (Kd.R_far (p := ⟨gb698, 0, none⟩) (Kd.R_types HO697.out BK698.out (by decide)) (fun _ hk => hk.2) (.int .i64 t694)) (fun _ hk => hk.2) (.slice Ao26 t695.length co26)) (fun _ h_ => h_.1))))) (below_size (by repeat (first | (with_reducible first | exact HB.out | apply below_alloc | apply pw_below_drewN | apply below_drew1 | refine below_set ?_ GE691.out | refine below_set ?_ GE692.out | refine below_set ?_ GE698.out) | exact HB.out)))); have n2_ := Aside0.mk (blk_below (g := gb691) (o := .cells #[.int .u8 a0_0, .int .u8 a0_1, .slice A0_2 l0_2.length c0_2] 24 (0, 0)) (by (with_reducible repeat (first | refine blk_drewN ?_ _ | refine blk_drew ?_ | refine blk_alloc ?_ _)); refine blk_far ?_ NB691_698.out _; (with_reducible repeat (first | refine blk_drewN ?_ _ | refine blk_drew ?_ | refine blk_alloc ?_ _)); refine blk_far ?_ NB691_698.out _; (with_reducible repeat (first | refine blk_drewN ?_ _ | refine blk_drew ?_ | refine blk_alloc ?_ _)); exact BK691.out) hb); have n3_ := Aside0.mk (blk_below (g := gb692) (o := .cells #[.int .u8 a1_0, .int .u8 a1_1] 58 (0, 0)) (by (with_reducible repeat (first | refine blk_drewN ?_ _ | refine blk_drew ?_ | refine blk_alloc ?_ _)); refine blk_far ?_ NB692_698.out _; (with_reducible repeat (first | refine blk_drewN ?_ _ | refine blk_drew ?_ | refine blk_alloc ?_ _)); refine blk_far ?_ NB692_698.out _; (with_reducible repeat (first | refine blk_drewN ?_ _ | refine blk_drew ?_ | refine blk_alloc ?_ _)); exact BK692.out) hb); have n4_ := Aside0.mk (blk_below (g := gb698) (o := .cells #[.int .i64 t694, .slice Ao26 t695.length co26] 31 (0, 0)) (by (with_reducible repeat (first | refine blk_drewN ?_ _ | refine blk_drew ?_ | refine blk_alloc ?_ _)); refine blk_put (cs := #[.int .i64 t694, .slice none 0 0]) ?_ 1 _ rfl; (with_reducible repeat (first | refine blk_drewN ?_ _ | refine blk_drew ?_ | refine blk_alloc ?_ _)); refine blk_put (cs := #[.int .i64 0, .slice none 0 0]) ?_ 0 _ rfl; (with_reducible repeat (first | refine blk_drewN ?_ _ | refine blk_drew ?_ | refine blk_alloc ?_ _)); exact BK698.out) hb); have n5_ := Aside0.mk (below_step (by repeat (first | (with_reducible first | exact HB.out | apply below_alloc | apply pw_below_drewN | apply below_drew1 | refine below_set ?_ GE691.out | refine below_set ?_ GE692.out | refine below_set ?_ GE698.out) | exact HB.out)) hb); clear HO697; clear BK691; clear BK692; clear BK698; clear HB; have HO697 := n0_; have HO702 := n1_; have BK691 := n2_; have BK692 := n3_; have BK698 := n4_; have HB := n5_; clear n0_ n1_ n2_ n3_ n4_ n5_; (try clear hb); (try clear hb2); (try clear hk); (try clear hi); (try clear ho0)) | ((with_reducible refine gate_dst (N := 7) rfl ?_); (try (refine gate_guard (by rfl) ?_; dsimp only)); refine box_event ?hg (N := 7) ?hd (cs := #[.int .i64 0, .slice none 0 0]) (t := 31) ?hr ?_; (case hd => rfl); (case hg => rfl); (case hr => first | (go_simp; done) | (go_simp; rfl)); intro gb703 hg w28 hbox hb; have n0_ := Aside0.mk (Kd.R_below (rA HO697.out) hb); have n1_ := Aside0.mk (Kd.R_below (rA HO702.out) hb); have n2_ := Aside0.mk (blk_below (g := gb691) (o := .cells #[.int .u8 a0_0, .int .u8 a0_1, .slice A0_2 l0_2.length c0_2] 24 (0, 0)) (bA BK691.out) hb); have n3_ := Aside0.mk (blk_below (g := gb692) (o := .cells #[.int .u8 a1_0, .int .u8 a1_1] 58 (0, 0)) (bA BK692.out) hb); have n4_ := Aside0.mk (blk_below (g := gb698) (o := .cells #[.int .i64 t694, .slice Ao26 t695.length co26] 31 (0, 0)) (bA BK698.out) hb); have n5_ := Aside0.mk (below_step (by repeat (first | (with_reducible first | exact HB.out | apply below_alloc | apply pw_below_drewN | apply below_drew1 | refine below_set ?_ GE691.out | refine below_set ?_ GE692.out | refine below_set ?_ GE698.out) | exact HB.out)) hb); have n6_ := Aside0.mk (hbox); have n7_ := Aside0.mk ((by rw [hg]; exact (below_size (by repeat (first | (with_reducible first | exact HB.out | apply below_alloc | apply pw_below_drewN | apply below_drew1 | refine below_set ?_ GE691.out | refine below_set ?_ GE692.out | refine below_set ?_ GE698.out) | exact HB.out))) : w.heap.size ≤ gb703)); have n8_ := Aside0.mk ((by rw [hg]; exact (below_size (by repeat (first | (with_reducible first | exact HB.out | apply below_alloc | apply pw_below_drewN | apply below_drew1 | refine below_set ?_ GE691.out | refine below_set ?_ GE692.out | refine below_set ?_ GE698.out) | exact HB.out))) : w.heap.size ≤ gb703)); have n9_ := Aside0.mk ((by rw [hg]; exact Nat.ne_of_lt (blk_lt (g := gb691) (o := .cells #[.int .u8 a0_0, .int .u8 a0_1, .slice A0_2 l0_2.length c0_2] 24 (0, 0)) (bA BK691.out)) : gb691 ≠ gb703)); have n10_ := Aside0.mk ((by rw [hg]; exact Nat.ne_of_gt (blk_lt (g := gb691) (o := .cells #[.int .u8 a0_0, .int .u8 a0_1, .slice A0_2 l0_2.length c0_2] 24 (0, 0)) (bA BK691.out)) : gb703 ≠ gb691)); have n11_ := Aside0.mk ((by rw [hg]; exact Nat.ne_of_lt (blk_lt (g := gb692) (o := .cells #[.int .u8 a1_0, .int .u8 a1_1] 58 (0, 0)) (bA BK692.out)) : gb692 ≠ gb703)); have n12_ := Aside0.mk ((by rw [hg]; exact Nat.ne_of_gt (blk_lt (g := gb692) (o := .cells #[.int .u8 a1_0, .int .u8 a1_1] 58 (0, 0)) (bA BK692.out)) : gb703 ≠ gb692)); have n13_ := Aside0.mk ((by rw [hg]; exact Nat.ne_of_lt (blk_lt (g := gb698) (o := .cells #[.int .i64 t694, .slice Ao26 t695.length co26] 31 (0, 0)) (bA BK698.out)) : gb698 ≠ gb703)); have n14_ := Aside0.mk ((by rw [hg]; exact Nat.ne_of_gt (blk_lt (g := gb698) (o := .cells #[.int .i64 t694, .slice Ao26 t695.length co26] 31 (0, 0)) (bA BK698.out)) : gb703 ≠ gb698)); clear HO697; clear HO702; clear BK691; clear BK692; clear BK698; clear HB; have HO697 := n0_; have HO702 := n1_; have BK691 := n2_; have BK692 := n3_; have BK698 := n4_; have HB := n5_; have BK703 := n6_; have GW703 := n7_; have GE703 := n8_; have NB691_703 := n9_; have NB703_691 := n10_; have NB692_703 := n11_; have NB703_692 := n12_; have NB698_703 := n13_; have NB703_698 := n14_; clear n0_ n1_ n2_ n3_ n4_ n5_ n6_ n7_ n8_ n9_ n10_ n11_ n12_ n13_ n14_; clear hb hbox hg; have hnb29 := NB703_691.out; have hnc29 := NB691_703.out; have hnb30 := NB703_692.out; have hnc30 := NB692_703.out; have hnb31 := NB703_698.out; have hnc31 := NB698_703.out; have hcz32_0 : w28.cell? ⟨gb703, 0, none⟩ = some (.int .i64 0) := (blk_cell BK703.out 0).trans rfl; have hcz32_1 : w28.cell? ⟨gb703, 1, none⟩ = some (.slice none 0 0) := (blk_cell BK703.out 1).trans rfl; have hfz32_0 := blk_frozen BK703.out 0; have hfz32_1 := blk_frozen BK703.out 1; obtain ⟨Ao33, co33, eo33⟩ := Kd.R_slice HO702.out; subst eo33))
    have n0_ : Aside0 (Kd.R k55 55 ((w28.setCell ⟨gb703, 0, none⟩ (.int .i64 t699)).setCell ⟨gb703, 1, none⟩ (.slice Ao33 t700.length co33)) w.heap.size (fun k_ => some k_ ≠ (.slice Ao33 t700.length co33 : Value).ownBlock) (.slice Ao26 t695.length co26) t695) := ⟨by (with_reducible repeat (first | apply Kd.R_alloc | apply Kd.R_drewN | apply Kd.R_drew)); exact Kd.R_mono (Kd.R_far (p := ⟨gb703, 1, none⟩) (Kd.R_far (p := ⟨gb703, 0, none⟩) (Kd.R_types HO697.out BK703.out (by decide)) (fun _ hk => hk.2) (.int .i64 t699)) (fun _ hk => hk.2) (.slice Ao33 t700.length co33)) (fun _ hk => hk.1.2)⟩
    have n1_ : Aside0 (Kd.R k55 55 ((w28.setCell ⟨gb703, 0, none⟩ (.int .i64 t699)).setCell ⟨gb703, 1, none⟩ (.slice Ao33 t700.length co33)) w.heap.size (fun k_ => some k_ ≠ (.slice Ao26 t695.length co26 : Value).ownBlock) (.slice Ao33 t700.length co33) t700) := ⟨by (with_reducible repeat (first | apply Kd.R_alloc | apply Kd.R_drewN | apply Kd.R_drew)); exact Kd.R_mono (Kd.R_far (p := ⟨gb703, 1, none⟩) (Kd.R_far (p := ⟨gb703, 0, none⟩) (Kd.R_types HO702.out BK703.out (by decide)) (fun _ hk => hk.2) (.int .i64 t699)) (fun _ hk => hk.2) (.slice Ao33 t700.length co33)) (fun _ hk => hk.1.2)⟩
    have n2_ : Aside0 (((w28.setCell ⟨gb703, 0, none⟩ (.int .i64 t699)).setCell ⟨gb703, 1, none⟩ (.slice Ao33 t700.length co33)).heap[gb691]? = some (.cells #[.int .u8 a0_0, .int .u8 a0_1, .slice A0_2 l0_2.length c0_2] 24 (0, 0))) := ⟨by (with_reducible repeat (first | refine blk_drewN ?_ _ | refine blk_drew ?_ | refine blk_alloc ?_ _)); refine blk_far ?_ NB691_703.out _; (with_reducible repeat (first | refine blk_drewN ?_ _ | refine blk_drew ?_ | refine blk_alloc ?_ _)); refine blk_far ?_ NB691_703.out _; (with_reducible repeat (first | refine blk_drewN ?_ _ | refine blk_drew ?_ | refine blk_alloc ?_ _)); exact BK691.out⟩
    have n3_ : Aside0 (((w28.setCell ⟨gb703, 0, none⟩ (.int .i64 t699)).setCell ⟨gb703, 1, none⟩ (.slice Ao33 t700.length co33)).heap[gb692]? = some (.cells #[.int .u8 a1_0, .int .u8 a1_1] 58 (0, 0))) := ⟨by (with_reducible repeat (first | refine blk_drewN ?_ _ | refine blk_drew ?_ | refine blk_alloc ?_ _)); refine blk_far ?_ NB692_703.out _; (with_reducible repeat (first | refine blk_drewN ?_ _ | refine blk_drew ?_ | refine blk_alloc ?_ _)); refine blk_far ?_ NB692_703.out _; (with_reducible repeat (first | refine blk_drewN ?_ _ | refine blk_drew ?_ | refine blk_alloc ?_ _)); exact BK692.out⟩
    have n4_ : Aside0 (((w28.setCell ⟨gb703, 0, none⟩ (.int .i64 t699)).setCell ⟨gb703, 1, none⟩ (.slice Ao33 t700.length co33)).heap[gb698]? = some (.cells #[.int .i64 t694, .slice Ao26 t695.length co26] 31 (0, 0))) := ⟨by (with_reducible repeat (first | refine blk_drewN ?_ _ | refine blk_drew ?_ | refine blk_alloc ?_ _)); refine blk_far ?_ NB698_703.out _; (with_reducible repeat (first | refine blk_drewN ?_ _ | refine blk_drew ?_ | refine blk_alloc ?_ _)); refine blk_far ?_ NB698_703.out _; (with_reducible repeat (first | refine blk_drewN ?_ _ | refine blk_drew ?_ | refine blk_alloc ?_ _)); exact BK698.out⟩
    have n5_ : Aside0 (((w28.setCell ⟨gb703, 0, none⟩ (.int .i64 t699)).setCell ⟨gb703, 1, none⟩ (.slice Ao33 t700.length co33)).heap[gb703]? = some (.cells #[.int .i64 t699, .slice Ao33 t700.length co33] 31 (0, 0))) := ⟨by (with_reducible repeat (first | refine blk_drewN ?_ _ | refine blk_drew ?_ | refine blk_alloc ?_ _)); refine blk_put (cs := #[.int .i64 t699, .slice none 0 0]) ?_ 1 _ rfl; (with_reducible repeat (first | refine blk_drewN ?_ _ | refine blk_drew ?_ | refine blk_alloc ?_ _)); refine blk_put (cs := #[.int .i64 0, .slice none 0 0]) ?_ 0 _ rfl; (with_reducible repeat (first | refine blk_drewN ?_ _ | refine blk_drew ?_ | refine blk_alloc ?_ _)); exact BK703.out⟩
    have n6_ : Aside0 (Below w.heap.size w ((w28.setCell ⟨gb703, 0, none⟩ (.int .i64 t699)).setCell ⟨gb703, 1, none⟩ (.slice Ao33 t700.length co33))) := ⟨by repeat (first | (with_reducible first | exact HB.out | apply below_alloc | apply pw_below_drewN | apply below_drew1 | refine below_set ?_ GE691.out | refine below_set ?_ GE692.out | refine below_set ?_ GE698.out | refine below_set ?_ GE703.out) | exact HB.out)⟩
    (try clear HO697)
    (try clear HO702)
    (try clear BK691)
    (try clear BK692)
    (try clear BK698)
    (try clear BK703)
    (try clear HB)
    generalize ((w28.setCell ⟨gb703, 0, none⟩ (.int .i64 t699)).setCell ⟨gb703, 1, none⟩ (.slice Ao33 t700.length co33)) = w34 at n0_ n1_ n2_ n3_ n4_ n5_ n6_ ⊢
    have HO697 := n0_
    have HO702 := n1_
    have BK691 := n2_
    have BK692 := n3_
    have BK698 := n4_
    have BK703 := n5_
    have HB := n6_
    clear n0_ n1_ n2_ n3_ n4_ n5_ n6_
    have n0_ := Aside0.mk (Kd.R_drew HO697.out)
    have n1_ := Aside0.mk (Kd.R_drew HO702.out)
    have n2_ := Aside0.mk (blk_drew BK691.out)
    have n3_ := Aside0.mk (blk_drew BK692.out)
    have n4_ := Aside0.mk (blk_drew BK698.out)
    have n5_ := Aside0.mk (blk_drew BK703.out)
    have n6_ := Aside0.mk (below_drew1 HB.out)
    clear HO697
    clear HO702
    clear BK691
    clear BK692
    clear BK698
    clear BK703
    clear HB
    have HO697 := n0_
    have HO702 := n1_
    have BK691 := n2_
    have BK692 := n3_
    have BK698 := n4_
    have BK703 := n5_
    have HB := n6_
    clear n0_ n1_ n2_ n3_ n4_ n5_ n6_
    refine start_ (n := 23) (S := fun w' => w'.cell? ⟨gb698, 0, none⟩ = some (.int .i64 t694) ∧ w'.cell? ⟨gb698, 1, none⟩ = some (.slice Ao26 t695.length co26) ∧ w'.cell? ⟨gb703, 0, none⟩ = some (.int .i64 t699) ∧ w'.cell? ⟨gb703, 1, none⟩ = some (.slice Ao33 t700.length co33)) (ds := []) #[false, false, false, false, false, false, false, false, false, false, false, false, false, false, false, false, false, false, false, false, false, false, false] (by kernel_rfl) rfl rfl ⟨(blk_cell BK698.out 0).trans rfl, (blk_cell BK698.out 1).trans rfl, (blk_cell BK703.out 0).trans rfl, (blk_cell BK703.out 1).trans rfl⟩ (fun hHeld => ?_); refine with_tabW wireloomlaw05_DigraphCloses.tab6 wireloomlaw05_DigraphCloses.bits6 (fun HT_ HW_ => ?_)
    generalize w34.drew = w35 at HO697 HO702 BK691 BK692 BK698 BK703 HB hHeld ⊢
    refine pV 0 23 (bz 23 0x1) HT_.out ?_
    refine pV 2 25 (bz 23 0x5) HT_.out ?_
    refine pV 5 28 (bz 23 0x25) HT_.out ?_
    refine pV 7 30 (bz 23 0xa5) HT_.out ?_
    refine tV 1 24 (bz 23 0xa7) HT_.out HW_.out hHeld rfl rfl (by rintro w' ⟨s0, s1, s2, s3⟩; go_simp; with_reducible rfl) ?_
    refine tV 3 26 (bz 23 0xaf) HT_.out HW_.out hHeld rfl rfl (by rintro w' ⟨s0, s1, s2, s3⟩; go_simp; with_reducible rfl) ?_
    refine tV 6 29 (bz 23 0xef) HT_.out HW_.out hHeld rfl rfl (by rintro w' ⟨s0, s1, s2, s3⟩; go_simp; with_reducible rfl) ?_
    refine tV 8 31 (bz 23 0x1ef) HT_.out HW_.out hHeld rfl rfl (by rintro w' ⟨s0, s1, s2, s3⟩; go_simp; with_reducible rfl) ?_
    refine one_ (i := 4) (N := some 27) (bz 23 0x1ff) rfl rfl (one_of HT_.out (by kernel_rfl)) (by decide) (fun K hK => ?_)
    refine goes_ Try.func27 (by kernel_rfl) rfl #[.int .i64 t694, .slice Ao26 t695.length co26] (by rfl) rfl rfl (by (try simp only [List.map_toArray, List.map_cons, List.map_nil]); first | done | rfl | (simp only [List.length_drop, List.length_take]; rfl)) ?_
    with_reducible refine (digraph_Components.calls t694 _ _ t695 t704 _ ?side1 ?side2 A7.out).mono ?_
    (case side1 => repeat (first | exact (Kd.R_reads' HO697.out).2.2 | (with_reducible refine Kd.C_alloc ?_ _) | (with_reducible refine Kd.C_drewN ?_ _) | (with_reducible refine Kd.C_drew ?_)))
    (case side2 => exact (Kd.R_reads' HO697.out).2.1)
    rintro e w36 ⟨v705, rfl, ho0, hb⟩
    refine ⟨_, rfl, ?_⟩
    have n0_ := Aside0.mk (Kd.R_below (rA HO697.out) hb)
    have n1_ := Aside0.mk (Kd.R_below (rA HO702.out) hb)
    have n2_ := Aside0.mk (Kd.S_lower ho0 (below_size (by repeat (first | (with_reducible first | exact HB.out | apply below_alloc | apply pw_below_drewN | apply below_drew1 | refine below_set ?_ GE691.out | refine below_set ?_ GE692.out | refine below_set ?_ GE698.out | refine below_set ?_ GE703.out) | exact HB.out))))
    have n3_ := Aside0.mk (blk_below (g := gb691) (o := .cells #[.int .u8 a0_0, .int .u8 a0_1, .slice A0_2 l0_2.length c0_2] 24 (0, 0)) (bA BK691.out) hb)
    have n4_ := Aside0.mk (blk_below (g := gb692) (o := .cells #[.int .u8 a1_0, .int .u8 a1_1] 58 (0, 0)) (bA BK692.out) hb)
    have n5_ := Aside0.mk (blk_below (g := gb698) (o := .cells #[.int .i64 t694, .slice Ao26 t695.length co26] 31 (0, 0)) (bA BK698.out) hb)
    have n6_ := Aside0.mk (blk_below (g := gb703) (o := .cells #[.int .i64 t699, .slice Ao33 t700.length co33] 31 (0, 0)) (bA BK703.out) hb)
    have n7_ := Aside0.mk (below_step (by repeat (first | (with_reducible first | exact HB.out | apply below_alloc | apply pw_below_drewN | apply below_drew1 | refine below_set ?_ GE691.out | refine below_set ?_ GE692.out | refine below_set ?_ GE698.out | refine below_set ?_ GE703.out) | exact HB.out)) hb)
    clear HO697
    clear HO702
    clear BK691
    clear BK692
    clear BK698
    clear BK703
    clear HB
    have HO697 := n0_
    have HO702 := n1_
    have HO706 := n2_
    have BK691 := n3_
    have BK692 := n4_
    have BK698 := n5_
    have BK703 := n6_
    have HB := n7_
    clear n0_ n1_ n2_ n3_ n4_ n5_ n6_ n7_
    (try clear hb)
    (try clear hb2)
    (try clear hk)
    (try clear hi)
    (try clear ho0)
    refine hK.out _ _ ⟨(blk_cell BK698.out 0).trans rfl, (blk_cell BK698.out 1).trans rfl, (blk_cell BK703.out 0).trans rfl, (blk_cell BK703.out 1).trans rfl⟩ (fun hHeld => ?_)
    clear hK K
    refine norm_ (a' := ?_) ?_ ?_
    rotate_left
    ·show Act.put _ (some 27) _ = _
     simp only [Act.put, List.setIfInBounds_toArray, List.set_cons_zero, List.set_cons_succ, i64_w, i32_w]
     rfl
    refine one_ (i := 9) (N := some 32) (bz 23 0x3ff) rfl rfl (one_of HT_.out (by kernel_rfl)) (by decide) (fun K hK => ?_)
    refine goes_ Try.func27 (by kernel_rfl) rfl #[.int .i64 t699, .slice Ao33 t700.length co33] (by rfl) rfl rfl (by (try simp only [List.map_toArray, List.map_cons, List.map_nil]); first | done | rfl | (simp only [List.length_drop, List.length_take]; rfl)) ?_
    with_reducible refine (digraph_Components.calls t699 _ _ t700 t707 _ ?side1 ?side2 A8.out).mono ?_
    (case side1 => repeat (first | exact (Kd.R_reads' HO702.out).2.2 | (with_reducible refine Kd.C_alloc ?_ _) | (with_reducible refine Kd.C_drewN ?_ _) | (with_reducible refine Kd.C_drew ?_)))
    (case side2 => exact (Kd.R_reads' HO702.out).2.1)
    rintro e w37 ⟨v708, rfl, ho0, hb⟩
    refine ⟨_, rfl, ?_⟩
    have n0_ := Aside0.mk (Kd.R_below (rA HO697.out) hb)
    have n1_ := Aside0.mk (Kd.R_below (rA HO702.out) hb)
    have n2_ := Aside0.mk (Kd.S_elder' (by (with_reducible repeat (first | apply Kd.S_alloc | apply Kd.S_drewN | apply Kd.S_drew)); exact HO706.out) (Kd.S_base ho0) hb)
    have n3_ := Aside0.mk (Kd.S_lower (Kd.S_new' ho0 (Kd.S_lt (by (with_reducible repeat (first | apply Kd.S_alloc | apply Kd.S_drewN | apply Kd.S_drew)); exact HO706.out))) (below_size (by repeat (first | (with_reducible first | exact HB.out | apply below_alloc | apply pw_below_drewN | apply below_drew1 | refine below_set ?_ GE691.out | refine below_set ?_ GE692.out | refine below_set ?_ GE698.out | refine below_set ?_ GE703.out) | exact HB.out))))
    have n4_ := Aside0.mk (blk_below (g := gb691) (o := .cells #[.int .u8 a0_0, .int .u8 a0_1, .slice A0_2 l0_2.length c0_2] 24 (0, 0)) (bA BK691.out) hb)
    have n5_ := Aside0.mk (blk_below (g := gb692) (o := .cells #[.int .u8 a1_0, .int .u8 a1_1] 58 (0, 0)) (bA BK692.out) hb)
    have n6_ := Aside0.mk (blk_below (g := gb698) (o := .cells #[.int .i64 t694, .slice Ao26 t695.length co26] 31 (0, 0)) (bA BK698.out) hb)
    have n7_ := Aside0.mk (blk_below (g := gb703) (o := .cells #[.int .i64 t699, .slice Ao33 t700.length co33] 31 (0, 0)) (bA BK703.out) hb)
    have n8_ := Aside0.mk (below_step (by repeat (first | (with_reducible first | exact HB.out | apply below_alloc | apply pw_below_drewN | apply below_drew1 | refine below_set ?_ GE691.out | refine below_set ?_ GE692.out | refine below_set ?_ GE698.out | refine below_set ?_ GE703.out) | exact HB.out)) hb)
    clear HO697
    clear HO702
    clear HO706
    clear BK691
    clear BK692
    clear BK698
    clear BK703
    clear HB
    have HO697 := n0_
    have HO702 := n1_
    have HO706 := n2_
    have HO709 := n3_
    have BK691 := n4_
    have BK692 := n5_
    have BK698 := n6_
    have BK703 := n7_
    have HB := n8_
    clear n0_ n1_ n2_ n3_ n4_ n5_ n6_ n7_ n8_
    (try clear hb)
    (try clear hb2)
    (try clear hk)
    (try clear hi)
    (try clear ho0)
    obtain ⟨Ao38, co38, eo38⟩ := Kd.S_slice HO706.out
    (first | subst eo38 | (injection eo38 with f1_ f2_ f3_; have f4_ := f1_.symm; have f5_ := f3_.symm; clear f1_ f2_ f3_; subst f4_; subst f5_))
    obtain ⟨Ao39, co39, eo39⟩ := Kd.S_slice HO709.out
    (first | subst eo39 | (injection eo39 with f1_ f2_ f3_; have f4_ := f1_.symm; have f5_ := f3_.symm; clear f1_ f2_ f3_; subst f4_; subst f5_))
    refine hK.out _ _ ⟨(blk_cell BK698.out 0).trans rfl, (blk_cell BK698.out 1).trans rfl, (blk_cell BK703.out 0).trans rfl, (blk_cell BK703.out 1).trans rfl⟩ (fun hHeld => ?_)
    clear hK K
    refine norm_ (a' := ?_) ?_ ?_
    rotate_left
    ·show Act.put _ (some 32) _ = _
     simp only [Act.put, List.setIfInBounds_toArray, List.set_cons_zero, List.set_cons_succ, i64_w, i32_w]
     rfl
    refine one_ (i := 10) (N := some 33) (bz 23 0x7ff) rfl rfl (one_of HT_.out (by kernel_rfl)) (by decide) (fun K hK => ?_)
    refine goes_ Try.func26 (by kernel_rfl) rfl #[.slice Ao38 t704.length co38, .slice Ao39 t707.length co39] (by rfl) rfl rfl (by (try simp only [List.map_toArray, List.map_cons, List.map_nil]); first | done | rfl | (simp only [List.length_drop, List.length_take]; rfl)) ?_
    with_reducible refine (wireloomref05_SameLists.calls k _ _ t704 _ _ t707 true _ ?side1 ?side2 ?side3 ?side4 A9.out).mono ?_
    (case side1 => repeat (first | exact (Kd.S_reads' HO706.out).2.2 | (with_reducible refine Kd.C_alloc ?_ _) | (with_reducible refine Kd.C_drewN ?_ _) | (with_reducible refine Kd.C_drew ?_)))
    (case side2 => exact (Kd.S_reads' HO706.out).2.1)
    (case side3 => repeat (first | exact (Kd.S_reads' HO709.out).2.2 | (with_reducible refine Kd.C_alloc ?_ _) | (with_reducible refine Kd.C_drewN ?_ _) | (with_reducible refine Kd.C_drew ?_)))
    (case side4 => exact (Kd.S_reads' HO709.out).2.1)
    rintro e w' ⟨rfl, ⟨nd, rfl⟩⟩
    refine ⟨_, rfl, ?_⟩
    refine hK.out _ _ ⟨(blk_cell BK698.out 0).trans rfl, (blk_cell BK698.out 1).trans rfl, (blk_cell BK703.out 0).trans rfl, (blk_cell BK703.out 1).trans rfl⟩ (fun hHeld => ?_)
    clear hK K
    refine norm_ (a' := ?_) ?_ ?_
    rotate_left
    ·show Act.put _ (some 33) _ = _
     simp only [Act.put, List.setIfInBounds_toArray, List.set_cons_zero, List.set_cons_succ, i64_w, i32_w]
     rfl
    refine pV 11 34 (bz 23 0xfff) HT_.out ?_
    refine pV 12 35 (bz 23 0x1fff) HT_.out ?_
    refine tV 13 36 (bz 23 0x3fff) HT_.out HW_.out hHeld rfl rfl (by rintro w' ⟨s0, s1, s2, s3⟩; go_simp; with_reducible rfl) ?_
    refine tV 17 40 (bz 23 0x23fff) HT_.out HW_.out hHeld rfl rfl (by rintro w' ⟨s0, s1, s2, s3⟩; go_simp; with_reducible rfl) ?_
    refine one_ (i := 14) (N := some 37) (bz 23 0x27fff) rfl rfl (one_of HT_.out (by kernel_rfl)) (by decide) (fun K hK => ?_)
    refine goes_ Try.func17 (by kernel_rfl) rfl #[.agg #[.int .i64 t694, .slice Ao26 t695.length co26]] (by rfl) rfl rfl (by (try simp only [List.map_toArray, List.map_cons, List.map_nil]); first | done | rfl | (simp only [List.length_drop, List.length_take]; rfl)) ?_
    with_reducible refine (wireloomlaw05_cycle.calls t694 _ _ t695 t711 t714 _ ?side1 ?side2 A11.out).mono ?_
    (case side1 => repeat (first | exact (Kd.R_reads' HO697.out).2.2 | (with_reducible refine Kd.C_alloc ?_ _) | (with_reducible refine Kd.C_drewN ?_ _) | (with_reducible refine Kd.C_drew ?_)))
    (case side2 => exact (Kd.R_reads' HO697.out).2.1)
    rintro e w40 ⟨v712, rfl, ho0, hb⟩
    refine ⟨_, rfl, ?_⟩
    have n0_ := Aside0.mk (Kd.R_below (rA HO697.out) hb)
    have n1_ := Aside0.mk (Kd.R_below (rA HO702.out) hb)
    have n2_ := Aside0.mk (Kd.S_elder' (by (with_reducible repeat (first | apply Kd.S_alloc | apply Kd.S_drewN | apply Kd.S_drew)); exact HO706.out) (Kd.R_base ho0) hb)
    have n3_ := Aside0.mk (Kd.S_elder' (by (with_reducible repeat (first | apply Kd.S_alloc | apply Kd.S_drewN | apply Kd.S_drew)); exact HO709.out) (Kd.R_base ho0) hb)
    have n4_ := Aside0.mk (Kd.R_lower ho0 (below_size (by repeat (first | (with_reducible first | exact HB.out | apply below_alloc | apply pw_below_drewN | apply below_drew1 | refine below_set ?_ GE691.out | refine below_set ?_ GE692.out | refine below_set ?_ GE698.out | refine below_set ?_ GE703.out) | exact HB.out))))
    have n5_ := Aside0.mk (blk_below (g := gb691) (o := .cells #[.int .u8 a0_0, .int .u8 a0_1, .slice A0_2 l0_2.length c0_2] 24 (0, 0)) (bA BK691.out) hb)
    have n6_ := Aside0.mk (blk_below (g := gb692) (o := .cells #[.int .u8 a1_0, .int .u8 a1_1] 58 (0, 0)) (bA BK692.out) hb)
    have n7_ := Aside0.mk (blk_below (g := gb698) (o := .cells #[.int .i64 t694, .slice Ao26 t695.length co26] 31 (0, 0)) (bA BK698.out) hb)
    have n8_ := Aside0.mk (blk_below (g := gb703) (o := .cells #[.int .i64 t699, .slice Ao33 t700.length co33] 31 (0, 0)) (bA BK703.out) hb)
    have n9_ := Aside0.mk (below_step (by repeat (first | (with_reducible first | exact HB.out | apply below_alloc | apply pw_below_drewN | apply below_drew1 | refine below_set ?_ GE691.out | refine below_set ?_ GE692.out | refine below_set ?_ GE698.out | refine below_set ?_ GE703.out) | exact HB.out)) hb)
    clear HO697
    clear HO702
    clear HO706
    clear HO709
    clear BK691
    clear BK692
    clear BK698
    clear BK703
    clear HB
    have HO697 := n0_
    have HO702 := n1_
    have HO706 := n2_
    have HO709 := n3_
    have HO713 := n4_
    have BK691 := n5_
    have BK692 := n6_
    have BK698 := n7_
    have BK703 := n8_
    have HB := n9_
    clear n0_ n1_ n2_ n3_ n4_ n5_ n6_ n7_ n8_ n9_
    (try clear hb)
    (try clear hb2)
    (try clear hk)
    (try clear hi)
    (try clear ho0)
    obtain ⟨Ao41, co41, eo41⟩ := Kd.R_slice HO713.out
    (first | subst eo41 | (injection eo41 with f1_ f2_ f3_; have f4_ := f1_.symm; have f5_ := f3_.symm; clear f1_ f2_ f3_; subst f4_; subst f5_))
    refine hK.out _ _ ⟨(blk_cell BK698.out 0).trans rfl, (blk_cell BK698.out 1).trans rfl, (blk_cell BK703.out 0).trans rfl, (blk_cell BK703.out 1).trans rfl⟩ (fun hHeld => ?_)
    clear hK K
    refine norm_ (a' := ?_) ?_ ?_
    rotate_left
    ·show Act.put _ (some 37) _ = _
     simp only [Act.put, List.setIfInBounds_toArray, List.set_cons_zero, List.set_cons_succ, i64_w, i32_w]
     rfl
    refine pV 15 38 (bz 23 0x2ffff) HT_.out ?_
    refine pV 16 39 (bz 23 0x3ffff) HT_.out ?_
    refine one_ (i := 18) (N := some 41) (bz 23 0x7ffff) rfl rfl (one_of HT_.out (by kernel_rfl)) (by decide) (fun K hK => ?_)
    refine goes_ Try.func17 (by kernel_rfl) rfl #[.agg #[.int .i64 t699, .slice Ao33 t700.length co33]] (by rfl) rfl rfl (by (try simp only [List.map_toArray, List.map_cons, List.map_nil]); first | done | rfl | (simp only [List.length_drop, List.length_take]; rfl)) ?_
    with_reducible refine (wireloomlaw05_cycle.calls t699 _ _ t700 t715 t718 _ ?side1 ?side2 A12.out).mono ?_
    (case side1 => repeat (first | exact (Kd.R_reads' HO702.out).2.2 | (with_reducible refine Kd.C_alloc ?_ _) | (with_reducible refine Kd.C_drewN ?_ _) | (with_reducible refine Kd.C_drew ?_)))
    (case side2 => exact (Kd.R_reads' HO702.out).2.1)
    rintro e w42 ⟨v716, rfl, ho0, hb⟩
    refine ⟨_, rfl, ?_⟩
    have n0_ := Aside0.mk (Kd.R_below (rA HO697.out) hb)
    have n1_ := Aside0.mk (Kd.R_below (rA HO702.out) hb)
    have n2_ := Aside0.mk (Kd.S_elder' (by (with_reducible repeat (first | apply Kd.S_alloc | apply Kd.S_drewN | apply Kd.S_drew)); exact HO706.out) (Kd.R_base ho0) hb)
    have n3_ := Aside0.mk (Kd.S_elder' (by (with_reducible repeat (first | apply Kd.S_alloc | apply Kd.S_drewN | apply Kd.S_drew)); exact HO709.out) (Kd.R_base ho0) hb)
    have n4_ := Aside0.mk (Kd.R_elder' (rA HO713.out) (Kd.R_base ho0) hb)
    have n5_ := Aside0.mk (Kd.R_lower (Kd.R_new' ho0 (Kd.R_lt (rA HO713.out))) (below_size (by repeat (first | (with_reducible first | exact HB.out | apply below_alloc | apply pw_below_drewN | apply below_drew1 | refine below_set ?_ GE691.out | refine below_set ?_ GE692.out | refine below_set ?_ GE698.out | refine below_set ?_ GE703.out) | exact HB.out))))
    have n6_ := Aside0.mk (blk_below (g := gb691) (o := .cells #[.int .u8 a0_0, .int .u8 a0_1, .slice A0_2 l0_2.length c0_2] 24 (0, 0)) (bA BK691.out) hb)
    have n7_ := Aside0.mk (blk_below (g := gb692) (o := .cells #[.int .u8 a1_0, .int .u8 a1_1] 58 (0, 0)) (bA BK692.out) hb)
    have n8_ := Aside0.mk (blk_below (g := gb698) (o := .cells #[.int .i64 t694, .slice Ao26 t695.length co26] 31 (0, 0)) (bA BK698.out) hb)
    have n9_ := Aside0.mk (blk_below (g := gb703) (o := .cells #[.int .i64 t699, .slice Ao33 t700.length co33] 31 (0, 0)) (bA BK703.out) hb)
    have n10_ := Aside0.mk (below_step (by repeat (first | (with_reducible first | exact HB.out | apply below_alloc | apply pw_below_drewN | apply below_drew1 | refine below_set ?_ GE691.out | refine below_set ?_ GE692.out | refine below_set ?_ GE698.out | refine below_set ?_ GE703.out) | exact HB.out)) hb)
    clear HO697
    clear HO702
    clear HO706
    clear HO709
    clear HO713
    clear BK691
    clear BK692
    clear BK698
    clear BK703
    clear HB
    have HO697 := n0_
    have HO702 := n1_
    have HO706 := n2_
    have HO709 := n3_
    have HO713 := n4_
    have HO717 := n5_
    have BK691 := n6_
    have BK692 := n7_
    have BK698 := n8_
    have BK703 := n9_
    have HB := n10_
    clear n0_ n1_ n2_ n3_ n4_ n5_ n6_ n7_ n8_ n9_ n10_
    (try clear hb)
    (try clear hb2)
    (try clear hk)
    (try clear hi)
    (try clear ho0)
    obtain ⟨Ao43, co43, eo43⟩ := Kd.R_slice HO717.out
    (first | subst eo43 | (injection eo43 with f1_ f2_ f3_; have f4_ := f1_.symm; have f5_ := f3_.symm; clear f1_ f2_ f3_; subst f4_; subst f5_))
    refine hK.out _ _ ⟨(blk_cell BK698.out 0).trans rfl, (blk_cell BK698.out 1).trans rfl, (blk_cell BK703.out 0).trans rfl, (blk_cell BK703.out 1).trans rfl⟩ (fun hHeld => ?_)
    clear hK K
    refine norm_ (a' := ?_) ?_ ?_
    rotate_left
    ·show Act.put _ (some 41) _ = _
     simp only [Act.put, List.setIfInBounds_toArray, List.set_cons_zero, List.set_cons_succ, i64_w, i32_w]
     rfl
    refine pV 19 42 (bz 23 0xfffff) HT_.out ?_
    refine pV 20 43 (bz 23 0x1fffff) HT_.out ?_
    refine pV 21 44 (bz 23 0x3fffff) HT_.out ?_
    refine pV 22 45 (bz 23 0x7fffff) HT_.out ?_
    refine done_ (done_of HT_.out (by kernel_rfl)) ?_
    have hcz44_0 : w42.cell? ⟨gb698, 0, none⟩ = some (.int .i64 t694) := (blk_cell BK698.out 0).trans rfl
    have hcz44_1 : w42.cell? ⟨gb698, 1, none⟩ = some (.slice Ao26 t695.length co26) := (blk_cell BK698.out 1).trans rfl
    have hfz44_0 := blk_frozen BK698.out 0
    have hfz44_1 := blk_frozen BK698.out 1
    go_upto_region 9 with (first | ((with_reducible refine gate_callee (f := 15) rfl ?_); refine goesL_ (some 47) rfl rfl Try.func15 (by kernel_rfl) rfl #[.agg #[.int .i64 t694, .slice Ao26 t695.length co26]] rfl (by (try simp only [List.map_toArray, List.map_cons, List.map_nil]); first | done | rfl | (simp only [List.length_drop, List.length_take]; rfl)) ?_; (with_reducible refine (wireloomlaw05_order.calls t694 _ _ t695 t719 t722 _ ?side1 ?side2 A14.out).mono ?_); (case side1 => repeat (first | exact (Kd.R_reads' HO697.out).2.2 | (with_reducible refine Kd.C_alloc ?_ _) | (with_reducible refine Kd.C_drewN ?_ _) | (with_reducible refine Kd.C_drew ?_))); (case side2 => exact (Kd.R_reads' HO697.out).2.1); rintro e w45 ⟨v720, rfl, ho0, hb⟩; refine ⟨_, rfl, ?_⟩; have n0_ := Aside0.mk (Kd.R_below (rA HO697.out) hb); have n1_ := Aside0.mk (Kd.R_below (rA HO702.out) hb); have n2_ := Aside0.mk (Kd.S_elder' (by (with_reducible repeat (first | apply Kd.S_alloc | apply Kd.S_drewN | apply Kd.S_drew)); exact HO706.out) (Kd.R_base ho0) hb); have n3_ := Aside0.mk (Kd.S_elder' (by (with_reducible repeat (first | apply Kd.S_alloc | apply Kd.S_drewN | apply Kd.S_drew)); exact HO709.out) (Kd.R_base ho0) hb); have n4_ := Aside0.mk (Kd.R_elder' (rA HO713.out) (Kd.R_base ho0) hb); have n5_ := Aside0.mk (Kd.R_elder' (rA HO717.out) (Kd.R_base ho0) hb); have n6_ := Aside0.mk (Kd.R_lower (Kd.R_new' (Kd.R_new' ho0 (Kd.R_lt (rA HO713.out))) (Kd.R_lt (rA HO717.out))) (below_size (by repeat (first | (with_reducible first | exact HB.out | apply below_alloc | apply pw_below_drewN | apply below_drew1 | refine below_set ?_ GE691.out | refine below_set ?_ GE692.out | refine below_set ?_ GE698.out | refine below_set ?_ GE703.out) | exact HB.out)))); have n7_ := Aside0.mk (blk_below (g := gb691) (o := .cells #[.int .u8 a0_0, .int .u8 a0_1, .slice A0_2 l0_2.length c0_2] 24 (0, 0)) (bA BK691.out) hb); have n8_ := Aside0.mk (blk_below (g := gb692) (o := .cells #[.int .u8 a1_0, .int .u8 a1_1] 58 (0, 0)) (bA BK692.out) hb); have n9_ := Aside0.mk (blk_below (g := gb698) (o := .cells #[.int .i64 t694, .slice Ao26 t695.length co26] 31 (0, 0)) (bA BK698.out) hb); have n10_ := Aside0.mk (blk_below (g := gb703) (o := .cells #[.int .i64 t699, .slice Ao33 t700.length co33] 31 (0, 0)) (bA BK703.out) hb); have n11_ := Aside0.mk (below_step (by repeat (first | (with_reducible first | exact HB.out | apply below_alloc | apply pw_below_drewN | apply below_drew1 | refine below_set ?_ GE691.out | refine below_set ?_ GE692.out | refine below_set ?_ GE698.out | refine below_set ?_ GE703.out) | exact HB.out)) hb); clear HO697; clear HO702; clear HO706; clear HO709; clear HO713; clear HO717; clear BK691; clear BK692; clear BK698; clear BK703; clear HB; have HO697 := n0_; have HO702 := n1_; have HO706 := n2_; have HO709 := n3_; have HO713 := n4_; have HO717 := n5_; have HO721 := n6_; have BK691 := n7_; have BK692 := n8_; have BK698 := n9_; have BK703 := n10_; have HB := n11_; clear n0_ n1_ n2_ n3_ n4_ n5_ n6_ n7_ n8_ n9_ n10_ n11_; (try clear hb); (try clear hb2); (try clear hk); (try clear hi); (try clear ho0)) | ((with_reducible refine gate_dst (N := 8) rfl ?_); (try (refine gate_guard (by rfl) ?_; dsimp only)); refine box_event ?hg (N := 8) ?hd (cs := #[.slice none 0 0, .int .i64 0]) (t := 37) ?hr ?_; (case hd => rfl); (case hg => rfl); (case hr => first | (go_simp; done) | (go_simp; rfl)); intro gb723 hg w46 hbox hb; have n0_ := Aside0.mk (Kd.R_below (rA HO697.out) hb); have n1_ := Aside0.mk (Kd.R_below (rA HO702.out) hb); have n2_ := Aside0.mk (Kd.S_below (by (with_reducible repeat (first | apply Kd.S_alloc | apply Kd.S_drewN | apply Kd.S_drew)); exact HO706.out) hb); have n3_ := Aside0.mk (Kd.S_below (by (with_reducible repeat (first | apply Kd.S_alloc | apply Kd.S_drewN | apply Kd.S_drew)); exact HO709.out) hb); have n4_ := Aside0.mk (Kd.R_below (rA HO713.out) hb); have n5_ := Aside0.mk (Kd.R_below (rA HO717.out) hb); have n6_ := Aside0.mk (Kd.R_below (rA HO721.out) hb); have n7_ := Aside0.mk (blk_below (g := gb691) (o := .cells #[.int .u8 a0_0, .int .u8 a0_1, .slice A0_2 l0_2.length c0_2] 24 (0, 0)) (bA BK691.out) hb); have n8_ := Aside0.mk (blk_below (g := gb692) (o := .cells #[.int .u8 a1_0, .int .u8 a1_1] 58 (0, 0)) (bA BK692.out) hb); have n9_ := Aside0.mk (blk_below (g := gb698) (o := .cells #[.int .i64 t694, .slice Ao26 t695.length co26] 31 (0, 0)) (bA BK698.out) hb); have n10_ := Aside0.mk (blk_below (g := gb703) (o := .cells #[.int .i64 t699, .slice Ao33 t700.length co33] 31 (0, 0)) (bA BK703.out) hb); have n11_ := Aside0.mk (below_step (by repeat (first | (with_reducible first | exact HB.out | apply below_alloc | apply pw_below_drewN | apply below_drew1 | refine below_set ?_ GE691.out | refine below_set ?_ GE692.out | refine below_set ?_ GE698.out | refine below_set ?_ GE703.out) | exact HB.out)) hb); have n12_ := Aside0.mk (hbox); have n13_ := Aside0.mk ((by rw [hg]; exact (below_size (by repeat (first | (with_reducible first | exact HB.out | apply below_alloc | apply pw_below_drewN | apply below_drew1 | refine below_set ?_ GE691.out | refine below_set ?_ GE692.out | refine below_set ?_ GE698.out | refine below_set ?_ GE703.out) | exact HB.out))) : w.heap.size ≤ gb723)); have n14_ := Aside0.mk ((by rw [hg]; exact (below_size (by repeat (first | (with_reducible first | exact HB.out | apply below_alloc | apply pw_below_drewN | apply below_drew1 | refine below_set ?_ GE691.out | refine below_set ?_ GE692.out | refine below_set ?_ GE698.out | refine below_set ?_ GE703.out) | exact HB.out))) : w.heap.size ≤ gb723)); have n15_ := Aside0.mk ((by rw [hg]; exact Nat.ne_of_lt (blk_lt (g := gb691) (o := .cells #[.int .u8 a0_0, .int .u8 a0_1, .slice A0_2 l0_2.length c0_2] 24 (0, 0)) (bA BK691.out)) : gb691 ≠ gb723)); have n16_ := Aside0.mk ((by rw [hg]; exact Nat.ne_of_gt (blk_lt (g := gb691) (o := .cells #[.int .u8 a0_0, .int .u8 a0_1, .slice A0_2 l0_2.length c0_2] 24 (0, 0)) (bA BK691.out)) : gb723 ≠ gb691)); have n17_ := Aside0.mk ((by rw [hg]; exact Nat.ne_of_lt (blk_lt (g := gb692) (o := .cells #[.int .u8 a1_0, .int .u8 a1_1] 58 (0, 0)) (bA BK692.out)) : gb692 ≠ gb723)); have n18_ := Aside0.mk ((by rw [hg]; exact Nat.ne_of_gt (blk_lt (g := gb692) (o := .cells #[.int .u8 a1_0, .int .u8 a1_1] 58 (0, 0)) (bA BK692.out)) : gb723 ≠ gb692)); have n19_ := Aside0.mk ((by rw [hg]; exact Nat.ne_of_lt (blk_lt (g := gb698) (o := .cells #[.int .i64 t694, .slice Ao26 t695.length co26] 31 (0, 0)) (bA BK698.out)) : gb698 ≠ gb723)); have n20_ := Aside0.mk ((by rw [hg]; exact Nat.ne_of_gt (blk_lt (g := gb698) (o := .cells #[.int .i64 t694, .slice Ao26 t695.length co26] 31 (0, 0)) (bA BK698.out)) : gb723 ≠ gb698)); have n21_ := Aside0.mk ((by rw [hg]; exact Nat.ne_of_lt (blk_lt (g := gb703) (o := .cells #[.int .i64 t699, .slice Ao33 t700.length co33] 31 (0, 0)) (bA BK703.out)) : gb703 ≠ gb723)); have n22_ := Aside0.mk ((by rw [hg]; exact Nat.ne_of_gt (blk_lt (g := gb703) (o := .cells #[.int .i64 t699, .slice Ao33 t700.length co33] 31 (0, 0)) (bA BK703.out)) : gb723 ≠ gb703)); clear HO697; clear HO702; clear HO706; clear HO709; clear HO713; clear HO717; clear HO721; clear BK691; clear BK692; clear BK698; clear BK703; clear HB; have HO697 := n0_; have HO702 := n1_; have HO706 := n2_; have HO709 := n3_; have HO713 := n4_; have HO717 := n5_; have HO721 := n6_; have BK691 := n7_; have BK692 := n8_; have BK698 := n9_; have BK703 := n10_; have HB := n11_; have BK723 := n12_; have GW723 := n13_; have GE723 := n14_; have NB691_723 := n15_; have NB723_691 := n16_; have NB692_723 := n17_; have NB723_692 := n18_; have NB698_723 := n19_; have NB723_698 := n20_; have NB703_723 := n21_; have NB723_703 := n22_; clear n0_ n1_ n2_ n3_ n4_ n5_ n6_ n7_ n8_ n9_ n10_ n11_ n12_ n13_ n14_ n15_ n16_ n17_ n18_ n19_ n20_ n21_ n22_; clear hb hbox hg; obtain ⟨Ao47, co47, eo47⟩ := Kd.R_slice HO721.out; subst eo47; have hnb48 := NB723_691.out; have hnc48 := NB691_723.out; have hnb49 := NB723_692.out; have hnc49 := NB692_723.out; have hnb50 := NB723_698.out; have hnc50 := NB698_723.out; have hnb51 := NB723_703.out; have hnc51 := NB703_723.out; have hcz52_0 : w46.cell? ⟨gb723, 0, none⟩ = some (.slice none 0 0) := (blk_cell BK723.out 0).trans rfl; have hcz52_1 : w46.cell? ⟨gb723, 1, none⟩ = some (.int .i64 0) := (blk_cell BK723.out 1).trans rfl; have hfz52_0 := blk_frozen BK723.out 0; have hfz52_1 := blk_frozen BK723.out 1))
    (try simp only [Act.put, List.setIfInBounds_toArray, List.set_cons_zero, List.set_cons_succ])
    go_cut [55] (fun v55 wc => ∃ (kq : Nat) (x55_14 : Bool), v55 = .bool x55_14 ∧ Aside0 (wireloomlaw05_DigraphCloses.j0 kq true x55_14 a1_0 a1_1 t694 t695 t699 t700 t719 t722 = some r) ∧ Aside0 (kq ≤ k) ∧ Aside0 (Kd.R k55 55 wc w.heap.size (fun k_ => some k_ ≠ ((.slice Ao33 t700.length co33) : Value).ownBlock) (.slice Ao26 t695.length co26) t695) ∧ Aside0 (Kd.R k55 55 wc w.heap.size (fun k_ => some k_ ≠ ((.slice Ao26 t695.length co26) : Value).ownBlock) (.slice Ao33 t700.length co33) t700) ∧ Aside0 (Kd.R (Kd.int .i64) 3 wc w.heap.size (fun _ => True) (.slice Ao47 t719.length co47) t719) ∧ Aside0 (wc.heap[gb691]? = some (.cells #[.int .u8 a0_0, .int .u8 a0_1, (.slice A0_2 l0_2.length c0_2)] 24 (0, 0))) ∧ Aside0 (wc.heap[gb692]? = some (.cells #[.int .u8 a1_0, .int .u8 a1_1] 58 (0, 0))) ∧ Aside0 (wc.heap[gb698]? = some (.cells #[.int .i64 t694, (.slice Ao26 t695.length co26)] 31 (0, 0))) ∧ Aside0 (wc.heap[gb703]? = some (.cells #[.int .i64 t699, (.slice Ao33 t700.length co33)] 31 (0, 0))) ∧ Aside0 (wc.heap[gb723]? = some (.cells #[(.slice Ao47 t719.length co47), .int .i64 t722] 37 (0, 0))) ∧ Aside0 (Below w.heap.size w wc))
    case first =>
     have H := HC15.out
     clear HC15
     by_cases c53 : t722 = 0
     ·rw [if_pos c53] at H
      have c53b0 : (t722 == 0) = true := beq_iff_eq.mpr c53
      have c53b1 : (t722 != 0) = false := bne_eq_false_iff_eq.mpr c53
      clear c53
      (first | rw [c53b0] | (simp only [i64_w, i32_w]; rw [c53b0]) | skip)
      have H' := Aside0.mk H
      clear H
      have hnb54 := NB723_691.out
      have hnc54 := NB691_723.out
      have hnb55 := NB723_692.out
      have hnc55 := NB692_723.out
      have hnb56 := NB723_698.out
      have hnc56 := NB698_723.out
      have hnb57 := NB723_703.out
      have hnc57 := NB703_723.out
      have hcz58_0 : w46.cell? ⟨gb723, 0, none⟩ = some (.slice none 0 0) := (blk_cell BK723.out 0).trans rfl
      have hcz58_1 : w46.cell? ⟨gb723, 1, none⟩ = some (.int .i64 0) := (blk_cell BK723.out 1).trans rfl
      have hfz58_0 := blk_frozen BK723.out 0
      have hfz58_1 := blk_frozen BK723.out 1
      have hnb59 := NB698_691.out
      have hnc59 := NB691_698.out
      have hnb60 := NB698_692.out
      have hnc60 := NB692_698.out
      have hnb61 := NB698_703.out
      have hnc61 := NB703_698.out
      have hcz62_0 : w46.cell? ⟨gb698, 0, none⟩ = some (.int .i64 t694) := (blk_cell BK698.out 0).trans rfl
      have hcz62_1 : w46.cell? ⟨gb698, 1, none⟩ = some (.slice Ao26 t695.length co26) := (blk_cell BK698.out 1).trans rfl
      have hfz62_0 := blk_frozen BK698.out 0
      have hfz62_1 := blk_frozen BK698.out 1
      go_wp2
      go_meet
      case rel => exact ⟨_, ((t694 == 0)), (by first | rfl | (simp; done) | (simp [*]; done)), H', ⟨by first | omega | exact Nat.le_refl _⟩, ⟨by (with_reducible repeat (first | apply Kd.R_alloc | apply Kd.R_drewN | apply Kd.R_drew)); exact Kd.R_mono (Kd.R_far (p := ⟨gb723, 1, none⟩) (Kd.R_far (p := ⟨gb723, 0, none⟩) (Kd.R_types HO697.out BK723.out (by decide)) (fun _ hk => hk.2) (.slice Ao47 t719.length co47)) (fun _ hk => hk.2) (.int .i64 t722)) (fun _ hk => hk.1)⟩, ⟨by (with_reducible repeat (first | apply Kd.R_alloc | apply Kd.R_drewN | apply Kd.R_drew)); exact Kd.R_mono (Kd.R_far (p := ⟨gb723, 1, none⟩) (Kd.R_far (p := ⟨gb723, 0, none⟩) (Kd.R_types HO702.out BK723.out (by decide)) (fun _ hk => hk.2) (.slice Ao47 t719.length co47)) (fun _ hk => hk.2) (.int .i64 t722)) (fun _ hk => hk.1)⟩, ⟨by (with_reducible repeat (first | apply Kd.R_alloc | apply Kd.R_drewN | apply Kd.R_drew)); exact Kd.R_mono (Kd.R_far (p := ⟨gb723, 1, none⟩) (Kd.R_far (p := ⟨gb723, 0, none⟩) (Kd.R_types HO721.out BK723.out (by decide)) (fun _ hk => hk.2) (.slice Ao47 t719.length co47)) (fun _ hk => hk.2) (.int .i64 t722)) (fun _ hk => trivial)⟩, ⟨by (with_reducible repeat (first | refine blk_drewN ?_ _ | refine blk_drew ?_ | refine blk_alloc ?_ _)); refine blk_far ?_ NB691_723.out _; (with_reducible repeat (first | refine blk_drewN ?_ _ | refine blk_drew ?_ | refine blk_alloc ?_ _)); refine blk_far ?_ NB691_723.out _; (with_reducible repeat (first | refine blk_drewN ?_ _ | refine blk_drew ?_ | refine blk_alloc ?_ _)); exact BK691.out⟩, ⟨by (with_reducible repeat (first | refine blk_drewN ?_ _ | refine blk_drew ?_ | refine blk_alloc ?_ _)); refine blk_far ?_ NB692_723.out _; (with_reducible repeat (first | refine blk_drewN ?_ _ | refine blk_drew ?_ | refine blk_alloc ?_ _)); refine blk_far ?_ NB692_723.out _; (with_reducible repeat (first | refine blk_drewN ?_ _ | refine blk_drew ?_ | refine blk_alloc ?_ _)); exact BK692.out⟩, ⟨by (with_reducible repeat (first | refine blk_drewN ?_ _ | refine blk_drew ?_ | refine blk_alloc ?_ _)); refine blk_far ?_ NB698_723.out _; (with_reducible repeat (first | refine blk_drewN ?_ _ | refine blk_drew ?_ | refine blk_alloc ?_ _)); refine blk_far ?_ NB698_723.out _; (with_reducible repeat (first | refine blk_drewN ?_ _ | refine blk_drew ?_ | refine blk_alloc ?_ _)); exact BK698.out⟩, ⟨by (with_reducible repeat (first | refine blk_drewN ?_ _ | refine blk_drew ?_ | refine blk_alloc ?_ _)); refine blk_far ?_ NB703_723.out _; (with_reducible repeat (first | refine blk_drewN ?_ _ | refine blk_drew ?_ | refine blk_alloc ?_ _)); refine blk_far ?_ NB703_723.out _; (with_reducible repeat (first | refine blk_drewN ?_ _ | refine blk_drew ?_ | refine blk_alloc ?_ _)); exact BK703.out⟩, ⟨by (with_reducible repeat (first | refine blk_drewN ?_ _ | refine blk_drew ?_ | refine blk_alloc ?_ _)); refine blk_put (cs := #[.slice Ao47 t719.length co47, .int .i64 0]) ?_ 1 _ rfl; (with_reducible repeat (first | refine blk_drewN ?_ _ | refine blk_drew ?_ | refine blk_alloc ?_ _)); refine blk_put (cs := #[.slice none 0 0, .int .i64 0]) ?_ 0 _ rfl; (with_reducible repeat (first | refine blk_drewN ?_ _ | refine blk_drew ?_ | refine blk_alloc ?_ _)); exact BK723.out⟩, ⟨by repeat (first | (with_reducible first | exact HB.out | apply below_alloc | apply pw_below_drewN | apply below_drew1 | refine below_set ?_ GE691.out | refine below_set ?_ GE692.out | refine below_set ?_ GE698.out | refine below_set ?_ GE703.out | refine below_set ?_ GE723.out) | exact HB.out)⟩⟩
     ·rw [if_neg c53] at H
      have c53b0 : (t722 == 0) = false := beq_eq_false_iff_ne.mpr c53
      have c53b1 : (t722 != 0) = true := bne_iff_ne.mpr c53
      (first | rw [c53b0] | (simp only [i64_w, i32_w]; rw [c53b0]) | skip)
      have H' := Aside0.mk H
      clear H
      have hnb63 := NB723_691.out
      have hnc63 := NB691_723.out
      have hnb64 := NB723_692.out
      have hnc64 := NB692_723.out
      have hnb65 := NB723_698.out
      have hnc65 := NB698_723.out
      have hnb66 := NB723_703.out
      have hnc66 := NB703_723.out
      have hcz67_0 : w46.cell? ⟨gb723, 0, none⟩ = some (.slice none 0 0) := (blk_cell BK723.out 0).trans rfl
      have hcz67_1 : w46.cell? ⟨gb723, 1, none⟩ = some (.int .i64 0) := (blk_cell BK723.out 1).trans rfl
      have hfz67_0 := blk_frozen BK723.out 0
      have hfz67_1 := blk_frozen BK723.out 1
      go_wp2
      go_meet
      case rel => exact ⟨_, (true), (by first | rfl | (simp; done) | (simp [*]; done)), H', ⟨by first | omega | exact Nat.le_refl _⟩, ⟨by (with_reducible repeat (first | apply Kd.R_alloc | apply Kd.R_drewN | apply Kd.R_drew)); exact Kd.R_mono (Kd.R_far (p := ⟨gb723, 1, none⟩) (Kd.R_far (p := ⟨gb723, 0, none⟩) (Kd.R_types HO697.out BK723.out (by decide)) (fun _ hk => hk.2) (.slice Ao47 t719.length co47)) (fun _ hk => hk.2) (.int .i64 t722)) (fun _ hk => hk.1)⟩, ⟨by (with_reducible repeat (first | apply Kd.R_alloc | apply Kd.R_drewN | apply Kd.R_drew)); exact Kd.R_mono (Kd.R_far (p := ⟨gb723, 1, none⟩) (Kd.R_far (p := ⟨gb723, 0, none⟩) (Kd.R_types HO702.out BK723.out (by decide)) (fun _ hk => hk.2) (.slice Ao47 t719.length co47)) (fun _ hk => hk.2) (.int .i64 t722)) (fun _ hk => hk.1)⟩, ⟨by (with_reducible repeat (first | apply Kd.R_alloc | apply Kd.R_drewN | apply Kd.R_drew)); exact Kd.R_mono (Kd.R_far (p := ⟨gb723, 1, none⟩) (Kd.R_far (p := ⟨gb723, 0, none⟩) (Kd.R_types HO721.out BK723.out (by decide)) (fun _ hk => hk.2) (.slice Ao47 t719.length co47)) (fun _ hk => hk.2) (.int .i64 t722)) (fun _ hk => trivial)⟩, ⟨by (with_reducible repeat (first | refine blk_drewN ?_ _ | refine blk_drew ?_ | refine blk_alloc ?_ _)); refine blk_far ?_ NB691_723.out _; (with_reducible repeat (first | refine blk_drewN ?_ _ | refine blk_drew ?_ | refine blk_alloc ?_ _)); refine blk_far ?_ NB691_723.out _; (with_reducible repeat (first | refine blk_drewN ?_ _ | refine blk_drew ?_ | refine blk_alloc ?_ _)); exact BK691.out⟩, ⟨by (with_reducible repeat (first | refine blk_drewN ?_ _ | refine blk_drew ?_ | refine blk_alloc ?_ _)); refine blk_far ?_ NB692_723.out _; (with_reducible repeat (first | refine blk_drewN ?_ _ | refine blk_drew ?_ | refine blk_alloc ?_ _)); refine blk_far ?_ NB692_723.out _; (with_reducible repeat (first | refine blk_drewN ?_ _ | refine blk_drew ?_ | refine blk_alloc ?_ _)); exact BK692.out⟩, ⟨by (with_reducible repeat (first | refine blk_drewN ?_ _ | refine blk_drew ?_ | refine blk_alloc ?_ _)); refine blk_far ?_ NB698_723.out _; (with_reducible repeat (first | refine blk_drewN ?_ _ | refine blk_drew ?_ | refine blk_alloc ?_ _)); refine blk_far ?_ NB698_723.out _; (with_reducible repeat (first | refine blk_drewN ?_ _ | refine blk_drew ?_ | refine blk_alloc ?_ _)); exact BK698.out⟩, ⟨by (with_reducible repeat (first | refine blk_drewN ?_ _ | refine blk_drew ?_ | refine blk_alloc ?_ _)); refine blk_far ?_ NB703_723.out _; (with_reducible repeat (first | refine blk_drewN ?_ _ | refine blk_drew ?_ | refine blk_alloc ?_ _)); refine blk_far ?_ NB703_723.out _; (with_reducible repeat (first | refine blk_drewN ?_ _ | refine blk_drew ?_ | refine blk_alloc ?_ _)); exact BK703.out⟩, ⟨by (with_reducible repeat (first | refine blk_drewN ?_ _ | refine blk_drew ?_ | refine blk_alloc ?_ _)); refine blk_put (cs := #[.slice Ao47 t719.length co47, .int .i64 0]) ?_ 1 _ rfl; (with_reducible repeat (first | refine blk_drewN ?_ _ | refine blk_drew ?_ | refine blk_alloc ?_ _)); refine blk_put (cs := #[.slice none 0 0, .int .i64 0]) ?_ 0 _ rfl; (with_reducible repeat (first | refine blk_drewN ?_ _ | refine blk_drew ?_ | refine blk_alloc ?_ _)); exact BK723.out⟩, ⟨by repeat (first | (with_reducible first | exact HB.out | apply below_alloc | apply pw_below_drewN | apply below_drew1 | refine below_set ?_ GE691.out | refine below_set ?_ GE692.out | refine below_set ?_ GE698.out | refine below_set ?_ GE703.out | refine below_set ?_ GE723.out) | exact HB.out)⟩⟩
    case rest =>
     clear HC15
     try clear c1
     try clear c2
     try clear p2
     try clear c3
     try clear c4
     try clear c5
     try clear c6
     try clear c9
     try clear c10
     try clear c11
     try clear c13
     try clear c13b0
     try clear c13b1
     try clear c13b2
     try clear c15
     try clear c17
     try clear c19
     try clear c23
     try clear c24
     try clear c26
     try clear c27
     try clear c29
     try clear c30
     try clear c31
     try clear c33
     try clear c48
     try clear c49
     try clear c50
     try clear c51
     try clear c53
     try clear c53b0
     try clear c53b1
     try clear c54
     try clear c55
     try clear c56
     try clear c57
     try clear c59
     try clear c60
     try clear c61
     try clear c63
     try clear c64
     try clear c65
     try clear c66
     try clear hcz20_0
     try clear hcz20_1
     try clear hcz20_2
     try clear hcz25_0
     try clear hcz25_1
     try clear hcz32_0
     try clear hcz32_1
     try clear hcz44_0
     try clear hcz44_1
     try clear hcz52_0
     try clear hcz52_1
     try clear hcz58_0
     try clear hcz58_1
     try clear hcz62_0
     try clear hcz62_1
     try clear hcz67_0
     try clear hcz67_1
     try clear hfz20_0
     try clear hfz20_1
     try clear hfz20_2
     try clear hfz25_0
     try clear hfz25_1
     try clear hfz32_0
     try clear hfz32_1
     try clear hfz44_0
     try clear hfz44_1
     try clear hfz52_0
     try clear hfz52_1
     try clear hfz58_0
     try clear hfz58_1
     try clear hfz62_0
     try clear hfz62_1
     try clear hfz67_0
     try clear hfz67_1
     obtain ⟨kq, x55_14, rfl, HA, HJ14, HO_699001, HO_704001, HO_724000, BK691, BK692, BK698, BK703, BK723, HB⟩ := hcut
     cases kq with
     | zero => exact absurd HA.out (by simp [wireloomlaw05_DigraphCloses.j0])
     | succ kj14 =>
      have H := HA.out
      clear HA
      simp only [wireloomlaw05_DigraphCloses.j0] at H
      by_cases c68 : x55_14 = true
      ·subst c68
       have H1 : (if true = true then ((wireloomlaw05_order.f t699 t700).bind fun bt724 => (some ((t722 == 0) == (bt724.2 == 0)))) else (none)) = some r := by rw [if_pos rfl] at H; exact H
       clear H
       have H := H1
       clear H1
       have H1 : ((wireloomlaw05_order.f t699 t700).bind fun bt724 => (some ((t722 == 0) == (bt724.2 == 0)))) = some r := by rw [if_pos rfl] at H; exact H
       clear H
       have H := H1
       clear H1
       replace H := Option.bind_eq_some_iff.mp H
       obtain ⟨⟨t724, t727⟩, A690, H⟩ := H
       replace H : (some ((t722 == 0) == (t727 == 0))) = some r := H
       have A69 := Aside0.mk A690
       clear A690
       obtain rfl := Option.some.inj H
       try go_wp2
       have n0_ := Aside0.mk (Kd.R_drew HO_699001.out)
       have n1_ := Aside0.mk (Kd.R_drew HO_704001.out)
       have n2_ := Aside0.mk (Kd.R_drew HO_724000.out)
       have n3_ := Aside0.mk (blk_drew BK691.out)
       have n4_ := Aside0.mk (blk_drew BK692.out)
       have n5_ := Aside0.mk (blk_drew BK698.out)
       have n6_ := Aside0.mk (blk_drew BK703.out)
       have n7_ := Aside0.mk (blk_drew BK723.out)
       have n8_ := Aside0.mk (below_drew1 HB.out)
       clear HO_699001
       clear HO_704001
       clear HO_724000
       clear BK691
       clear BK692
       clear BK698
       clear BK703
       clear BK723
       clear HB
       have HO_699001 := n0_
       have HO_704001 := n1_
       have HO_724000 := n2_
       have BK691 := n3_
       have BK692 := n4_
       have BK698 := n5_
       have BK703 := n6_
       have BK723 := n7_
       have HB := n8_
       clear n0_ n1_ n2_ n3_ n4_ n5_ n6_ n7_ n8_
       refine start_ (n := 12) (S := fun w' => w'.cell? ⟨gb723, 0, none⟩ = some (.slice Ao47 t719.length co47) ∧ w'.cell? ⟨gb723, 1, none⟩ = some (.int .i64 t722) ∧ w'.cell? ⟨gb703, 0, none⟩ = some (.int .i64 t699) ∧ w'.cell? ⟨gb703, 1, none⟩ = some (.slice Ao33 t700.length co33)) (ds := []) #[false, false, false, false, false, false, false, false, false, false, false, false] (by kernel_rfl) rfl rfl ⟨(blk_cell BK723.out 0).trans rfl, (blk_cell BK723.out 1).trans rfl, (blk_cell BK703.out 0).trans rfl, (blk_cell BK703.out 1).trans rfl⟩ (fun hHeld => ?_); refine with_tabW wireloomlaw05_DigraphCloses.tab10 wireloomlaw05_DigraphCloses.bits10 (fun HT_ HW_ => ?_)
       generalize wc.drew = w70 at HO_699001 HO_704001 HO_724000 BK691 BK692 BK698 BK703 BK723 HB hHeld ⊢
       refine pV 0 56 (bz 12 0x1) HT_.out ?_
       refine pV 1 57 (bz 12 0x3) HT_.out ?_
       refine pV 2 58 (bz 12 0x7) HT_.out ?_
       refine tV 3 59 (bz 12 0xf) HT_.out HW_.out hHeld rfl rfl (by rintro w' ⟨s0, s1, s2, s3⟩; go_simp; with_reducible rfl) ?_
       refine pV 4 60 (bz 12 0x1f) HT_.out ?_
       refine tV 5 61 (bz 12 0x3f) HT_.out HW_.out hHeld rfl rfl (by rintro w' ⟨s0, s1, s2, s3⟩; go_simp; with_reducible rfl) ?_
       refine one_ (i := 6) (N := some 62) (bz 12 0x7f) rfl rfl (one_of HT_.out (by kernel_rfl)) (by decide) (fun K hK => ?_)
       refine goes_ Try.func15 (by kernel_rfl) rfl #[.agg #[.int .i64 t699, .slice Ao33 t700.length co33]] (by rfl) rfl rfl (by (try simp only [List.map_toArray, List.map_cons, List.map_nil]); first | done | rfl | (simp only [List.length_drop, List.length_take]; rfl)) ?_
       with_reducible refine (wireloomlaw05_order.calls t699 _ _ t700 t724 t727 _ ?side1 ?side2 A69.out).mono ?_
       (case side1 => repeat (first | exact (Kd.R_reads' HO_704001.out).2.2 | (with_reducible refine Kd.C_alloc ?_ _) | (with_reducible refine Kd.C_drewN ?_ _) | (with_reducible refine Kd.C_drew ?_)))
       (case side2 => exact (Kd.R_reads' HO_704001.out).2.1)
       rintro e w71 ⟨v725, rfl, ho0, hb⟩
       refine ⟨_, rfl, ?_⟩
       have n0_ := Aside0.mk (Kd.R_below (rA HO_699001.out) hb)
       have n1_ := Aside0.mk (Kd.R_below (rA HO_704001.out) hb)
       have n2_ := Aside0.mk (Kd.R_elder' (rA HO_724000.out) (Kd.R_base ho0) hb)
       have n3_ := Aside0.mk (Kd.R_lower (Kd.R_new' ho0 (Kd.R_lt (rA HO_724000.out))) (below_size (by repeat (first | (with_reducible first | exact HB.out | apply below_alloc | apply pw_below_drewN | apply below_drew1 | refine below_set ?_ GE691.out | refine below_set ?_ GE692.out | refine below_set ?_ GE698.out | refine below_set ?_ GE703.out | refine below_set ?_ GE723.out) | exact HB.out))))
       have n4_ := Aside0.mk (blk_below (g := gb691) (o := .cells #[.int .u8 a0_0, .int .u8 a0_1, .slice A0_2 l0_2.length c0_2] 24 (0, 0)) (bA BK691.out) hb)
       have n5_ := Aside0.mk (blk_below (g := gb692) (o := .cells #[.int .u8 a1_0, .int .u8 a1_1] 58 (0, 0)) (bA BK692.out) hb)
       have n6_ := Aside0.mk (blk_below (g := gb698) (o := .cells #[.int .i64 t694, .slice Ao26 t695.length co26] 31 (0, 0)) (bA BK698.out) hb)
       have n7_ := Aside0.mk (blk_below (g := gb703) (o := .cells #[.int .i64 t699, .slice Ao33 t700.length co33] 31 (0, 0)) (bA BK703.out) hb)
       have n8_ := Aside0.mk (blk_below (g := gb723) (o := .cells #[.slice Ao47 t719.length co47, .int .i64 t722] 37 (0, 0)) (bA BK723.out) hb)
       have n9_ := Aside0.mk (below_step (by repeat (first | (with_reducible first | exact HB.out | apply below_alloc | apply pw_below_drewN | apply below_drew1 | refine below_set ?_ GE691.out | refine below_set ?_ GE692.out | refine below_set ?_ GE698.out | refine below_set ?_ GE703.out | refine below_set ?_ GE723.out) | exact HB.out)) hb)
       clear HO_699001
       clear HO_704001
       clear HO_724000
       clear BK691
       clear BK692
       clear BK698
       clear BK703
       clear BK723
       clear HB
       have HO_699001 := n0_
       have HO_704001 := n1_
       have HO_724000 := n2_
       have HO726 := n3_
       have BK691 := n4_
       have BK692 := n5_
       have BK698 := n6_
       have BK703 := n7_
       have BK723 := n8_
       have HB := n9_
       clear n0_ n1_ n2_ n3_ n4_ n5_ n6_ n7_ n8_ n9_
       (try clear hb)
       (try clear hb2)
       (try clear hk)
       (try clear hi)
       (try clear ho0)
       refine hK.out _ _ ⟨(blk_cell BK723.out 0).trans rfl, (blk_cell BK723.out 1).trans rfl, (blk_cell BK703.out 0).trans rfl, (blk_cell BK703.out 1).trans rfl⟩ (fun hHeld => ?_)
       clear hK K
       refine norm_ (a' := ?_) ?_ ?_
       rotate_left
       ·show Act.put _ (some 62) _ = _
        simp only [Act.put, List.setIfInBounds_toArray, List.set_cons_zero, List.set_cons_succ, i64_w, i32_w]
        rfl
       refine pV 7 63 (bz 12 0xff) HT_.out ?_
       refine pV 8 64 (bz 12 0x1ff) HT_.out ?_
       refine pV 9 65 (bz 12 0x3ff) HT_.out ?_
       refine pV 10 66 (bz 12 0x7ff) HT_.out ?_
       refine pV 11 4 (bz 12 0xfff) HT_.out ?_
       refine done_ (done_of HT_.out (by kernel_rfl)) ?_
       try go_wp2
       go_ret
       exact ⟨by first | rfl | (simp [errW_none, errW_some] <;> rfl) | (simp [*, errW_none, errW_some] <;> rfl), by repeat (first | (with_reducible first | exact HB.out | apply below_alloc | apply pw_below_drewN | apply below_drew1 | refine below_set ?_ GE691.out | refine below_set ?_ GE692.out | refine below_set ?_ GE698.out | refine below_set ?_ GE703.out | refine below_set ?_ GE723.out) | exact HB.out)⟩
      ·replace c68 := Bool.eq_false_iff.mpr c68
       subst c68
       have H1 : (wireloomlaw05_DigraphCloses.l0 kj14 true (([] : List Int)) (wrap64 ((t719.length : Int) - 1)) a1_0 a1_1 t694 t695 t699 t700 t719 t722) = some r := by rw [if_neg (show ¬ (false = true) by decide)] at H; exact H
       clear H
       have H := H1
       clear H1
       obtain ⟨y728, hy728⟩ : ∃ y_ : List Int, y_ = (([] : List Int)) := ⟨_, rfl⟩
       replace H : (wireloomlaw05_DigraphCloses.l0 kj14 true y728 (wrap64 ((t719.length : Int) - 1)) a1_0 a1_1 t694 t695 t699 t700 t719 t722) = some r := by first | (rw [hy728]; with_reducible exact H) | (have H2_ := (Option.bind_some _ _).symm.trans H; rw [hy728]; with_reducible exact H2_) | (have H2_ := (Option.bind_some _ _).symm.trans H; with_reducible exact H2_) | with_reducible exact H | (rw [hy728]; exact H) | exact H
       have Ny728 := Aside0.mk hy728
       clear hy728
       have H' := Aside0.mk H
       clear H
       go_wp2_with (first | ((with_reducible refine gate_dst (N := 67) rfl ?_); (try (refine gate_guard (by rfl) ?_; dsimp only)); refine Kd.R_lit (Kd.int .i64) _ 3 ?hg (N := 67) ?hd (xs := ([] : List Int)) (inner := []) (ok := fun _ => True) (okp := fun _ => True) ?hr ?hp (fun _ hk => hk) trivial (Below.refl _ _) (Nat.le_refl _) (by simp) ?_; (case hd => rfl); (case hg => rfl); (case hr => first | (go_simp; done) | (go_simp; rfl)); (case hp => exact (Reps.none _ _)); intro v729 w72 ho73 hb hg_ hnew_; clear hg_ hnew_; (first | rw [← Ny728.out] at ho73 | (simp only [Int.reduceToNat] at ho73; rw [← Ny728.out] at ho73)); have n0_ := Aside0.mk (Kd.R_below (rA HO_699001.out) hb); have n1_ := Aside0.mk (Kd.R_below (rA HO_704001.out) hb); have n2_ := Aside0.mk (Kd.R_elder' (rA HO_724000.out) (Kd.R_base ho73) hb); have n3_ := Aside0.mk (Kd.R_lower (Kd.R_new' ho73 (Kd.R_lt (rA HO_724000.out))) (below_size (by repeat (first | (with_reducible first | exact HB.out | apply below_alloc | apply pw_below_drewN | apply below_drew1 | refine below_set ?_ GE691.out | refine below_set ?_ GE692.out | refine below_set ?_ GE698.out | refine below_set ?_ GE703.out | refine below_set ?_ GE723.out) | exact HB.out)))); have n4_ := Aside0.mk (blk_below (g := gb691) (o := .cells #[.int .u8 a0_0, .int .u8 a0_1, .slice A0_2 l0_2.length c0_2] 24 (0, 0)) (bA BK691.out) hb); have n5_ := Aside0.mk (blk_below (g := gb692) (o := .cells #[.int .u8 a1_0, .int .u8 a1_1] 58 (0, 0)) (bA BK692.out) hb); have n6_ := Aside0.mk (blk_below (g := gb698) (o := .cells #[.int .i64 t694, .slice Ao26 t695.length co26] 31 (0, 0)) (bA BK698.out) hb); have n7_ := Aside0.mk (blk_below (g := gb703) (o := .cells #[.int .i64 t699, .slice Ao33 t700.length co33] 31 (0, 0)) (bA BK703.out) hb); have n8_ := Aside0.mk (blk_below (g := gb723) (o := .cells #[.slice Ao47 t719.length co47, .int .i64 t722] 37 (0, 0)) (bA BK723.out) hb); have n9_ := Aside0.mk (below_step (by repeat (first | (with_reducible first | exact HB.out | apply below_alloc | apply pw_below_drewN | apply below_drew1 | refine below_set ?_ GE691.out | refine below_set ?_ GE692.out | refine below_set ?_ GE698.out | refine below_set ?_ GE703.out | refine below_set ?_ GE723.out) | exact HB.out)) hb); clear HO_699001; clear HO_704001; clear HO_724000; clear BK691; clear BK692; clear BK698; clear BK703; clear BK723; clear HB; have HO_699001 := n0_; have HO_704001 := n1_; have HO_724000 := n2_; have HO730 := n3_; have BK691 := n4_; have BK692 := n5_; have BK698 := n6_; have BK703 := n7_; have BK723 := n8_; have HB := n9_; clear n0_ n1_ n2_ n3_ n4_ n5_ n6_ n7_ n8_ n9_; clear hb ho73; have hnb74 := NB723_691.out; have hnc74 := NB691_723.out; have hnb75 := NB723_692.out; have hnc75 := NB692_723.out; have hnb76 := NB723_698.out; have hnc76 := NB698_723.out; have hnb77 := NB723_703.out; have hnc77 := NB703_723.out; have hcz78_0 : w72.cell? ⟨gb723, 0, none⟩ = some (.slice Ao47 t719.length co47) := (blk_cell BK723.out 0).trans rfl; have hcz78_1 : w72.cell? ⟨gb723, 1, none⟩ = some (.int .i64 t722) := (blk_cell BK723.out 1).trans rfl; have hfz78_0 := blk_frozen BK723.out 0; have hfz78_1 := blk_frozen BK723.out 1))
       go_loopg [9, 10] kj14 (fun kq v9 v10 w' => ∃ (x9_2 : List Int) (x10_2 : Int), v10 = .int .i64 x10_2 ∧ Aside0 (wireloomlaw05_DigraphCloses.l0 kq true x9_2 x10_2 a1_0 a1_1 t694 t695 t699 t700 t719 t722 = some r) ∧ Aside0 (kq ≤ kj14) ∧ Aside0 (Kd.R (Kd.int .i64) 3 w' w.heap.size (fun k_ => some k_ ≠ ((.slice Ao47 t719.length co47) : Value).ownBlock) v9 x9_2) ∧ Aside0 (Kd.R k55 55 w' w.heap.size (fun k_ => some k_ ≠ ((.slice Ao33 t700.length co33) : Value).ownBlock) (.slice Ao26 t695.length co26) t695) ∧ Aside0 (Kd.R k55 55 w' w.heap.size (fun k_ => some k_ ≠ ((.slice Ao26 t695.length co26) : Value).ownBlock) (.slice Ao33 t700.length co33) t700) ∧ Aside0 (Kd.R (Kd.int .i64) 3 w' w.heap.size (fun k_ => some k_ ≠ (v9 : Value).ownBlock) (.slice Ao47 t719.length co47) t719) ∧ Aside0 (w'.heap[gb691]? = some (.cells #[.int .u8 a0_0, .int .u8 a0_1, (.slice A0_2 l0_2.length c0_2)] 24 (0, 0))) ∧ Aside0 (w'.heap[gb692]? = some (.cells #[.int .u8 a1_0, .int .u8 a1_1] 58 (0, 0))) ∧ Aside0 (w'.heap[gb698]? = some (.cells #[.int .i64 t694, (.slice Ao26 t695.length co26)] 31 (0, 0))) ∧ Aside0 (w'.heap[gb703]? = some (.cells #[.int .i64 t699, (.slice Ao33 t700.length co33)] 31 (0, 0))) ∧ Aside0 (w'.heap[gb723]? = some (.cells #[(.slice Ao47 t719.length co47), .int .i64 t722] 37 (0, 0))) ∧ Aside0 (Below w.heap.size w w'))
       case atStart => exact ⟨(y728), (wrap64 ((t719.length : Int) - 1)), (by first | rfl | (simp; done) | (simp [*]; done)), H', ⟨Nat.le_refl _⟩, ⟨by (with_reducible repeat (first | apply Kd.R_alloc | apply Kd.R_drewN | apply Kd.R_drew)); exact Kd.R_mono HO730.out (fun _ hk => hk.2)⟩, ⟨rA HO_699001.out⟩, ⟨rA HO_704001.out⟩, ⟨by (with_reducible repeat (first | apply Kd.R_alloc | apply Kd.R_drewN | apply Kd.R_drew)); exact Kd.R_mono HO_724000.out (fun _ hk => hk.2)⟩, ⟨bA BK691.out⟩, ⟨bA BK692.out⟩, ⟨bA BK698.out⟩, ⟨bA BK703.out⟩, ⟨bA BK723.out⟩, ⟨by repeat (first | (with_reducible first | exact HB.out | apply below_alloc | apply pw_below_drewN | apply below_drew1 | refine below_set ?_ GE691.out | refine below_set ?_ GE692.out | refine below_set ?_ GE698.out | refine below_set ?_ GE703.out | refine below_set ?_ GE723.out) | exact HB.out)⟩⟩
       case round =>
        clear H'
        try clear c1
        try clear c2
        try clear p2
        try clear c3
        try clear c4
        try clear c5
        try clear c6
        try clear p6
        try clear c7
        try clear c9
        try clear c10
        try clear c11
        try clear c13
        try clear c13b0
        try clear c13b1
        try clear c13b2
        try clear c15
        try clear c17
        try clear c19
        try clear c23
        try clear c24
        try clear c26
        try clear c27
        try clear c29
        try clear c30
        try clear c31
        try clear c33
        try clear c48
        try clear c49
        try clear c50
        try clear c51
        try clear c53
        try clear c53b0
        try clear c53b1
        try clear c54
        try clear c55
        try clear c56
        try clear c57
        try clear c59
        try clear c60
        try clear c61
        try clear c63
        try clear c64
        try clear p64
        try clear c65
        try clear c66
        try clear c68
        try clear c74
        try clear c75
        try clear c76
        try clear c77
        try clear hcz20_0
        try clear hcz20_1
        try clear hcz20_2
        try clear hcz25_0
        try clear hcz25_1
        try clear hcz32_0
        try clear hcz32_1
        try clear hcz44_0
        try clear hcz44_1
        try clear hcz52_0
        try clear hcz52_1
        try clear hcz58_0
        try clear hcz58_1
        try clear hcz62_0
        try clear hcz62_1
        try clear hcz67_0
        try clear hcz67_1
        try clear hcz78_0
        try clear hcz78_1
        try clear hfz20_0
        try clear hfz20_1
        try clear hfz20_2
        try clear hfz25_0
        try clear hfz25_1
        try clear hfz32_0
        try clear hfz32_1
        try clear hfz44_0
        try clear hfz44_1
        try clear hfz52_0
        try clear hfz52_1
        try clear hfz58_0
        try clear hfz58_1
        try clear hfz62_0
        try clear hfz62_1
        try clear hfz67_0
        try clear hfz67_1
        try clear hfz78_0
        try clear hfz78_1
        try clear p2
        obtain ⟨x9_2, x10_2, rfl, HA, HK2, HO_9, HO_699001, HO_704001, HO_724000, BK691, BK692, BK698, BK703, BK723, HB⟩ := hrel
        cases gk with
        | zero => exact absurd HA.out (by simp [wireloomlaw05_DigraphCloses.l0])
        | succ k2 =>
         have H := HA.out
         clear HA
         simp only [wireloomlaw05_DigraphCloses.l0] at H
         by_cases c79 : x10_2 ≥ 0
         ·rw [if_pos c79] at H
          have c79b0 : decide (0 ≤ x10_2) = true := decide_eq_true c79
          clear c79
          by_cases c80 : 0 ≤ x10_2
          ·rw [if_pos c80] at H
           have c80b0 : decide (0 ≤ x10_2) = true := decide_eq_true c80
           clear c80
           by_cases c81 : x10_2 < (t719.length : Int)
           ·rw [if_pos c81] at H
            have c81b0 : decide (x10_2 < (t719.length : Int)) = true := decide_eq_true c81
            clear c81
            by_cases c82 : x9_2.length < 17592186044416
            ·rw [if_pos c82] at H
             have LMc82 := Aside0.mk c82
             clear c82
             obtain ⟨y732, hy732⟩ : ∃ y_ : List Int, y_ = (x9_2 ++ [rd t719 x10_2]) := ⟨_, rfl⟩
             replace H : (wireloomlaw05_DigraphCloses.l0 k2 true y732 (wrap64 (x10_2 - 1)) a1_0 a1_1 t694 t695 t699 t700 t719 t722) = some r := by first | (rw [hy732]; with_reducible exact H) | (have H2_ := (Option.bind_some _ _).symm.trans H; rw [hy732]; with_reducible exact H2_) | (have H2_ := (Option.bind_some _ _).symm.trans H; with_reducible exact H2_) | with_reducible exact H | (rw [hy732]; exact H) | exact H
             have Ny732 := Aside0.mk hy732
             clear hy732
             have H' := Aside0.mk H
             clear H
             have hnb83 := NB723_691.out
             have hnc83 := NB691_723.out
             have hnb84 := NB723_692.out
             have hnc84 := NB692_723.out
             have hnb85 := NB723_698.out
             have hnc85 := NB698_723.out
             have hnb86 := NB723_703.out
             have hnc86 := NB703_723.out
             have hcz87_0 : wr.cell? ⟨gb723, 0, none⟩ = some (.slice Ao47 t719.length co47) := (blk_cell BK723.out 0).trans rfl
             have hcz87_1 : wr.cell? ⟨gb723, 1, none⟩ = some (.int .i64 t722) := (blk_cell BK723.out 1).trans rfl
             have hfz87_0 := blk_frozen BK723.out 0
             have hfz87_1 := blk_frozen BK723.out 1
             have p731 : 0 ≤ (x10_2 : Int) := of_decide_eq_true (by first | (with_reducible assumption) | assumption)
             have q731 : x10_2 < (t719.length : Int) := of_decide_eq_true (by first | (with_reducible assumption) | assumption)
             obtain ⟨ad731, e731, hx731_0⟩ := Kd.at_int (Kd.R_reads' HO_724000.out).2.2 x10_2 p731 q731
             cases e731
             replace p731 := eq_true p731
             replace q731 := eq_true q731
             go_wp2_with (first | ((with_reducible refine gate_builtin (b := .append) (xs := #[.tmp 76, .tmp 82]) rfl ?_); (try (refine gate_guard (by rfl) ?_; dsimp only)); at_builtin; refine Kd.R_append (Kd.int .i64) (w0 := w) w.heap.size rfl (.tmp 76) (.tmp 82) 26 3 (.int .i64 0) 8 rfl Try.underlying26 info3 rfl (by decide) (by omega) u9 x9_2 (rd t719 x10_2) [.int .i64 (rd t719 x10_2)] (fun k_ => some k_ ≠ (.slice (some ad731) t719.length co47 : Value).ownBlock) (fun _ => False) rfl rfl ?aP (fun _ hk => hk.elim) ?aF ?aO ?aB ?aS ?aL ?_; (case aP => exact rfl); (case aB => exact (by repeat (first | (with_reducible first | exact HB.out | apply below_alloc | apply pw_below_drewN | apply below_drew1 | refine below_set ?_ GE691.out | refine below_set ?_ GE692.out | refine below_set ?_ GE698.out | refine below_set ?_ GE703.out | refine below_set ?_ GE723.out) | exact HB.out))); (case aF => exact (fun k_ hk => Kd.fresh' (Kd.R_lt (rA HO_724000.out)) k_ hk)); (case aO => exact (rA HO_9.out)); (case aS => exact (below_size (by repeat (first | (with_reducible first | exact HB.out | apply below_alloc | apply pw_below_drewN | apply below_drew1 | refine below_set ?_ GE691.out | refine below_set ?_ GE692.out | refine below_set ?_ GE698.out | refine below_set ?_ GE703.out | refine below_set ?_ GE723.out) | exact HB.out)))); (case aL => have := LMc82.out; omega); intro v733 w88 ho hb hg hat; rw [← Ny732.out] at ho; have n0_ := Aside0.mk (Kd.R_over' (rA HO_699001.out) (Kd.R_typed (rA HO_9.out)) (by decide) hg); have n1_ := Aside0.mk (Kd.R_over' (rA HO_704001.out) (Kd.R_typed (rA HO_9.out)) (by decide) hg); have n2_ := Aside0.mk (Kd.R_after (ok := (fun _ => True)) (by (with_reducible repeat (first | apply Kd.R_alloc | apply Kd.R_drewN | apply Kd.R_drew)); exact Kd.R_mono HO_724000.out (fun _ hk => ⟨trivial, hk⟩)) hg hat); have n3_ := Aside0.mk (blk_grown (g := gb691) (o := .cells #[.int .u8 a0_0, .int .u8 a0_1, .slice A0_2 l0_2.length c0_2] 24 (0, 0)) (bA BK691.out) hg (Kd.R_ne HO_9.out BK691.out (by decide))); have n4_ := Aside0.mk (blk_grown (g := gb692) (o := .cells #[.int .u8 a1_0, .int .u8 a1_1] 58 (0, 0)) (bA BK692.out) hg (Kd.R_ne HO_9.out BK692.out (by decide))); have n5_ := Aside0.mk (blk_grown (g := gb698) (o := .cells #[.int .i64 t694, .slice Ao26 t695.length co26] 31 (0, 0)) (bA BK698.out) hg (Kd.R_ne HO_9.out BK698.out (by decide))); have n6_ := Aside0.mk (blk_grown (g := gb703) (o := .cells #[.int .i64 t699, .slice Ao33 t700.length co33] 31 (0, 0)) (bA BK703.out) hg (Kd.R_ne HO_9.out BK703.out (by decide))); have n7_ := Aside0.mk (blk_grown (g := gb723) (o := .cells #[.slice (some ad731) t719.length co47, .int .i64 t722] 37 (0, 0)) (bA BK723.out) hg (Kd.R_ne HO_9.out BK723.out (by decide))); have n8_ := Aside0.mk (hb); have n9_ := Aside0.mk (ho); clear HO_699001; clear HO_704001; clear HO_724000; clear BK691; clear BK692; clear BK698; clear BK703; clear BK723; clear HB; clear HO_9; have HO_699001 := n0_; have HO_704001 := n1_; have HO_724000 := n2_; have BK691 := n3_; have BK692 := n4_; have BK698 := n5_; have BK703 := n6_; have BK723 := n7_; have HB := n8_; have HO734 := n9_; clear n0_ n1_ n2_ n3_ n4_ n5_ n6_ n7_ n8_ n9_; clear ho hb hg hat))
             go_roundg k2
             case measure => have := HJ14.out; have := HK2.out; omega
             case rel => exact ⟨(y732), (wrap64 (x10_2 - 1)), (by first | rfl | (simp; done) | (simp [*]; done)), H', ⟨by have := HJ14.out; have := HK2.out; omega⟩, ⟨rA HO734.out⟩, ⟨rA HO_699001.out⟩, ⟨rA HO_704001.out⟩, ⟨by (with_reducible repeat (first | apply Kd.R_alloc | apply Kd.R_drewN | apply Kd.R_drew)); exact Kd.R_mono HO_724000.out (fun _ hk => hk.2)⟩, ⟨bA BK691.out⟩, ⟨bA BK692.out⟩, ⟨bA BK698.out⟩, ⟨bA BK703.out⟩, ⟨bA BK723.out⟩, ⟨by repeat (first | (with_reducible first | exact HB.out | apply below_alloc | apply pw_below_drewN | apply below_drew1 | refine below_set ?_ GE691.out | refine below_set ?_ GE692.out | refine below_set ?_ GE698.out | refine below_set ?_ GE703.out | refine below_set ?_ GE723.out) | exact HB.out)⟩⟩
            ·rw [if_neg c82] at H
             exact absurd H (by simp)
           ·rw [if_neg c81] at H
            exact absurd H (by simp)
          ·rw [if_neg c80] at H
           exact absurd H (by simp)
         ·rw [if_neg c79] at H
          have c79b0 : decide (0 ≤ x10_2) = false := decide_eq_false c79
          clear c79
          replace H := Option.bind_eq_some_iff.mp H
          obtain ⟨t735, A890, H⟩ := H
          replace H : (if t735 = 0 then (if t694 = 0 then (none) else ((wireloomref05_With.f t694 t695 (Int.tmod (wrap64 (a1_0)) t694) (Int.tmod (wrap64 (a1_1)) t694)).bind fun bt736 => ((digraph_Reach.f t694 t695 (Int.tmod (wrap64 (a1_1)) t694)).bind fun t741 => ((wireloomref05_In.f k2 t741 (Int.tmod (wrap64 (a1_0)) t694)).bind fun t744 => ((wireloomlaw05_cycle.f bt736.1 bt736.2).bind fun bt745 => ((wireloomlaw05_order.f bt736.1 bt736.2).bind fun bt750 => (if ((bt750.2 == 0) == t744) = true then (none) else (if ((bt745.2 == 0) != t744) = true then (none) else (if t744 = true then ((wireloomref05_In.f k2 bt745.1 (Int.tmod (wrap64 (a1_0)) t694)).bind fun t754 => (if t754 = true then ((wireloomref05_In.f k2 bt745.1 (Int.tmod (wrap64 (a1_1)) t694)).bind fun t755 => (if t755 = true then (some true) else (none))) else (none))) else (some true)))))))))) else (none)) = some r := H
          have A89 := Aside0.mk A890
          clear A890
          by_cases c90 : t735 = 0
          ·rw [if_pos c90] at H
           have c90b0 : (t735 == 0) = true := beq_iff_eq.mpr c90
           have c90b1 : (t735 != 0) = false := bne_eq_false_iff_eq.mpr c90
           clear c90
           by_cases c91 : t694 = 0
           ·rw [if_pos c91] at H
            exact absurd H (by simp)
           ·rw [if_neg c91] at H
            have c91b0 : (t694 == 0) = false := beq_eq_false_iff_ne.mpr c91
            have c91b1 : (t694 != 0) = true := bne_iff_ne.mpr c91
            replace H := Option.bind_eq_some_iff.mp H
            obtain ⟨⟨t736, t737⟩, A920, H⟩ := H
            replace H : ((digraph_Reach.f t694 t695 (Int.tmod (wrap64 (a1_1)) t694)).bind fun t741 => ((wireloomref05_In.f k2 t741 (Int.tmod (wrap64 (a1_0)) t694)).bind fun t744 => ((wireloomlaw05_cycle.f t736 t737).bind fun bt745 => ((wireloomlaw05_order.f t736 t737).bind fun bt750 => (if ((bt750.2 == 0) == t744) = true then (none) else (if ((bt745.2 == 0) != t744) = true then (none) else (if t744 = true then ((wireloomref05_In.f k2 bt745.1 (Int.tmod (wrap64 (a1_0)) t694)).bind fun t754 => (if t754 = true then ((wireloomref05_In.f k2 bt745.1 (Int.tmod (wrap64 (a1_1)) t694)).bind fun t755 => (if t755 = true then (some true) else (none))) else (none))) else (some true)))))))) = some r := H
            have A92 := Aside0.mk A920
            clear A920
            replace H := Option.bind_eq_some_iff.mp H
            obtain ⟨t741, A930, H⟩ := H
            replace H : ((wireloomref05_In.f k2 t741 (Int.tmod (wrap64 (a1_0)) t694)).bind fun t744 => ((wireloomlaw05_cycle.f t736 t737).bind fun bt745 => ((wireloomlaw05_order.f t736 t737).bind fun bt750 => (if ((bt750.2 == 0) == t744) = true then (none) else (if ((bt745.2 == 0) != t744) = true then (none) else (if t744 = true then ((wireloomref05_In.f k2 bt745.1 (Int.tmod (wrap64 (a1_0)) t694)).bind fun t754 => (if t754 = true then ((wireloomref05_In.f k2 bt745.1 (Int.tmod (wrap64 (a1_1)) t694)).bind fun t755 => (if t755 = true then (some true) else (none))) else (none))) else (some true))))))) = some r := H
            have A93 := Aside0.mk A930
            clear A930
            replace H := Option.bind_eq_some_iff.mp H
            obtain ⟨t744, A940, H⟩ := H
            replace H : ((wireloomlaw05_cycle.f t736 t737).bind fun bt745 => ((wireloomlaw05_order.f t736 t737).bind fun bt750 => (if ((bt750.2 == 0) == t744) = true then (none) else (if ((bt745.2 == 0) != t744) = true then (none) else (if t744 = true then ((wireloomref05_In.f k2 bt745.1 (Int.tmod (wrap64 (a1_0)) t694)).bind fun t754 => (if t754 = true then ((wireloomref05_In.f k2 bt745.1 (Int.tmod (wrap64 (a1_1)) t694)).bind fun t755 => (if t755 = true then (some true) else (none))) else (none))) else (some true)))))) = some r := H
            have A94 := Aside0.mk A940
            clear A940
            replace H := Option.bind_eq_some_iff.mp H
            obtain ⟨⟨t745, t748⟩, A950, H⟩ := H
            replace H : ((wireloomlaw05_order.f t736 t737).bind fun bt750 => (if ((bt750.2 == 0) == t744) = true then (none) else (if ((t748 == 0) != t744) = true then (none) else (if t744 = true then ((wireloomref05_In.f k2 t745 (Int.tmod (wrap64 (a1_0)) t694)).bind fun t754 => (if t754 = true then ((wireloomref05_In.f k2 t745 (Int.tmod (wrap64 (a1_1)) t694)).bind fun t755 => (if t755 = true then (some true) else (none))) else (none))) else (some true))))) = some r := H
            have A95 := Aside0.mk A950
            clear A950
            replace H := Option.bind_eq_some_iff.mp H
            obtain ⟨⟨t750, t753⟩, A960, H⟩ := H
            replace H : (if ((t753 == 0) == t744) = true then (none) else (if ((t748 == 0) != t744) = true then (none) else (if t744 = true then ((wireloomref05_In.f k2 t745 (Int.tmod (wrap64 (a1_0)) t694)).bind fun t754 => (if t754 = true then ((wireloomref05_In.f k2 t745 (Int.tmod (wrap64 (a1_1)) t694)).bind fun t755 => (if t755 = true then (some true) else (none))) else (none))) else (some true)))) = some r := H
            have A96 := Aside0.mk A960
            clear A960
            by_cases c97 : ((t753 == 0) == t744) = true
            ·rw [if_pos c97] at H
             exact absurd H (by simp)
            ·rw [if_neg c97] at H
             have c97b0 : ((t753 == 0) == t744) = false := by simpa using c97
             (try (have c97b1 : decide ((t753 == 0) = t744) = false := by simpa using c97))
             (try (have c97b2 : ((t753 == 0) == t744) = false := by simpa using c97))
             (try (have c97b3 : ¬ ((t753 == 0) = t744) := by simpa using c97))
             clear c97
             by_cases c98 : ((t748 == 0) != t744) = true
             ·rw [if_pos c98] at H
              exact absurd H (by simp)
             ·rw [if_neg c98] at H
              have c98b0 : ((t748 == 0) != t744) = false := by simpa using c98
              (try (have c98b1 : decide ((t748 == 0) = t744) = true := by simpa using c98))
              (try (have c98b2 : ((t748 == 0) == t744) = true := by simpa using c98))
              clear c98
              by_cases c99 : t744 = true
              ·subst c99
               have H1 : ((wireloomref05_In.f k2 t745 (Int.tmod (wrap64 (a1_0)) t694)).bind fun t754 => (if t754 = true then ((wireloomref05_In.f k2 t745 (Int.tmod (wrap64 (a1_1)) t694)).bind fun t755 => (if t755 = true then (some true) else (none))) else (none))) = some r := by rw [if_pos rfl] at H; exact H
               clear H
               have H := H1
               clear H1
               replace H := Option.bind_eq_some_iff.mp H
               obtain ⟨t754, A1000, H⟩ := H
               replace H : (if t754 = true then ((wireloomref05_In.f k2 t745 (Int.tmod (wrap64 (a1_1)) t694)).bind fun t755 => (if t755 = true then (some true) else (none))) else (none)) = some r := H
               have A100 := Aside0.mk A1000
               clear A1000
               by_cases c101 : t754 = true
               ·subst c101
                have H1 : ((wireloomref05_In.f k2 t745 (Int.tmod (wrap64 (a1_1)) t694)).bind fun t755 => (if t755 = true then (some true) else (none))) = some r := by rw [if_pos rfl] at H; exact H
                clear H
                have H := H1
                clear H1
                replace H := Option.bind_eq_some_iff.mp H
                obtain ⟨t755, A1020, H⟩ := H
                replace H : (if t755 = true then (some true) else (none)) = some r := H
                have A102 := Aside0.mk A1020
                clear A1020
                by_cases c103 : t755 = true
                ·subst c103
                 have H1 : (some true) = some r := by rw [if_pos rfl] at H; exact H
                 clear H
                 have H := H1
                 clear H1
                 obtain rfl := Option.some.inj H
                 have hnb104 := NB703_691.out
                 have hnc104 := NB691_703.out
                 have hnb105 := NB703_692.out
                 have hnc105 := NB692_703.out
                 have hnb106 := NB703_698.out
                 have hnc106 := NB698_703.out
                 have hnb107 := NB703_723.out
                 have hnc107 := NB723_703.out
                 have hcz108_0 : wr.cell? ⟨gb703, 0, none⟩ = some (.int .i64 t699) := (blk_cell BK703.out 0).trans rfl
                 have hcz108_1 : wr.cell? ⟨gb703, 1, none⟩ = some (.slice Ao33 t700.length co33) := (blk_cell BK703.out 1).trans rfl
                 have hfz108_0 := blk_frozen BK703.out 0
                 have hfz108_1 := blk_frozen BK703.out 1
                 obtain ⟨Ao109, co109, eo109⟩ := Kd.R_slice HO_9.out
                 subst eo109
                 go_wp2_with (first | ((with_reducible refine gate_callee (f := 21) rfl ?_); refine goesL_ (some 89) rfl rfl Try.func21 (by kernel_rfl) rfl #[.int .i64 t699, .slice Ao33 t700.length co33, .slice Ao109 x9_2.length co109] rfl (by (try simp only [List.map_toArray, List.map_cons, List.map_nil]); first | done | rfl | (simp only [List.length_drop, List.length_take]; rfl)) ?_; (with_reducible refine (digraph_Check.calls t699 _ _ t700 _ _ x9_2 t735 _ ?side1 ?side2 ?side3 ?side4 A89.out).mono ?_); (case side1 => repeat (first | exact (Kd.R_reads' HO_704001.out).2.2 | (with_reducible refine Kd.C_alloc ?_ _) | (with_reducible refine Kd.C_drewN ?_ _) | (with_reducible refine Kd.C_drew ?_))); (case side2 => exact (Kd.R_reads' HO_704001.out).2.1); (case side3 => repeat (first | exact (Kd.R_reads' HO_9.out).2.2 | (with_reducible refine Kd.C_alloc ?_ _) | (with_reducible refine Kd.C_drewN ?_ _) | (with_reducible refine Kd.C_drew ?_))); (case side4 => exact (Kd.R_reads' HO_9.out).2.1); rintro e w110 ⟨rfl, hb⟩; refine ⟨_, rfl, ?_⟩; have n0_ := Aside0.mk (Kd.R_below (rA HO_9.out) hb); have n1_ := Aside0.mk (Kd.R_below (rA HO_699001.out) hb); have n2_ := Aside0.mk (Kd.R_below (rA HO_704001.out) hb); have n3_ := Aside0.mk (Kd.R_below (rA HO_724000.out) hb); have n4_ := Aside0.mk (blk_below (g := gb691) (o := .cells #[.int .u8 a0_0, .int .u8 a0_1, .slice A0_2 l0_2.length c0_2] 24 (0, 0)) (bA BK691.out) hb); have n5_ := Aside0.mk (blk_below (g := gb692) (o := .cells #[.int .u8 a1_0, .int .u8 a1_1] 58 (0, 0)) (bA BK692.out) hb); have n6_ := Aside0.mk (blk_below (g := gb698) (o := .cells #[.int .i64 t694, .slice Ao26 t695.length co26] 31 (0, 0)) (bA BK698.out) hb); have n7_ := Aside0.mk (blk_below (g := gb703) (o := .cells #[.int .i64 t699, .slice Ao33 t700.length co33] 31 (0, 0)) (bA BK703.out) hb); have n8_ := Aside0.mk (blk_below (g := gb723) (o := .cells #[.slice Ao47 t719.length co47, .int .i64 t722] 37 (0, 0)) (bA BK723.out) hb); have n9_ := Aside0.mk (below_step (by repeat (first | (with_reducible first | exact HB.out | apply below_alloc | apply pw_below_drewN | apply below_drew1 | refine below_set ?_ GE691.out | refine below_set ?_ GE692.out | refine below_set ?_ GE698.out | refine below_set ?_ GE703.out | refine below_set ?_ GE723.out) | exact HB.out)) hb); clear HO_9; clear HO_699001; clear HO_704001; clear HO_724000; clear BK691; clear BK692; clear BK698; clear BK703; clear BK723; clear HB; have HO_9 := n0_; have HO_699001 := n1_; have HO_704001 := n2_; have HO_724000 := n3_; have BK691 := n4_; have BK692 := n5_; have BK698 := n6_; have BK703 := n7_; have BK723 := n8_; have HB := n9_; clear n0_ n1_ n2_ n3_ n4_ n5_ n6_ n7_ n8_ n9_; (try clear hb); (try clear hb2); (try clear hk); (try clear hi); have hnb111 := NB692_691.out; have hnc111 := NB691_692.out; have hnb112 := NB692_698.out; have hnc112 := NB698_692.out; have hnb113 := NB692_723.out; have hnc113 := NB723_692.out; have hcz114_0 : w110.cell? ⟨gb692, 0, none⟩ = some (.int .u8 a1_0) := (blk_cell BK692.out 0).trans rfl; have hcz114_1 : w110.cell? ⟨gb692, 1, none⟩ = some (.int .u8 a1_1) := (blk_cell BK692.out 1).trans rfl; have hfz114_0 := blk_frozen BK692.out 0; have hfz114_1 := blk_frozen BK692.out 1; have hnb115 := NB698_691.out; have hnc115 := NB691_698.out; have hnb116 := NB698_723.out; have hnc116 := NB723_698.out; have hcz117_0 : w110.cell? ⟨gb698, 0, none⟩ = some (.int .i64 t694) := (blk_cell BK698.out 0).trans rfl; have hcz117_1 : w110.cell? ⟨gb698, 1, none⟩ = some (.slice Ao26 t695.length co26) := (blk_cell BK698.out 1).trans rfl; have hfz117_0 := blk_frozen BK698.out 0; have hfz117_1 := blk_frozen BK698.out 1) | ((with_reducible refine gate_callee (f := 32) rfl ?_); refine goesL_ (some 106) rfl rfl Try.func32 (by kernel_rfl) rfl #[.agg #[.int .i64 t694, .slice Ao26 t695.length co26], .int .i64 (Int.tmod (wrap64 (a1_0)) t694), .int .i64 (Int.tmod (wrap64 (a1_1)) t694)] rfl (by (try simp only [List.map_toArray, List.map_cons, List.map_nil]); first | done | rfl | (simp only [List.length_drop, List.length_take]; rfl)) ?_; (with_reducible refine (wireloomref05_With.calls t694 _ _ t695 (Int.tmod (wrap64 (a1_0)) t694) (Int.tmod (wrap64 (a1_1)) t694) t736 t737 _ ?side1 ?side2 A92.out).mono ?_); (case side1 => repeat (first | exact (Kd.R_reads' HO_699001.out).2.2 | (with_reducible refine Kd.C_alloc ?_ _) | (with_reducible refine Kd.C_drewN ?_ _) | (with_reducible refine Kd.C_drew ?_))); (case side2 => exact (Kd.R_reads' HO_699001.out).2.1); rintro e w118 ⟨v738, rfl, ho0, hb⟩; refine ⟨_, rfl, ?_⟩; have n0_ := Aside0.mk (Kd.R_below (rA HO_9.out) hb); have n1_ := Aside0.mk (Kd.R_elder' (rA HO_699001.out) (Kd.R_base ho0) hb); have n2_ := Aside0.mk (Kd.R_elder' (rA HO_704001.out) (Kd.R_base ho0) hb); have n3_ := Aside0.mk (Kd.R_below (rA HO_724000.out) hb); have n4_ := Aside0.mk (Kd.R_lower (Kd.R_new' (Kd.R_new' ho0 (Kd.R_lt (rA HO_699001.out))) (Kd.R_lt (rA HO_704001.out))) (below_size (by repeat (first | (with_reducible first | exact HB.out | apply below_alloc | apply pw_below_drewN | apply below_drew1 | refine below_set ?_ GE691.out | refine below_set ?_ GE692.out | refine below_set ?_ GE698.out | refine below_set ?_ GE703.out | refine below_set ?_ GE723.out) | exact HB.out)))); have n5_ := Aside0.mk (blk_below (g := gb691) (o := .cells #[.int .u8 a0_0, .int .u8 a0_1, .slice A0_2 l0_2.length c0_2] 24 (0, 0)) (bA BK691.out) hb); have n6_ := Aside0.mk (blk_below (g := gb692) (o := .cells #[.int .u8 a1_0, .int .u8 a1_1] 58 (0, 0)) (bA BK692.out) hb); have n7_ := Aside0.mk (blk_below (g := gb698) (o := .cells #[.int .i64 t694, .slice Ao26 t695.length co26] 31 (0, 0)) (bA BK698.out) hb); have n8_ := Aside0.mk (blk_below (g := gb703) (o := .cells #[.int .i64 t699, .slice Ao33 t700.length co33] 31 (0, 0)) (bA BK703.out) hb); have n9_ := Aside0.mk (blk_below (g := gb723) (o := .cells #[.slice Ao47 t719.length co47, .int .i64 t722] 37 (0, 0)) (bA BK723.out) hb); have n10_ := Aside0.mk (below_step (by repeat (first | (with_reducible first | exact HB.out | apply below_alloc | apply pw_below_drewN | apply below_drew1 | refine below_set ?_ GE691.out | refine below_set ?_ GE692.out | refine below_set ?_ GE698.out | refine below_set ?_ GE703.out | refine below_set ?_ GE723.out) | exact HB.out)) hb); clear HO_9; clear HO_699001; clear HO_704001; clear HO_724000; clear BK691; clear BK692; clear BK698; clear BK703; clear BK723; clear HB; have HO_9 := n0_; have HO_699001 := n1_; have HO_704001 := n2_; have HO_724000 := n3_; have HO739 := n4_; have BK691 := n5_; have BK692 := n6_; have BK698 := n7_; have BK703 := n8_; have BK723 := n9_; have HB := n10_; clear n0_ n1_ n2_ n3_ n4_ n5_ n6_ n7_ n8_ n9_ n10_; (try clear hb); (try clear hb2); (try clear hk); (try clear hi); (try clear ho0)) | ((with_reducible refine gate_dst (N := 13) rfl ?_); (try (refine gate_guard (by rfl) ?_; dsimp only)); refine box_event ?hg (N := 13) ?hd (cs := #[.int .i64 0, .slice none 0 0]) (t := 31) ?hr ?_; (case hd => rfl); (case hg => rfl); (case hr => first | (go_simp; done) | (go_simp; rfl)); intro gb740 hg w119 hbox hb; have n0_ := Aside0.mk (Kd.R_below (rA HO_9.out) hb); have n1_ := Aside0.mk (Kd.R_below (rA HO_699001.out) hb); have n2_ := Aside0.mk (Kd.R_below (rA HO_704001.out) hb); have n3_ := Aside0.mk (Kd.R_below (rA HO_724000.out) hb); have n4_ := Aside0.mk (Kd.R_below (rA HO739.out) hb); have n5_ := Aside0.mk (blk_below (g := gb691) (o := .cells #[.int .u8 a0_0, .int .u8 a0_1, .slice A0_2 l0_2.length c0_2] 24 (0, 0)) (bA BK691.out) hb); have n6_ := Aside0.mk (blk_below (g := gb692) (o := .cells #[.int .u8 a1_0, .int .u8 a1_1] 58 (0, 0)) (bA BK692.out) hb); have n7_ := Aside0.mk (blk_below (g := gb698) (o := .cells #[.int .i64 t694, .slice Ao26 t695.length co26] 31 (0, 0)) (bA BK698.out) hb); have n8_ := Aside0.mk (blk_below (g := gb703) (o := .cells #[.int .i64 t699, .slice Ao33 t700.length co33] 31 (0, 0)) (bA BK703.out) hb); have n9_ := Aside0.mk (blk_below (g := gb723) (o := .cells #[.slice Ao47 t719.length co47, .int .i64 t722] 37 (0, 0)) (bA BK723.out) hb); have n10_ := Aside0.mk (below_step (by repeat (first | (with_reducible first | exact HB.out | apply below_alloc | apply pw_below_drewN | apply below_drew1 | refine below_set ?_ GE691.out | refine below_set ?_ GE692.out | refine below_set ?_ GE698.out | refine below_set ?_ GE703.out | refine below_set ?_ GE723.out) | exact HB.out)) hb); have n11_ := Aside0.mk (hbox); have n12_ := Aside0.mk ((by rw [hg]; exact (below_size (by repeat (first | (with_reducible first | exact HB.out | apply below_alloc | apply pw_below_drewN | apply below_drew1 | refine below_set ?_ GE691.out | refine below_set ?_ GE692.out | refine below_set ?_ GE698.out | refine below_set ?_ GE703.out | refine below_set ?_ GE723.out) | exact HB.out))) : w.heap.size ≤ gb740)); have n13_ := Aside0.mk ((by rw [hg]; exact (below_size (by repeat (first | (with_reducible first | exact HB.out | apply below_alloc | apply pw_below_drewN | apply below_drew1 | refine below_set ?_ GE691.out | refine below_set ?_ GE692.out | refine below_set ?_ GE698.out | refine below_set ?_ GE703.out | refine below_set ?_ GE723.out) | exact HB.out))) : w.heap.size ≤ gb740)); have n14_ := Aside0.mk ((by rw [hg]; exact Nat.ne_of_lt (blk_lt (g := gb691) (o := .cells #[.int .u8 a0_0, .int .u8 a0_1, .slice A0_2 l0_2.length c0_2] 24 (0, 0)) (bA BK691.out)) : gb691 ≠ gb740)); have n15_ := Aside0.mk ((by rw [hg]; exact Nat.ne_of_gt (blk_lt (g := gb691) (o := .cells #[.int .u8 a0_0, .int .u8 a0_1, .slice A0_2 l0_2.length c0_2] 24 (0, 0)) (bA BK691.out)) : gb740 ≠ gb691)); have n16_ := Aside0.mk ((by rw [hg]; exact Nat.ne_of_lt (blk_lt (g := gb692) (o := .cells #[.int .u8 a1_0, .int .u8 a1_1] 58 (0, 0)) (bA BK692.out)) : gb692 ≠ gb740)); have n17_ := Aside0.mk ((by rw [hg]; exact Nat.ne_of_gt (blk_lt (g := gb692) (o := .cells #[.int .u8 a1_0, .int .u8 a1_1] 58 (0, 0)) (bA BK692.out)) : gb740 ≠ gb692)); have n18_ := Aside0.mk ((by rw [hg]; exact Nat.ne_of_lt (blk_lt (g := gb698) (o := .cells #[.int .i64 t694, .slice Ao26 t695.length co26] 31 (0, 0)) (bA BK698.out)) : gb698 ≠ gb740)); have n19_ := Aside0.mk ((by rw [hg]; exact Nat.ne_of_gt (blk_lt (g := gb698) (o := .cells #[.int .i64 t694, .slice Ao26 t695.length co26] 31 (0, 0)) (bA BK698.out)) : gb740 ≠ gb698)); have n20_ := Aside0.mk ((by rw [hg]; exact Nat.ne_of_lt (blk_lt (g := gb703) (o := .cells #[.int .i64 t699, .slice Ao33 t700.length co33] 31 (0, 0)) (bA BK703.out)) : gb703 ≠ gb740)); have n21_ := Aside0.mk ((by rw [hg]; exact Nat.ne_of_gt (blk_lt (g := gb703) (o := .cells #[.int .i64 t699, .slice Ao33 t700.length co33] 31 (0, 0)) (bA BK703.out)) : gb740 ≠ gb703)); have n22_ := Aside0.mk ((by rw [hg]; exact Nat.ne_of_lt (blk_lt (g := gb723) (o := .cells #[.slice Ao47 t719.length co47, .int .i64 t722] 37 (0, 0)) (bA BK723.out)) : gb723 ≠ gb740)); have n23_ := Aside0.mk ((by rw [hg]; exact Nat.ne_of_gt (blk_lt (g := gb723) (o := .cells #[.slice Ao47 t719.length co47, .int .i64 t722] 37 (0, 0)) (bA BK723.out)) : gb740 ≠ gb723)); clear HO_9; clear HO_699001; clear HO_704001; clear HO_724000; clear HO739; clear BK691; clear BK692; clear BK698; clear BK703; clear BK723; clear HB; have HO_9 := n0_; have HO_699001 := n1_; have HO_704001 := n2_; have HO_724000 := n3_; have HO739 := n4_; have BK691 := n5_; have BK692 := n6_; have BK698 := n7_; have BK703 := n8_; have BK723 := n9_; have HB := n10_; have BK740 := n11_; have GW740 := n12_; have GE740 := n13_; have NB691_740 := n14_; have NB740_691 := n15_; have NB692_740 := n16_; have NB740_692 := n17_; have NB698_740 := n18_; have NB740_698 := n19_; have NB703_740 := n20_; have NB740_703 := n21_; have NB723_740 := n22_; have NB740_723 := n23_; clear n0_ n1_ n2_ n3_ n4_ n5_ n6_ n7_ n8_ n9_ n10_ n11_ n12_ n13_ n14_ n15_ n16_ n17_ n18_ n19_ n20_ n21_ n22_ n23_; clear hb hbox hg; have hnb120 := NB740_691.out; have hnc120 := NB691_740.out; have hnb121 := NB740_692.out; have hnc121 := NB692_740.out; have hnb122 := NB740_698.out; have hnc122 := NB698_740.out; have hnb123 := NB740_703.out; have hnc123 := NB703_740.out; have hnb124 := NB740_723.out; have hnc124 := NB723_740.out; have hcz125_0 : w119.cell? ⟨gb740, 0, none⟩ = some (.int .i64 0) := (blk_cell BK740.out 0).trans rfl; have hcz125_1 : w119.cell? ⟨gb740, 1, none⟩ = some (.slice none 0 0) := (blk_cell BK740.out 1).trans rfl; have hfz125_0 := blk_frozen BK740.out 0; have hfz125_1 := blk_frozen BK740.out 1; obtain ⟨Ao126, co126, eo126⟩ := Kd.R_slice HO739.out; subst eo126; have hcz127_0 : w119.cell? ⟨gb698, 0, none⟩ = some (.int .i64 t694) := (blk_cell BK698.out 0).trans rfl; have hcz127_1 : w119.cell? ⟨gb698, 1, none⟩ = some (.slice Ao26 t695.length co26) := (blk_cell BK698.out 1).trans rfl; have hfz127_0 := blk_frozen BK698.out 0; have hfz127_1 := blk_frozen BK698.out 1) | ((with_reducible refine gate_callee (f := 24) rfl ?_); refine goesL_ (some 112) rfl rfl Try.func24 (by kernel_rfl) rfl #[.int .i64 t694, .slice Ao26 t695.length co26, .int .i64 (Int.tmod (wrap64 (a1_1)) t694)] rfl (by (try simp only [List.map_toArray, List.map_cons, List.map_nil]); first | done | rfl | (simp only [List.length_drop, List.length_take]; rfl)) ?_; (with_reducible refine (digraph_Reach.calls t694 _ _ t695 (Int.tmod (wrap64 (a1_1)) t694) t741 _ ?side1 ?side2 A93.out).mono ?_); (case side1 => refine (Kd.R_reads' (e := 55) (base := w.heap.size) (ok := fun k_ => (some k_ ≠ (.slice Ao33 t700.length co33 : Value).ownBlock ∧ some k_ ≠ (.slice Ao126 t737.length co126 : Value).ownBlock)) (n := t695.length) (c := co26) ?_).2.2; exact (by (with_reducible repeat (first | apply Kd.R_alloc | apply Kd.R_drewN | apply Kd.R_drew)); exact (Kd.R_mono (Kd.R_far (p := ⟨gb740, 1, none⟩) (Kd.R_far (p := ⟨gb740, 0, none⟩) (Kd.R_types HO_699001.out BK740.out (by decide)) (fun _ hk => hk.2) (.int .i64 t736)) (fun _ hk => hk.2) (.slice Ao126 t737.length co126)) (fun _ h_ => h_.1)))); (case side2 => exact (Kd.R_reads' HO_699001.out).2.1); rintro e w128 ⟨v742, rfl, ho0, hb⟩; refine ⟨_, rfl, ?_⟩; have n0_ := Aside0.mk (Kd.R_elder' (by (with_reducible repeat (first | apply Kd.R_alloc | apply Kd.R_drewN | apply Kd.R_drew)); exact (Kd.R_mono (Kd.R_far (p := ⟨gb740, 1, none⟩) (Kd.R_far (p := ⟨gb740, 0, none⟩) (Kd.R_types HO_9.out BK740.out (by decide)) (fun _ hk => hk.2) (.int .i64 t736)) (fun _ hk => hk.2) (.slice Ao126 t737.length co126)) (fun _ h_ => h_.1))) (Kd.R_base ho0) hb); have n1_ := Aside0.mk (Kd.R_below (by (with_reducible repeat (first | apply Kd.R_alloc | apply Kd.R_drewN | apply Kd.R_drew)); exact (Kd.R_mono (Kd.R_far (p := ⟨gb740, 1, none⟩) (Kd.R_far (p := ⟨gb740, 0, none⟩) (Kd.R_types HO_699001.out BK740.out (by decide)) (fun _ hk => hk.2) (.int .i64 t736)) (fun _ hk => hk.2) (.slice Ao126 t737.length co126)) (fun _ h_ => h_.1))) hb); have n2_ := Aside0.mk (Kd.R_below (by (with_reducible repeat (first | apply Kd.R_alloc | apply Kd.R_drewN | apply Kd.R_drew)); exact (Kd.R_mono (Kd.R_far (p := ⟨gb740, 1, none⟩) (Kd.R_far (p := ⟨gb740, 0, none⟩) (Kd.R_types HO_704001.out BK740.out (by decide)) (fun _ hk => hk.2) (.int .i64 t736)) (fun _ hk => hk.2) (.slice Ao126 t737.length co126)) (fun _ h_ => h_.1))) hb); have n3_ := Aside0.mk (Kd.R_elder' (by (with_reducible repeat (first | apply Kd.R_alloc | apply Kd.R_drewN | apply Kd.R_drew)); exact (Kd.R_mono (Kd.R_far (p := ⟨gb740, 1, none⟩) (Kd.R_far (p := ⟨gb740, 0, none⟩) (Kd.R_types HO_724000.out BK740.out (by decide)) (fun _ hk => hk.2) (.int .i64 t736)) (fun _ hk => hk.2) (.slice Ao126 t737.length co126)) (fun _ h_ => h_.1))) (Kd.R_base ho0) hb); have n4_ := Aside0.mk (Kd.R_below (by (with_reducible repeat (first | apply Kd.R_alloc | apply Kd.R_drewN | apply Kd.R_drew)); exact (Kd.R_mono (Kd.R_far (p := ⟨gb740, 1, none⟩) (Kd.R_far (p := ⟨gb740, 0, none⟩) (Kd.R_types HO739.out BK740.out (by decide)) (fun _ hk => hk.2) (.int .i64 t736)) (fun _ hk => hk.2) (.slice Ao126 t737.length co126)) (fun _ h_ => h_.1))) hb); have n5_ := Aside0.mk (Kd.R_lower (Kd.R_new' (Kd.R_new' ho0 (Kd.R_lt (by (with_reducible repeat (first | apply Kd.R_alloc | apply Kd.R_drewN | apply Kd.R_drew)); exact (Kd.R_mono (Kd.R_far (p := ⟨gb740, 1, none⟩) (Kd.R_far (p := ⟨gb740, 0, none⟩) (Kd.R_types HO_9.out BK740.out (by decide)) (fun _ hk => hk.2) (.int .i64 t736)) (fun _ hk => hk.2) (.slice Ao126 t737.length co126)) (fun _ h_ => h_.1))))) (Kd.R_lt (by (with_reducible repeat (first | apply Kd.R_alloc | apply Kd.R_drewN | apply Kd.R_drew)); exact (Kd.R_mono (Kd.R_far (p := ⟨gb740, 1, none⟩) (Kd.R_far (p := ⟨gb740, 0, none⟩) (Kd.R_types HO_724000.out BK740.out (by decide)) (fun _ hk => hk.2) (.int .i64 t736)) (fun _ hk => hk.2) (.slice Ao126 t737.length co126)) (fun _ h_ => h_.1))))) (below_size (by repeat (first | (with_reducible first | exact HB.out | apply below_alloc | apply pw_below_drewN | apply below_drew1 | refine below_set ?_ GE691.out | refine below_set ?_ GE692.out | refine below_set ?_ GE698.out | refine below_set ?_ GE703.out | refine below_set ?_ GE723.out | refine below_set ?_ GE740.out) | exact HB.out)))); have n6_ := Aside0.mk (blk_below (g := gb691) (o := .cells #[.int .u8 a0_0, .int .u8 a0_1, .slice A0_2 l0_2.length c0_2] 24 (0, 0)) (by (with_reducible repeat (first | refine blk_drewN ?_ _ | refine blk_drew ?_ | refine blk_alloc ?_ _)); refine blk_far ?_ NB691_740.out _; (with_reducible repeat (first | refine blk_drewN ?_ _ | refine blk_drew ?_ | refine blk_alloc ?_ _)); refine blk_far ?_ NB691_740.out _; (with_reducible repeat (first | refine blk_drewN ?_ _ | refine blk_drew ?_ | refine blk_alloc ?_ _)); exact BK691.out) hb); have n7_ := Aside0.mk (blk_below (g := gb692) (o := .cells #[.int .u8 a1_0, .int .u8 a1_1] 58 (0, 0)) (by (with_reducible repeat (first | refine blk_drewN ?_ _ | refine blk_drew ?_ | refine blk_alloc ?_ _)); refine blk_far ?_ NB692_740.out _; (with_reducible repeat (first | refine blk_drewN ?_ _ | refine blk_drew ?_ | refine blk_alloc ?_ _)); refine blk_far ?_ NB692_740.out _; (with_reducible repeat (first | refine blk_drewN ?_ _ | refine blk_drew ?_ | refine blk_alloc ?_ _)); exact BK692.out) hb); have n8_ := Aside0.mk (blk_below (g := gb698) (o := .cells #[.int .i64 t694, .slice Ao26 t695.length co26] 31 (0, 0)) (by (with_reducible repeat (first | refine blk_drewN ?_ _ | refine blk_drew ?_ | refine blk_alloc ?_ _)); refine blk_far ?_ NB698_740.out _; (with_reducible repeat (first | refine blk_drewN ?_ _ | refine blk_drew ?_ | refine blk_alloc ?_ _)); refine blk_far ?_ NB698_740.out _; (with_reducible repeat (first | refine blk_drewN ?_ _ | refine blk_drew ?_ | refine blk_alloc ?_ _)); exact BK698.out) hb); have n9_ := Aside0.mk (blk_below (g := gb703) (o := .cells #[.int .i64 t699, .slice Ao33 t700.length co33] 31 (0, 0)) (by (with_reducible repeat (first | refine blk_drewN ?_ _ | refine blk_drew ?_ | refine blk_alloc ?_ _)); refine blk_far ?_ NB703_740.out _; (with_reducible repeat (first | refine blk_drewN ?_ _ | refine blk_drew ?_ | refine blk_alloc ?_ _)); refine blk_far ?_ NB703_740.out _; (with_reducible repeat (first | refine blk_drewN ?_ _ | refine blk_drew ?_ | refine blk_alloc ?_ _)); exact BK703.out) hb); have n10_ := Aside0.mk (blk_below (g := gb723) (o := .cells #[.slice Ao47 t719.length co47, .int .i64 t722] 37 (0, 0)) (by (with_reducible repeat (first | refine blk_drewN ?_ _ | refine blk_drew ?_ | refine blk_alloc ?_ _)); refine blk_far ?_ NB723_740.out _; (with_reducible repeat (first | refine blk_drewN ?_ _ | refine blk_drew ?_ | refine blk_alloc ?_ _)); refine blk_far ?_ NB723_740.out _; (with_reducible repeat (first | refine blk_drewN ?_ _ | refine blk_drew ?_ | refine blk_alloc ?_ _)); exact BK723.out) hb); have n11_ := Aside0.mk (blk_below (g := gb740) (o := .cells #[.int .i64 t736, .slice Ao126 t737.length co126] 31 (0, 0)) (by (with_reducible repeat (first | refine blk_drewN ?_ _ | refine blk_drew ?_ | refine blk_alloc ?_ _)); refine blk_put (cs := #[.int .i64 t736, .slice none 0 0]) ?_ 1 _ rfl; (with_reducible repeat (first | refine blk_drewN ?_ _ | refine blk_drew ?_ | refine blk_alloc ?_ _)); refine blk_put (cs := #[.int .i64 0, .slice none 0 0]) ?_ 0 _ rfl; (with_reducible repeat (first | refine blk_drewN ?_ _ | refine blk_drew ?_ | refine blk_alloc ?_ _)); exact BK740.out) hb); have n12_ := Aside0.mk (below_step (by repeat (first | (with_reducible first | exact HB.out | apply below_alloc | apply pw_below_drewN | apply below_drew1 | refine below_set ?_ GE691.out | refine below_set ?_ GE692.out | refine below_set ?_ GE698.out | refine below_set ?_ GE703.out | refine below_set ?_ GE723.out | refine below_set ?_ GE740.out) | exact HB.out)) hb); clear HO_9; clear HO_699001; clear HO_704001; clear HO_724000; clear HO739; clear BK691; clear BK692; clear BK698; clear BK703; clear BK723; clear BK740; clear HB; have HO_9 := n0_; have HO_699001 := n1_; have HO_704001 := n2_; have HO_724000 := n3_; have HO739 := n4_; have HO743 := n5_; have BK691 := n6_; have BK692 := n7_; have BK698 := n8_; have BK703 := n9_; have BK723 := n10_; have BK740 := n11_; have HB := n12_; clear n0_ n1_ n2_ n3_ n4_ n5_ n6_ n7_ n8_ n9_ n10_ n11_ n12_; (try clear hb); (try clear hb2); (try clear hk); (try clear hi); (try clear ho0); obtain ⟨Ao129, co129, eo129⟩ := Kd.R_slice HO743.out; subst eo129) | ((with_reducible refine gate_callee (f := 31) rfl ?_); refine goesL_ (some 114) rfl rfl Try.func31 (by kernel_rfl) rfl #[.slice Ao129 t741.length co129, .int .i64 (Int.tmod (wrap64 (a1_0)) t694)] rfl (by (try simp only [List.map_toArray, List.map_cons, List.map_nil]); first | done | rfl | (simp only [List.length_drop, List.length_take]; rfl)) ?_; (with_reducible refine (wireloomref05_In.calls k2 _ _ t741 (Int.tmod (wrap64 (a1_0)) t694) true _ ?side1 ?side2 A94.out).mono ?_); (case side1 => repeat (first | exact (Kd.R_reads' HO743.out).2.2 | (with_reducible refine Kd.C_alloc ?_ _) | (with_reducible refine Kd.C_drewN ?_ _) | (with_reducible refine Kd.C_drew ?_))); (case side2 => exact (Kd.R_reads' HO743.out).2.1); rintro e w' ⟨rfl, ⟨nd, rfl⟩⟩; refine ⟨_, rfl, ?_⟩; (try (rw [drewN_self w128]; generalize hq_ : World.drewN w128 _ = w128; have n0_ : Aside0 (Kd.R k55 55 w128 w.heap.size (fun k_ => some k_ ≠ (.slice Ao26 t695.length co26 : Value).ownBlock ∧ some k_ ≠ (.slice Ao33 t700.length co33 : Value).ownBlock) (.slice Ao126 t737.length co126) t737) := ⟨by rw [← hq_]; exact (by (with_reducible repeat (first | apply Kd.R_alloc | apply Kd.R_drewN | apply Kd.R_drew)); exact Kd.R_mono HO739.out (fun _ hk => ⟨hk.1.2, hk.2⟩))⟩; have n1_ : Aside0 (Kd.R (Kd.int .i64) 3 w128 w.heap.size (fun k_ => some k_ ≠ (.slice Ao47 t719.length co47 : Value).ownBlock ∧ some k_ ≠ (.slice Ao109 x9_2.length co109 : Value).ownBlock) (.slice Ao129 t741.length co129) t741) := ⟨by rw [← hq_]; exact (by (with_reducible repeat (first | apply Kd.R_alloc | apply Kd.R_drewN | apply Kd.R_drew)); exact Kd.R_mono HO743.out (fun _ hk => ⟨hk.2, hk.1.2⟩))⟩; have n2_ : Aside0 (Kd.R k55 55 w128 w.heap.size (fun k_ => some k_ ≠ (.slice Ao126 t737.length co126 : Value).ownBlock ∧ some k_ ≠ (.slice Ao33 t700.length co33 : Value).ownBlock) (.slice Ao26 t695.length co26) t695) := ⟨by rw [← hq_]; exact (by (with_reducible repeat (first | apply Kd.R_alloc | apply Kd.R_drewN | apply Kd.R_drew)); exact Kd.R_mono HO_699001.out (fun _ hk => ⟨hk.2, hk.1⟩))⟩; have n3_ : Aside0 (Kd.R k55 55 w128 w.heap.size (fun k_ => some k_ ≠ (.slice Ao126 t737.length co126 : Value).ownBlock ∧ some k_ ≠ (.slice Ao26 t695.length co26 : Value).ownBlock) (.slice Ao33 t700.length co33) t700) := ⟨by rw [← hq_]; exact (by (with_reducible repeat (first | apply Kd.R_alloc | apply Kd.R_drewN | apply Kd.R_drew)); exact Kd.R_mono HO_704001.out (fun _ hk => ⟨hk.2, hk.1⟩))⟩; have n4_ : Aside0 (Kd.R (Kd.int .i64) 3 w128 w.heap.size (fun k_ => some k_ ≠ (.slice Ao129 t741.length co129 : Value).ownBlock ∧ some k_ ≠ (.slice Ao109 x9_2.length co109 : Value).ownBlock) (.slice Ao47 t719.length co47) t719) := ⟨by rw [← hq_]; exact (by (with_reducible repeat (first | apply Kd.R_alloc | apply Kd.R_drewN | apply Kd.R_drew)); exact Kd.R_mono HO_724000.out (fun _ hk => ⟨hk.2, hk.1⟩))⟩; have n5_ : Aside0 (Kd.R (Kd.int .i64) 3 w128 w.heap.size (fun k_ => some k_ ≠ (.slice Ao129 t741.length co129 : Value).ownBlock ∧ some k_ ≠ (.slice Ao47 t719.length co47 : Value).ownBlock) (.slice Ao109 x9_2.length co109) x9_2) := ⟨by rw [← hq_]; exact (by (with_reducible repeat (first | apply Kd.R_alloc | apply Kd.R_drewN | apply Kd.R_drew)); exact Kd.R_mono HO_9.out (fun _ hk => ⟨hk.2, hk.1⟩))⟩; have n6_ : Aside0 (w128.heap[gb691]? = some (.cells #[.int .u8 a0_0, .int .u8 a0_1, .slice A0_2 l0_2.length c0_2] 24 (0, 0))) := ⟨by rw [← hq_]; exact (bA BK691.out)⟩; have n7_ : Aside0 (w128.heap[gb692]? = some (.cells #[.int .u8 a1_0, .int .u8 a1_1] 58 (0, 0))) := ⟨by rw [← hq_]; exact (bA BK692.out)⟩; have n8_ : Aside0 (w128.heap[gb698]? = some (.cells #[.int .i64 t694, .slice Ao26 t695.length co26] 31 (0, 0))) := ⟨by rw [← hq_]; exact (bA BK698.out)⟩; have n9_ : Aside0 (w128.heap[gb703]? = some (.cells #[.int .i64 t699, .slice Ao33 t700.length co33] 31 (0, 0))) := ⟨by rw [← hq_]; exact (bA BK703.out)⟩; have n10_ : Aside0 (w128.heap[gb723]? = some (.cells #[.slice Ao47 t719.length co47, .int .i64 t722] 37 (0, 0))) := ⟨by rw [← hq_]; exact (bA BK723.out)⟩; have n11_ : Aside0 (w128.heap[gb740]? = some (.cells #[.int .i64 t736, .slice Ao126 t737.length co126] 31 (0, 0))) := ⟨by rw [← hq_]; exact (bA BK740.out)⟩; have n12_ : Aside0 (Below w.heap.size w w128) := ⟨by rw [← hq_]; exact (by repeat (first | (with_reducible first | exact HB.out | apply below_alloc | apply pw_below_drewN | apply below_drew1 | refine below_set ?_ GE691.out | refine below_set ?_ GE692.out | refine below_set ?_ GE698.out | refine below_set ?_ GE703.out | refine below_set ?_ GE723.out | refine below_set ?_ GE740.out) | exact HB.out))⟩; clear HO739 HO743 HO_699001 HO_704001 HO_724000 HO_9 BK691 BK692 BK698 BK703 BK723 BK740 HB hq_; have HO739 := n0_; have HO743 := n1_; have HO_699001 := n2_; have HO_704001 := n3_; have HO_724000 := n4_; have HO_9 := n5_; have BK691 := n6_; have BK692 := n7_; have BK698 := n8_; have BK703 := n9_; have BK723 := n10_; have BK740 := n11_; have HB := n12_; clear n0_ n1_ n2_ n3_ n4_ n5_ n6_ n7_ n8_ n9_ n10_ n11_ n12_)); have hcz130_0 : w128.cell? ⟨gb740, 0, none⟩ = some (.int .i64 t736) := (blk_cell BK740.out 0).trans rfl; have hcz130_1 : w128.cell? ⟨gb740, 1, none⟩ = some (.slice Ao126 t737.length co126) := (blk_cell BK740.out 1).trans rfl; have hfz130_0 := blk_frozen BK740.out 0; have hfz130_1 := blk_frozen BK740.out 1) | ((with_reducible refine gate_callee (f := 17) rfl ?_); refine goesL_ (some 116) rfl rfl Try.func17 (by kernel_rfl) rfl #[.agg #[.int .i64 t736, .slice Ao126 t737.length co126]] rfl (by (try simp only [List.map_toArray, List.map_cons, List.map_nil]); first | done | rfl | (simp only [List.length_drop, List.length_take]; rfl)) ?_; (with_reducible refine (wireloomlaw05_cycle.calls t736 _ _ t737 t745 t748 _ ?side1 ?side2 A95.out).mono ?_); (case side1 => repeat (first | exact (Kd.R_reads' HO739.out).2.2 | (with_reducible refine Kd.C_alloc ?_ _) | (with_reducible refine Kd.C_drewN ?_ _) | (with_reducible refine Kd.C_drew ?_))); (case side2 => exact (Kd.R_reads' HO739.out).2.1); rintro e w131 ⟨v746, rfl, ho0, hb⟩; refine ⟨_, rfl, ?_⟩; have n0_ := Aside0.mk (Kd.R_elder' (rA HO_9.out) (Kd.R_base ho0) hb); have n1_ := Aside0.mk (Kd.R_below (rA HO_699001.out) hb); have n2_ := Aside0.mk (Kd.R_below (rA HO_704001.out) hb); have n3_ := Aside0.mk (Kd.R_elder' (rA HO_724000.out) (Kd.R_base ho0) hb); have n4_ := Aside0.mk (Kd.R_below (rA HO739.out) hb); have n5_ := Aside0.mk (Kd.R_elder' (rA HO743.out) (Kd.R_base ho0) hb); have n6_ := Aside0.mk (Kd.R_lower (Kd.R_new' (Kd.R_new' (Kd.R_new' ho0 (Kd.R_lt (rA HO_9.out))) (Kd.R_lt (rA HO_724000.out))) (Kd.R_lt (rA HO743.out))) (below_size (by repeat (first | (with_reducible first | exact HB.out | apply below_alloc | apply pw_below_drewN | apply below_drew1 | refine below_set ?_ GE691.out | refine below_set ?_ GE692.out | refine below_set ?_ GE698.out | refine below_set ?_ GE703.out | refine below_set ?_ GE723.out | refine below_set ?_ GE740.out) | exact HB.out)))); have n7_ := Aside0.mk (blk_below (g := gb691) (o := .cells #[.int .u8 a0_0, .int .u8 a0_1, .slice A0_2 l0_2.length c0_2] 24 (0, 0)) (bA BK691.out) hb); have n8_ := Aside0.mk (blk_below (g := gb692) (o := .cells #[.int .u8 a1_0, .int .u8 a1_1] 58 (0, 0)) (bA BK692.out) hb); have n9_ := Aside0.mk (blk_below (g := gb698) (o := .cells #[.int .i64 t694, .slice Ao26 t695.length co26] 31 (0, 0)) (bA BK698.out) hb); have n10_ := Aside0.mk (blk_below (g := gb703) (o := .cells #[.int .i64 t699, .slice Ao33 t700.length co33] 31 (0, 0)) (bA BK703.out) hb); have n11_ := Aside0.mk (blk_below (g := gb723) (o := .cells #[.slice Ao47 t719.length co47, .int .i64 t722] 37 (0, 0)) (bA BK723.out) hb); have n12_ := Aside0.mk (blk_below (g := gb740) (o := .cells #[.int .i64 t736, .slice Ao126 t737.length co126] 31 (0, 0)) (bA BK740.out) hb); have n13_ := Aside0.mk (below_step (by repeat (first | (with_reducible first | exact HB.out | apply below_alloc | apply pw_below_drewN | apply below_drew1 | refine below_set ?_ GE691.out | refine below_set ?_ GE692.out | refine below_set ?_ GE698.out | refine below_set ?_ GE703.out | refine below_set ?_ GE723.out | refine below_set ?_ GE740.out) | exact HB.out)) hb); clear HO_9; clear HO_699001; clear HO_704001; clear HO_724000; clear HO739; clear HO743; clear BK691; clear BK692; clear BK698; clear BK703; clear BK723; clear BK740; clear HB; have HO_9 := n0_; have HO_699001 := n1_; have HO_704001 := n2_; have HO_724000 := n3_; have HO739 := n4_; have HO743 := n5_; have HO747 := n6_; have BK691 := n7_; have BK692 := n8_; have BK698 := n9_; have BK703 := n10_; have BK723 := n11_; have BK740 := n12_; have HB := n13_; clear n0_ n1_ n2_ n3_ n4_ n5_ n6_ n7_ n8_ n9_ n10_ n11_ n12_ n13_; (try clear hb); (try clear hb2); (try clear hk); (try clear hi); (try clear ho0)) | ((with_reducible refine gate_dst (N := 15) rfl ?_); (try (refine gate_guard (by rfl) ?_; dsimp only)); refine box_event ?hg (N := 15) ?hd (cs := #[.slice none 0 0, .int .i64 0]) (t := 37) ?hr ?_; (case hd => rfl); (case hg => rfl); (case hr => first | (go_simp; done) | (go_simp; rfl)); intro gb749 hg w132 hbox hb; have n0_ := Aside0.mk (Kd.R_below (rA HO_9.out) hb); have n1_ := Aside0.mk (Kd.R_below (rA HO_699001.out) hb); have n2_ := Aside0.mk (Kd.R_below (rA HO_704001.out) hb); have n3_ := Aside0.mk (Kd.R_below (rA HO_724000.out) hb); have n4_ := Aside0.mk (Kd.R_below (rA HO739.out) hb); have n5_ := Aside0.mk (Kd.R_below (rA HO743.out) hb); have n6_ := Aside0.mk (Kd.R_below (rA HO747.out) hb); have n7_ := Aside0.mk (blk_below (g := gb691) (o := .cells #[.int .u8 a0_0, .int .u8 a0_1, .slice A0_2 l0_2.length c0_2] 24 (0, 0)) (bA BK691.out) hb); have n8_ := Aside0.mk (blk_below (g := gb692) (o := .cells #[.int .u8 a1_0, .int .u8 a1_1] 58 (0, 0)) (bA BK692.out) hb); have n9_ := Aside0.mk (blk_below (g := gb698) (o := .cells #[.int .i64 t694, .slice Ao26 t695.length co26] 31 (0, 0)) (bA BK698.out) hb); have n10_ := Aside0.mk (blk_below (g := gb703) (o := .cells #[.int .i64 t699, .slice Ao33 t700.length co33] 31 (0, 0)) (bA BK703.out) hb); have n11_ := Aside0.mk (blk_below (g := gb723) (o := .cells #[.slice Ao47 t719.length co47, .int .i64 t722] 37 (0, 0)) (bA BK723.out) hb); have n12_ := Aside0.mk (blk_below (g := gb740) (o := .cells #[.int .i64 t736, .slice Ao126 t737.length co126] 31 (0, 0)) (bA BK740.out) hb); have n13_ := Aside0.mk (below_step (by repeat (first | (with_reducible first | exact HB.out | apply below_alloc | apply pw_below_drewN | apply below_drew1 | refine below_set ?_ GE691.out | refine below_set ?_ GE692.out | refine below_set ?_ GE698.out | refine below_set ?_ GE703.out | refine below_set ?_ GE723.out | refine below_set ?_ GE740.out) | exact HB.out)) hb); have n14_ := Aside0.mk (hbox); have n15_ := Aside0.mk ((by rw [hg]; exact (below_size (by repeat (first | (with_reducible first | exact HB.out | apply below_alloc | apply pw_below_drewN | apply below_drew1 | refine below_set ?_ GE691.out | refine below_set ?_ GE692.out | refine below_set ?_ GE698.out | refine below_set ?_ GE703.out | refine below_set ?_ GE723.out | refine below_set ?_ GE740.out) | exact HB.out))) : w.heap.size ≤ gb749)); have n16_ := Aside0.mk ((by rw [hg]; exact (below_size (by repeat (first | (with_reducible first | exact HB.out | apply below_alloc | apply pw_below_drewN | apply below_drew1 | refine below_set ?_ GE691.out | refine below_set ?_ GE692.out | refine below_set ?_ GE698.out | refine below_set ?_ GE703.out | refine below_set ?_ GE723.out | refine below_set ?_ GE740.out) | exact HB.out))) : w.heap.size ≤ gb749)); have n17_ := Aside0.mk ((by rw [hg]; exact Nat.ne_of_lt (blk_lt (g := gb691) (o := .cells #[.int .u8 a0_0, .int .u8 a0_1, .slice A0_2 l0_2.length c0_2] 24 (0, 0)) (bA BK691.out)) : gb691 ≠ gb749)); have n18_ := Aside0.mk ((by rw [hg]; exact Nat.ne_of_gt (blk_lt (g := gb691) (o := .cells #[.int .u8 a0_0, .int .u8 a0_1, .slice A0_2 l0_2.length c0_2] 24 (0, 0)) (bA BK691.out)) : gb749 ≠ gb691)); have n19_ := Aside0.mk ((by rw [hg]; exact Nat.ne_of_lt (blk_lt (g := gb692) (o := .cells #[.int .u8 a1_0, .int .u8 a1_1] 58 (0, 0)) (bA BK692.out)) : gb692 ≠ gb749)); have n20_ := Aside0.mk ((by rw [hg]; exact Nat.ne_of_gt (blk_lt (g := gb692) (o := .cells #[.int .u8 a1_0, .int .u8 a1_1] 58 (0, 0)) (bA BK692.out)) : gb749 ≠ gb692)); have n21_ := Aside0.mk ((by rw [hg]; exact Nat.ne_of_lt (blk_lt (g := gb698) (o := .cells #[.int .i64 t694, .slice Ao26 t695.length co26] 31 (0, 0)) (bA BK698.out)) : gb698 ≠ gb749)); have n22_ := Aside0.mk ((by rw [hg]; exact Nat.ne_of_gt (blk_lt (g := gb698) (o := .cells #[.int .i64 t694, .slice Ao26 t695.length co26] 31 (0, 0)) (bA BK698.out)) : gb749 ≠ gb698)); have n23_ := Aside0.mk ((by rw [hg]; exact Nat.ne_of_lt (blk_lt (g := gb703) (o := .cells #[.int .i64 t699, .slice Ao33 t700.length co33] 31 (0, 0)) (bA BK703.out)) : gb703 ≠ gb749)); have n24_ := Aside0.mk ((by rw [hg]; exact Nat.ne_of_gt (blk_lt (g := gb703) (o := .cells #[.int .i64 t699, .slice Ao33 t700.length co33] 31 (0, 0)) (bA BK703.out)) : gb749 ≠ gb703)); have n25_ := Aside0.mk ((by rw [hg]; exact Nat.ne_of_lt (blk_lt (g := gb723) (o := .cells #[.slice Ao47 t719.length co47, .int .i64 t722] 37 (0, 0)) (bA BK723.out)) : gb723 ≠ gb749)); have n26_ := Aside0.mk ((by rw [hg]; exact Nat.ne_of_gt (blk_lt (g := gb723) (o := .cells #[.slice Ao47 t719.length co47, .int .i64 t722] 37 (0, 0)) (bA BK723.out)) : gb749 ≠ gb723)); have n27_ := Aside0.mk ((by rw [hg]; exact Nat.ne_of_lt (blk_lt (g := gb740) (o := .cells #[.int .i64 t736, .slice Ao126 t737.length co126] 31 (0, 0)) (bA BK740.out)) : gb740 ≠ gb749)); have n28_ := Aside0.mk ((by rw [hg]; exact Nat.ne_of_gt (blk_lt (g := gb740) (o := .cells #[.int .i64 t736, .slice Ao126 t737.length co126] 31 (0, 0)) (bA BK740.out)) : gb749 ≠ gb740)); clear HO_9; clear HO_699001; clear HO_704001; clear HO_724000; clear HO739; clear HO743; clear HO747; clear BK691; clear BK692; clear BK698; clear BK703; clear BK723; clear BK740; clear HB; have HO_9 := n0_; have HO_699001 := n1_; have HO_704001 := n2_; have HO_724000 := n3_; have HO739 := n4_; have HO743 := n5_; have HO747 := n6_; have BK691 := n7_; have BK692 := n8_; have BK698 := n9_; have BK703 := n10_; have BK723 := n11_; have BK740 := n12_; have HB := n13_; have BK749 := n14_; have GW749 := n15_; have GE749 := n16_; have NB691_749 := n17_; have NB749_691 := n18_; have NB692_749 := n19_; have NB749_692 := n20_; have NB698_749 := n21_; have NB749_698 := n22_; have NB703_749 := n23_; have NB749_703 := n24_; have NB723_749 := n25_; have NB749_723 := n26_; have NB740_749 := n27_; have NB749_740 := n28_; clear n0_ n1_ n2_ n3_ n4_ n5_ n6_ n7_ n8_ n9_ n10_ n11_ n12_ n13_ n14_ n15_ n16_ n17_ n18_ n19_ n20_ n21_ n22_ n23_ n24_ n25_ n26_ n27_ n28_; clear hb hbox hg; obtain ⟨Ao133, co133, eo133⟩ := Kd.R_slice HO747.out; subst eo133; have hnb134 := NB749_691.out; have hnc134 := NB691_749.out; have hnb135 := NB749_692.out; have hnc135 := NB692_749.out; have hnb136 := NB749_698.out; have hnc136 := NB698_749.out; have hnb137 := NB749_703.out; have hnc137 := NB703_749.out; have hnb138 := NB749_723.out; have hnc138 := NB723_749.out; have hnb139 := NB749_740.out; have hnc139 := NB740_749.out; have hcz140_0 : w132.cell? ⟨gb749, 0, none⟩ = some (.slice none 0 0) := (blk_cell BK749.out 0).trans rfl; have hcz140_1 : w132.cell? ⟨gb749, 1, none⟩ = some (.int .i64 0) := (blk_cell BK749.out 1).trans rfl; have hfz140_0 := blk_frozen BK749.out 0; have hfz140_1 := blk_frozen BK749.out 1; have hcz141_0 : w132.cell? ⟨gb740, 0, none⟩ = some (.int .i64 t736) := (blk_cell BK740.out 0).trans rfl; have hcz141_1 : w132.cell? ⟨gb740, 1, none⟩ = some (.slice Ao126 t737.length co126) := (blk_cell BK740.out 1).trans rfl; have hfz141_0 := blk_frozen BK740.out 0; have hfz141_1 := blk_frozen BK740.out 1) | ((with_reducible refine gate_callee (f := 15) rfl ?_); refine goesL_ (some 118) rfl rfl Try.func15 (by kernel_rfl) rfl #[.agg #[.int .i64 t736, .slice Ao126 t737.length co126]] rfl (by (try simp only [List.map_toArray, List.map_cons, List.map_nil]); first | done | rfl | (simp only [List.length_drop, List.length_take]; rfl)) ?_; (with_reducible refine (wireloomlaw05_order.calls t736 _ _ t737 t750 t753 _ ?side1 ?side2 A96.out).mono ?_); (case side1 => refine (Kd.R_reads' (e := 55) (base := w.heap.size) (ok := fun k_ => (some k_ ≠ (.slice Ao26 t695.length co26 : Value).ownBlock ∧ some k_ ≠ (.slice Ao33 t700.length co33 : Value).ownBlock)) (n := t737.length) (c := co126) ?_).2.2; exact (by (with_reducible repeat (first | apply Kd.R_alloc | apply Kd.R_drewN | apply Kd.R_drew)); exact (Kd.R_mono (Kd.R_far (p := ⟨gb749, 1, none⟩) (Kd.R_far (p := ⟨gb749, 0, none⟩) (Kd.R_types HO739.out BK749.out (by decide)) (fun _ hk => hk.2) (.slice Ao133 t745.length co133)) (fun _ hk => hk.2) (.int .i64 t748)) (fun _ h_ => h_.1)))); (case side2 => exact (Kd.R_reads' HO739.out).2.1); rintro e w142 ⟨v751, rfl, ho0, hb⟩; refine ⟨_, rfl, ?_⟩; have n0_ := Aside0.mk (Kd.R_elder' (by (with_reducible repeat (first | apply Kd.R_alloc | apply Kd.R_drewN | apply Kd.R_drew)); exact (Kd.R_mono (Kd.R_far (p := ⟨gb749, 1, none⟩) (Kd.R_far (p := ⟨gb749, 0, none⟩) (Kd.R_types HO_9.out BK749.out (by decide)) (fun _ hk => hk.2) (.slice Ao133 t745.length co133)) (fun _ hk => hk.2) (.int .i64 t748)) (fun _ h_ => h_.1))) (Kd.R_base ho0) hb); have n1_ := Aside0.mk (Kd.R_below (by (with_reducible repeat (first | apply Kd.R_alloc | apply Kd.R_drewN | apply Kd.R_drew)); exact (Kd.R_mono (Kd.R_far (p := ⟨gb749, 1, none⟩) (Kd.R_far (p := ⟨gb749, 0, none⟩) (Kd.R_types HO_699001.out BK749.out (by decide)) (fun _ hk => hk.2) (.slice Ao133 t745.length co133)) (fun _ hk => hk.2) (.int .i64 t748)) (fun _ h_ => h_.1))) hb); have n2_ := Aside0.mk (Kd.R_below (by (with_reducible repeat (first | apply Kd.R_alloc | apply Kd.R_drewN | apply Kd.R_drew)); exact (Kd.R_mono (Kd.R_far (p := ⟨gb749, 1, none⟩) (Kd.R_far (p := ⟨gb749, 0, none⟩) (Kd.R_types HO_704001.out BK749.out (by decide)) (fun _ hk => hk.2) (.slice Ao133 t745.length co133)) (fun _ hk => hk.2) (.int .i64 t748)) (fun _ h_ => h_.1))) hb); have n3_ := Aside0.mk (Kd.R_elder' (by (with_reducible repeat (first | apply Kd.R_alloc | apply Kd.R_drewN | apply Kd.R_drew)); exact (Kd.R_mono (Kd.R_far (p := ⟨gb749, 1, none⟩) (Kd.R_far (p := ⟨gb749, 0, none⟩) (Kd.R_types HO_724000.out BK749.out (by decide)) (fun _ hk => hk.2) (.slice Ao133 t745.length co133)) (fun _ hk => hk.2) (.int .i64 t748)) (fun _ h_ => h_.1))) (Kd.R_base ho0) hb); have n4_ := Aside0.mk (Kd.R_below (by (with_reducible repeat (first | apply Kd.R_alloc | apply Kd.R_drewN | apply Kd.R_drew)); exact (Kd.R_mono (Kd.R_far (p := ⟨gb749, 1, none⟩) (Kd.R_far (p := ⟨gb749, 0, none⟩) (Kd.R_types HO739.out BK749.out (by decide)) (fun _ hk => hk.2) (.slice Ao133 t745.length co133)) (fun _ hk => hk.2) (.int .i64 t748)) (fun _ h_ => h_.1))) hb); have n5_ := Aside0.mk (Kd.R_elder' (by (with_reducible repeat (first | apply Kd.R_alloc | apply Kd.R_drewN | apply Kd.R_drew)); exact (Kd.R_mono (Kd.R_far (p := ⟨gb749, 1, none⟩) (Kd.R_far (p := ⟨gb749, 0, none⟩) (Kd.R_types HO743.out BK749.out (by decide)) (fun _ hk => hk.2) (.slice Ao133 t745.length co133)) (fun _ hk => hk.2) (.int .i64 t748)) (fun _ h_ => h_.1))) (Kd.R_base ho0) hb); have n6_ := Aside0.mk (Kd.R_elder' (by (with_reducible repeat (first | apply Kd.R_alloc | apply Kd.R_drewN | apply Kd.R_drew)); exact (Kd.R_mono (Kd.R_far (p := ⟨gb749, 1, none⟩) (Kd.R_far (p := ⟨gb749, 0, none⟩) (Kd.R_types HO747.out BK749.out (by decide)) (fun _ hk => hk.2) (.slice Ao133 t745.length co133)) (fun _ hk => hk.2) (.int .i64 t748)) (fun _ h_ => h_.1))) (Kd.R_base ho0) hb); have n7_ := Aside0.mk (Kd.R_lower (Kd.R_new' (Kd.R_new' (Kd.R_new' (Kd.R_new' ho0 (Kd.R_lt (by (with_reducible repeat (first | apply Kd.R_alloc | apply Kd.R_drewN | apply Kd.R_drew)); exact (Kd.R_mono (Kd.R_far (p := ⟨gb749, 1, none⟩) (Kd.R_far (p := ⟨gb749, 0, none⟩) (Kd.R_types HO_9.out BK749.out (by decide)) (fun _ hk => hk.2) (.slice Ao133 t745.length co133)) (fun _ hk => hk.2) (.int .i64 t748)) (fun _ h_ => h_.1))))) (Kd.R_lt (by (with_reducible repeat (first | apply Kd.R_alloc | apply Kd.R_drewN | apply Kd.R_drew)); exact (Kd.R_mono (Kd.R_far (p := ⟨gb749, 1, none⟩) (Kd.R_far (p := ⟨gb749, 0, none⟩) (Kd.R_types HO_724000.out BK749.out (by decide)) (fun _ hk => hk.2) (.slice Ao133 t745.length co133)) (fun _ hk => hk.2) (.int .i64 t748)) (fun _ h_ => h_.1))))) (Kd.R_lt (by (with_reducible repeat (first | apply Kd.R_alloc | apply Kd.R_drewN | apply Kd.R_drew)); exact (Kd.R_mono (Kd.R_far (p := ⟨gb749, 1, none⟩) (Kd.R_far (p := ⟨gb749, 0, none⟩) (Kd.R_types HO743.out BK749.out (by decide)) (fun _ hk => hk.2) (.slice Ao133 t745.length co133)) (fun _ hk => hk.2) (.int .i64 t748)) (fun _ h_ => h_.1))))) (Kd.R_lt (by (with_reducible repeat (first | apply Kd.R_alloc | apply Kd.R_drewN | apply Kd.R_drew)); exact (Kd.R_mono (Kd.R_far (p := ⟨gb749, 1, none⟩) (Kd.R_far (p := ⟨gb749, 0, none⟩) (Kd.R_types HO747.out BK749.out (by decide)) (fun _ hk => hk.2) (.slice Ao133 t745.length co133)) (fun _ hk => hk.2) (.int .i64 t748)) (fun _ h_ => h_.1))))) (below_size (by repeat (first | (with_reducible first | exact HB.out | apply below_alloc | apply pw_below_drewN | apply below_drew1 | refine below_set ?_ GE691.out | refine below_set ?_ GE692.out | refine below_set ?_ GE698.out | refine below_set ?_ GE703.out | refine below_set ?_ GE723.out | refine below_set ?_ GE740.out | refine below_set ?_ GE749.out) | exact HB.out)))); have n8_ := Aside0.mk (blk_below (g := gb691) (o := .cells #[.int .u8 a0_0, .int .u8 a0_1, .slice A0_2 l0_2.length c0_2] 24 (0, 0)) (by (with_reducible repeat (first | refine blk_drewN ?_ _ | refine blk_drew ?_ | refine blk_alloc ?_ _)); refine blk_far ?_ NB691_749.out _; (with_reducible repeat (first | refine blk_drewN ?_ _ | refine blk_drew ?_ | refine blk_alloc ?_ _)); refine blk_far ?_ NB691_749.out _; (with_reducible repeat (first | refine blk_drewN ?_ _ | refine blk_drew ?_ | refine blk_alloc ?_ _)); exact BK691.out) hb); have n9_ := Aside0.mk (blk_below (g := gb692) (o := .cells #[.int .u8 a1_0, .int .u8 a1_1] 58 (0, 0)) (by (with_reducible repeat (first | refine blk_drewN ?_ _ | refine blk_drew ?_ | refine blk_alloc ?_ _)); refine blk_far ?_ NB692_749.out _; (with_reducible repeat (first | refine blk_drewN ?_ _ | refine blk_drew ?_ | refine blk_alloc ?_ _)); refine blk_far ?_ NB692_749.out _; (with_reducible repeat (first | refine blk_drewN ?_ _ | refine blk_drew ?_ | refine blk_alloc ?_ _)); exact BK692.out) hb); have n10_ := Aside0.mk (blk_below (g := gb698) (o := .cells #[.int .i64 t694, .slice Ao26 t695.length co26] 31 (0, 0)) (by (with_reducible repeat (first | refine blk_drewN ?_ _ | refine blk_drew ?_ | refine blk_alloc ?_ _)); refine blk_far ?_ NB698_749.out _; (with_reducible repeat (first | refine blk_drewN ?_ _ | refine blk_drew ?_ | refine blk_alloc ?_ _)); refine blk_far ?_ NB698_749.out _; (with_reducible repeat (first | refine blk_drewN ?_ _ | refine blk_drew ?_ | refine blk_alloc ?_ _)); exact BK698.out) hb); have n11_ := Aside0.mk (blk_below (g := gb703) (o := .cells #[.int .i64 t699, .slice Ao33 t700.length co33] 31 (0, 0)) (by (with_reducible repeat (first | refine blk_drewN ?_ _ | refine blk_drew ?_ | refine blk_alloc ?_ _)); refine blk_far ?_ NB703_749.out _; (with_reducible repeat (first | refine blk_drewN ?_ _ | refine blk_drew ?_ | refine blk_alloc ?_ _)); refine blk_far ?_ NB703_749.out _; (with_reducible repeat (first | refine blk_drewN ?_ _ | refine blk_drew ?_ | refine blk_alloc ?_ _)); exact BK703.out) hb); have n12_ := Aside0.mk (blk_below (g := gb723) (o := .cells #[.slice Ao47 t719.length co47, .int .i64 t722] 37 (0, 0)) (by (with_reducible repeat (first | refine blk_drewN ?_ _ | refine blk_drew ?_ | refine blk_alloc ?_ _)); refine blk_far ?_ NB723_749.out _; (with_reducible repeat (first | refine blk_drewN ?_ _ | refine blk_drew ?_ | refine blk_alloc ?_ _)); refine blk_far ?_ NB723_749.out _; (with_reducible repeat (first | refine blk_drewN ?_ _ | refine blk_drew ?_ | refine blk_alloc ?_ _)); exact BK723.out) hb); have n13_ := Aside0.mk (blk_below (g := gb740) (o := .cells #[.int .i64 t736, .slice Ao126 t737.length co126] 31 (0, 0)) (by (with_reducible repeat (first | refine blk_drewN ?_ _ | refine blk_drew ?_ | refine blk_alloc ?_ _)); refine blk_far ?_ NB740_749.out _; (with_reducible repeat (first | refine blk_drewN ?_ _ | refine blk_drew ?_ | refine blk_alloc ?_ _)); refine blk_far ?_ NB740_749.out _; (with_reducible repeat (first | refine blk_drewN ?_ _ | refine blk_drew ?_ | refine blk_alloc ?_ _)); exact BK740.out) hb); have n14_ := Aside0.mk (blk_below (g := gb749) (o := .cells #[.slice Ao133 t745.length co133, .int .i64 t748] 37 (0, 0)) (by (with_reducible repeat (first | refine blk_drewN ?_ _ | refine blk_drew ?_ | refine blk_alloc ?_ _)); refine blk_put (cs := #[.slice Ao133 t745.length co133, .int .i64 0]) ?_ 1 _ rfl; (with_reducible repeat (first | refine blk_drewN ?_ _ | refine blk_drew ?_ | refine blk_alloc ?_ _)); refine blk_put (cs := #[.slice none 0 0, .int .i64 0]) ?_ 0 _ rfl; (with_reducible repeat (first | refine blk_drewN ?_ _ | refine blk_drew ?_ | refine blk_alloc ?_ _)); exact BK749.out) hb); have n15_ := Aside0.mk (below_step (by repeat (first | (with_reducible first | exact HB.out | apply below_alloc | apply pw_below_drewN | apply below_drew1 | refine below_set ?_ GE691.out | refine below_set ?_ GE692.out | refine below_set ?_ GE698.out | refine below_set ?_ GE703.out | refine below_set ?_ GE723.out | refine below_set ?_ GE740.out | refine below_set ?_ GE749.out) | exact HB.out)) hb); clear HO_9; clear HO_699001; clear HO_704001; clear HO_724000; clear HO739; clear HO743; clear HO747; clear BK691; clear BK692; clear BK698; clear BK703; clear BK723; clear BK740; clear BK749; clear HB; have HO_9 := n0_; have HO_699001 := n1_; have HO_704001 := n2_; have HO_724000 := n3_; have HO739 := n4_; have HO743 := n5_; have HO747 := n6_; have HO752 := n7_; have BK691 := n8_; have BK692 := n9_; have BK698 := n10_; have BK703 := n11_; have BK723 := n12_; have BK740 := n13_; have BK749 := n14_; have HB := n15_; clear n0_ n1_ n2_ n3_ n4_ n5_ n6_ n7_ n8_ n9_ n10_ n11_ n12_ n13_ n14_ n15_; (try clear hb); (try clear hb2); (try clear hk); (try clear hi); (try clear ho0); have hcz143_0 : w142.cell? ⟨gb749, 0, none⟩ = some (.slice Ao133 t745.length co133) := (blk_cell BK749.out 0).trans rfl; have hcz143_1 : w142.cell? ⟨gb749, 1, none⟩ = some (.int .i64 t748) := (blk_cell BK749.out 1).trans rfl; have hfz143_0 := blk_frozen BK749.out 0; have hfz143_1 := blk_frozen BK749.out 1) | (go_at_call 31; (with_reducible refine (wireloomref05_In.calls k2 _ _ t745 (Int.tmod (wrap64 (a1_0)) t694) true _ ?side1 ?side2 A100.out).mono ?_); (case side1 => repeat (first | exact (Kd.R_reads' HO747.out).2.2 | (with_reducible refine Kd.C_alloc ?_ _) | (with_reducible refine Kd.C_drewN ?_ _) | (with_reducible refine Kd.C_drew ?_))); (case side2 => exact (Kd.R_reads' HO747.out).2.1); rintro e w' ⟨rfl, ⟨nd, rfl⟩⟩) | (go_at_call 31; (with_reducible refine (wireloomref05_In.calls k2 _ _ t745 (Int.tmod (wrap64 (a1_1)) t694) true _ ?side1 ?side2 A102.out).mono ?_); (case side1 => repeat (first | exact (Kd.R_reads' HO747.out).2.2 | (with_reducible refine Kd.C_alloc ?_ _) | (with_reducible refine Kd.C_drewN ?_ _) | (with_reducible refine Kd.C_drew ?_))); (case side2 => exact (Kd.R_reads' HO747.out).2.1); rintro e w' ⟨rfl, ⟨nd, rfl⟩⟩))
                 go_ret
                 exact ⟨by first | rfl | (simp [errW_none, errW_some] <;> rfl) | (simp [*, errW_none, errW_some] <;> rfl), by repeat (first | (with_reducible first | exact HB.out | apply below_alloc | apply pw_below_drewN | apply below_drew1 | refine below_set ?_ GE691.out | refine below_set ?_ GE692.out | refine below_set ?_ GE698.out | refine below_set ?_ GE703.out | refine below_set ?_ GE723.out | refine below_set ?_ GE740.out | refine below_set ?_ GE749.out) | exact HB.out)⟩
                ·replace c103 := Bool.eq_false_iff.mpr c103
                 subst c103
                 have H1 : (none) = some r := by rw [if_neg (show ¬ (false = true) by decide)] at H; exact H
                 clear H
                 have H := H1
                 clear H1
                 exact absurd H (by simp)
               ·replace c101 := Bool.eq_false_iff.mpr c101
                subst c101
                have H1 : (none) = some r := by rw [if_neg (show ¬ (false = true) by decide)] at H; exact H
                clear H
                have H := H1
                clear H1
                exact absurd H (by simp)
              ·replace c99 := Bool.eq_false_iff.mpr c99
               subst c99
               have H1 : (some true) = some r := by rw [if_neg (show ¬ (false = true) by decide)] at H; exact H
               clear H
               have H := H1
               clear H1
               obtain rfl := Option.some.inj H
               have hnb144 := NB703_691.out
               have hnc144 := NB691_703.out
               have hnb145 := NB703_692.out
               have hnc145 := NB692_703.out
               have hnb146 := NB703_698.out
               have hnc146 := NB698_703.out
               have hnb147 := NB703_723.out
               have hnc147 := NB723_703.out
               have hcz148_0 : wr.cell? ⟨gb703, 0, none⟩ = some (.int .i64 t699) := (blk_cell BK703.out 0).trans rfl
               have hcz148_1 : wr.cell? ⟨gb703, 1, none⟩ = some (.slice Ao33 t700.length co33) := (blk_cell BK703.out 1).trans rfl
               have hfz148_0 := blk_frozen BK703.out 0
               have hfz148_1 := blk_frozen BK703.out 1
               obtain ⟨Ao149, co149, eo149⟩ := Kd.R_slice HO_9.out
               subst eo149
               go_wp2_with (first | ((with_reducible refine gate_callee (f := 21) rfl ?_); refine goesL_ (some 89) rfl rfl Try.func21 (by kernel_rfl) rfl #[.int .i64 t699, .slice Ao33 t700.length co33, .slice Ao149 x9_2.length co149] rfl (by (try simp only [List.map_toArray, List.map_cons, List.map_nil]); first | done | rfl | (simp only [List.length_drop, List.length_take]; rfl)) ?_; (with_reducible refine (digraph_Check.calls t699 _ _ t700 _ _ x9_2 t735 _ ?side1 ?side2 ?side3 ?side4 A89.out).mono ?_); (case side1 => repeat (first | exact (Kd.R_reads' HO_704001.out).2.2 | (with_reducible refine Kd.C_alloc ?_ _) | (with_reducible refine Kd.C_drewN ?_ _) | (with_reducible refine Kd.C_drew ?_))); (case side2 => exact (Kd.R_reads' HO_704001.out).2.1); (case side3 => repeat (first | exact (Kd.R_reads' HO_9.out).2.2 | (with_reducible refine Kd.C_alloc ?_ _) | (with_reducible refine Kd.C_drewN ?_ _) | (with_reducible refine Kd.C_drew ?_))); (case side4 => exact (Kd.R_reads' HO_9.out).2.1); rintro e w150 ⟨rfl, hb⟩; refine ⟨_, rfl, ?_⟩; have n0_ := Aside0.mk (Kd.R_below (rA HO_9.out) hb); have n1_ := Aside0.mk (Kd.R_below (rA HO_699001.out) hb); have n2_ := Aside0.mk (Kd.R_below (rA HO_704001.out) hb); have n3_ := Aside0.mk (Kd.R_below (rA HO_724000.out) hb); have n4_ := Aside0.mk (blk_below (g := gb691) (o := .cells #[.int .u8 a0_0, .int .u8 a0_1, .slice A0_2 l0_2.length c0_2] 24 (0, 0)) (bA BK691.out) hb); have n5_ := Aside0.mk (blk_below (g := gb692) (o := .cells #[.int .u8 a1_0, .int .u8 a1_1] 58 (0, 0)) (bA BK692.out) hb); have n6_ := Aside0.mk (blk_below (g := gb698) (o := .cells #[.int .i64 t694, .slice Ao26 t695.length co26] 31 (0, 0)) (bA BK698.out) hb); have n7_ := Aside0.mk (blk_below (g := gb703) (o := .cells #[.int .i64 t699, .slice Ao33 t700.length co33] 31 (0, 0)) (bA BK703.out) hb); have n8_ := Aside0.mk (blk_below (g := gb723) (o := .cells #[.slice Ao47 t719.length co47, .int .i64 t722] 37 (0, 0)) (bA BK723.out) hb); have n9_ := Aside0.mk (below_step (by repeat (first | (with_reducible first | exact HB.out | apply below_alloc | apply pw_below_drewN | apply below_drew1 | refine below_set ?_ GE691.out | refine below_set ?_ GE692.out | refine below_set ?_ GE698.out | refine below_set ?_ GE703.out | refine below_set ?_ GE723.out) | exact HB.out)) hb); clear HO_9; clear HO_699001; clear HO_704001; clear HO_724000; clear BK691; clear BK692; clear BK698; clear BK703; clear BK723; clear HB; have HO_9 := n0_; have HO_699001 := n1_; have HO_704001 := n2_; have HO_724000 := n3_; have BK691 := n4_; have BK692 := n5_; have BK698 := n6_; have BK703 := n7_; have BK723 := n8_; have HB := n9_; clear n0_ n1_ n2_ n3_ n4_ n5_ n6_ n7_ n8_ n9_; (try clear hb); (try clear hb2); (try clear hk); (try clear hi); have hnb151 := NB692_691.out; have hnc151 := NB691_692.out; have hnb152 := NB692_698.out; have hnc152 := NB698_692.out; have hnb153 := NB692_723.out; have hnc153 := NB723_692.out; have hcz154_0 : w150.cell? ⟨gb692, 0, none⟩ = some (.int .u8 a1_0) := (blk_cell BK692.out 0).trans rfl; have hcz154_1 : w150.cell? ⟨gb692, 1, none⟩ = some (.int .u8 a1_1) := (blk_cell BK692.out 1).trans rfl; have hfz154_0 := blk_frozen BK692.out 0; have hfz154_1 := blk_frozen BK692.out 1; have hnb155 := NB698_691.out; have hnc155 := NB691_698.out; have hnb156 := NB698_723.out; have hnc156 := NB723_698.out; have hcz157_0 : w150.cell? ⟨gb698, 0, none⟩ = some (.int .i64 t694) := (blk_cell BK698.out 0).trans rfl; have hcz157_1 : w150.cell? ⟨gb698, 1, none⟩ = some (.slice Ao26 t695.length co26) := (blk_cell BK698.out 1).trans rfl; have hfz157_0 := blk_frozen BK698.out 0; have hfz157_1 := blk_frozen BK698.out 1) | ((with_reducible refine gate_callee (f := 32) rfl ?_); refine goesL_ (some 106) rfl rfl Try.func32 (by kernel_rfl) rfl #[.agg #[.int .i64 t694, .slice Ao26 t695.length co26], .int .i64 (Int.tmod (wrap64 (a1_0)) t694), .int .i64 (Int.tmod (wrap64 (a1_1)) t694)] rfl (by (try simp only [List.map_toArray, List.map_cons, List.map_nil]); first | done | rfl | (simp only [List.length_drop, List.length_take]; rfl)) ?_; (with_reducible refine (wireloomref05_With.calls t694 _ _ t695 (Int.tmod (wrap64 (a1_0)) t694) (Int.tmod (wrap64 (a1_1)) t694) t736 t737 _ ?side1 ?side2 A92.out).mono ?_); (case side1 => repeat (first | exact (Kd.R_reads' HO_699001.out).2.2 | (with_reducible refine Kd.C_alloc ?_ _) | (with_reducible refine Kd.C_drewN ?_ _) | (with_reducible refine Kd.C_drew ?_))); (case side2 => exact (Kd.R_reads' HO_699001.out).2.1); rintro e w158 ⟨v738, rfl, ho0, hb⟩; refine ⟨_, rfl, ?_⟩; have n0_ := Aside0.mk (Kd.R_below (rA HO_9.out) hb); have n1_ := Aside0.mk (Kd.R_elder' (rA HO_699001.out) (Kd.R_base ho0) hb); have n2_ := Aside0.mk (Kd.R_elder' (rA HO_704001.out) (Kd.R_base ho0) hb); have n3_ := Aside0.mk (Kd.R_below (rA HO_724000.out) hb); have n4_ := Aside0.mk (Kd.R_lower (Kd.R_new' (Kd.R_new' ho0 (Kd.R_lt (rA HO_699001.out))) (Kd.R_lt (rA HO_704001.out))) (below_size (by repeat (first | (with_reducible first | exact HB.out | apply below_alloc | apply pw_below_drewN | apply below_drew1 | refine below_set ?_ GE691.out | refine below_set ?_ GE692.out | refine below_set ?_ GE698.out | refine below_set ?_ GE703.out | refine below_set ?_ GE723.out) | exact HB.out)))); have n5_ := Aside0.mk (blk_below (g := gb691) (o := .cells #[.int .u8 a0_0, .int .u8 a0_1, .slice A0_2 l0_2.length c0_2] 24 (0, 0)) (bA BK691.out) hb); have n6_ := Aside0.mk (blk_below (g := gb692) (o := .cells #[.int .u8 a1_0, .int .u8 a1_1] 58 (0, 0)) (bA BK692.out) hb); have n7_ := Aside0.mk (blk_below (g := gb698) (o := .cells #[.int .i64 t694, .slice Ao26 t695.length co26] 31 (0, 0)) (bA BK698.out) hb); have n8_ := Aside0.mk (blk_below (g := gb703) (o := .cells #[.int .i64 t699, .slice Ao33 t700.length co33] 31 (0, 0)) (bA BK703.out) hb); have n9_ := Aside0.mk (blk_below (g := gb723) (o := .cells #[.slice Ao47 t719.length co47, .int .i64 t722] 37 (0, 0)) (bA BK723.out) hb); have n10_ := Aside0.mk (below_step (by repeat (first | (with_reducible first | exact HB.out | apply below_alloc | apply pw_below_drewN | apply below_drew1 | refine below_set ?_ GE691.out | refine below_set ?_ GE692.out | refine below_set ?_ GE698.out | refine below_set ?_ GE703.out | refine below_set ?_ GE723.out) | exact HB.out)) hb); clear HO_9; clear HO_699001; clear HO_704001; clear HO_724000; clear BK691; clear BK692; clear BK698; clear BK703; clear BK723; clear HB; have HO_9 := n0_; have HO_699001 := n1_; have HO_704001 := n2_; have HO_724000 := n3_; have HO739 := n4_; have BK691 := n5_; have BK692 := n6_; have BK698 := n7_; have BK703 := n8_; have BK723 := n9_; have HB := n10_; clear n0_ n1_ n2_ n3_ n4_ n5_ n6_ n7_ n8_ n9_ n10_; (try clear hb); (try clear hb2); (try clear hk); (try clear hi); (try clear ho0)) | ((with_reducible refine gate_dst (N := 13) rfl ?_); (try (refine gate_guard (by rfl) ?_; dsimp only)); refine box_event ?hg (N := 13) ?hd (cs := #[.int .i64 0, .slice none 0 0]) (t := 31) ?hr ?_; (case hd => rfl); (case hg => rfl); (case hr => first | (go_simp; done) | (go_simp; rfl)); intro gb740 hg w159 hbox hb; have n0_ := Aside0.mk (Kd.R_below (rA HO_9.out) hb); have n1_ := Aside0.mk (Kd.R_below (rA HO_699001.out) hb); have n2_ := Aside0.mk (Kd.R_below (rA HO_704001.out) hb); have n3_ := Aside0.mk (Kd.R_below (rA HO_724000.out) hb); have n4_ := Aside0.mk (Kd.R_below (rA HO739.out) hb); have n5_ := Aside0.mk (blk_below (g := gb691) (o := .cells #[.int .u8 a0_0, .int .u8 a0_1, .slice A0_2 l0_2.length c0_2] 24 (0, 0)) (bA BK691.out) hb); have n6_ := Aside0.mk (blk_below (g := gb692) (o := .cells #[.int .u8 a1_0, .int .u8 a1_1] 58 (0, 0)) (bA BK692.out) hb); have n7_ := Aside0.mk (blk_below (g := gb698) (o := .cells #[.int .i64 t694, .slice Ao26 t695.length co26] 31 (0, 0)) (bA BK698.out) hb); have n8_ := Aside0.mk (blk_below (g := gb703) (o := .cells #[.int .i64 t699, .slice Ao33 t700.length co33] 31 (0, 0)) (bA BK703.out) hb); have n9_ := Aside0.mk (blk_below (g := gb723) (o := .cells #[.slice Ao47 t719.length co47, .int .i64 t722] 37 (0, 0)) (bA BK723.out) hb); have n10_ := Aside0.mk (below_step (by repeat (first | (with_reducible first | exact HB.out | apply below_alloc | apply pw_below_drewN | apply below_drew1 | refine below_set ?_ GE691.out | refine below_set ?_ GE692.out | refine below_set ?_ GE698.out | refine below_set ?_ GE703.out | refine below_set ?_ GE723.out) | exact HB.out)) hb); have n11_ := Aside0.mk (hbox); have n12_ := Aside0.mk ((by rw [hg]; exact (below_size (by repeat (first | (with_reducible first | exact HB.out | apply below_alloc | apply pw_below_drewN | apply below_drew1 | refine below_set ?_ GE691.out | refine below_set ?_ GE692.out | refine below_set ?_ GE698.out | refine below_set ?_ GE703.out | refine below_set ?_ GE723.out) | exact HB.out))) : w.heap.size ≤ gb740)); have n13_ := Aside0.mk ((by rw [hg]; exact (below_size (by repeat (first | (with_reducible first | exact HB.out | apply below_alloc | apply pw_below_drewN | apply below_drew1 | refine below_set ?_ GE691.out | refine below_set ?_ GE692.out | refine below_set ?_ GE698.out | refine below_set ?_ GE703.out | refine below_set ?_ GE723.out) | exact HB.out))) : w.heap.size ≤ gb740)); have n14_ := Aside0.mk ((by rw [hg]; exact Nat.ne_of_lt (blk_lt (g := gb691) (o := .cells #[.int .u8 a0_0, .int .u8 a0_1, .slice A0_2 l0_2.length c0_2] 24 (0, 0)) (bA BK691.out)) : gb691 ≠ gb740)); have n15_ := Aside0.mk ((by rw [hg]; exact Nat.ne_of_gt (blk_lt (g := gb691) (o := .cells #[.int .u8 a0_0, .int .u8 a0_1, .slice A0_2 l0_2.length c0_2] 24 (0, 0)) (bA BK691.out)) : gb740 ≠ gb691)); have n16_ := Aside0.mk ((by rw [hg]; exact Nat.ne_of_lt (blk_lt (g := gb692) (o := .cells #[.int .u8 a1_0, .int .u8 a1_1] 58 (0, 0)) (bA BK692.out)) : gb692 ≠ gb740)); have n17_ := Aside0.mk ((by rw [hg]; exact Nat.ne_of_gt (blk_lt (g := gb692) (o := .cells #[.int .u8 a1_0, .int .u8 a1_1] 58 (0, 0)) (bA BK692.out)) : gb740 ≠ gb692)); have n18_ := Aside0.mk ((by rw [hg]; exact Nat.ne_of_lt (blk_lt (g := gb698) (o := .cells #[.int .i64 t694, .slice Ao26 t695.length co26] 31 (0, 0)) (bA BK698.out)) : gb698 ≠ gb740)); have n19_ := Aside0.mk ((by rw [hg]; exact Nat.ne_of_gt (blk_lt (g := gb698) (o := .cells #[.int .i64 t694, .slice Ao26 t695.length co26] 31 (0, 0)) (bA BK698.out)) : gb740 ≠ gb698)); have n20_ := Aside0.mk ((by rw [hg]; exact Nat.ne_of_lt (blk_lt (g := gb703) (o := .cells #[.int .i64 t699, .slice Ao33 t700.length co33] 31 (0, 0)) (bA BK703.out)) : gb703 ≠ gb740)); have n21_ := Aside0.mk ((by rw [hg]; exact Nat.ne_of_gt (blk_lt (g := gb703) (o := .cells #[.int .i64 t699, .slice Ao33 t700.length co33] 31 (0, 0)) (bA BK703.out)) : gb740 ≠ gb703)); have n22_ := Aside0.mk ((by rw [hg]; exact Nat.ne_of_lt (blk_lt (g := gb723) (o := .cells #[.slice Ao47 t719.length co47, .int .i64 t722] 37 (0, 0)) (bA BK723.out)) : gb723 ≠ gb740)); have n23_ := Aside0.mk ((by rw [hg]; exact Nat.ne_of_gt (blk_lt (g := gb723) (o := .cells #[.slice Ao47 t719.length co47, .int .i64 t722] 37 (0, 0)) (bA BK723.out)) : gb740 ≠ gb723)); clear HO_9; clear HO_699001; clear HO_704001; clear HO_724000; clear HO739; clear BK691; clear BK692; clear BK698; clear BK703; clear BK723; clear HB; have HO_9 := n0_; have HO_699001 := n1_; have HO_704001 := n2_; have HO_724000 := n3_; have HO739 := n4_; have BK691 := n5_; have BK692 := n6_; have BK698 := n7_; have BK703 := n8_; have BK723 := n9_; have HB := n10_; have BK740 := n11_; have GW740 := n12_; have GE740 := n13_; have NB691_740 := n14_; have NB740_691 := n15_; have NB692_740 := n16_; have NB740_692 := n17_; have NB698_740 := n18_; have NB740_698 := n19_; have NB703_740 := n20_; have NB740_703 := n21_; have NB723_740 := n22_; have NB740_723 := n23_; clear n0_ n1_ n2_ n3_ n4_ n5_ n6_ n7_ n8_ n9_ n10_ n11_ n12_ n13_ n14_ n15_ n16_ n17_ n18_ n19_ n20_ n21_ n22_ n23_; clear hb hbox hg; have hnb160 := NB740_691.out; have hnc160 := NB691_740.out; have hnb161 := NB740_692.out; have hnc161 := NB692_740.out; have hnb162 := NB740_698.out; have hnc162 := NB698_740.out; have hnb163 := NB740_703.out; have hnc163 := NB703_740.out; have hnb164 := NB740_723.out; have hnc164 := NB723_740.out; have hcz165_0 : w159.cell? ⟨gb740, 0, none⟩ = some (.int .i64 0) := (blk_cell BK740.out 0).trans rfl; have hcz165_1 : w159.cell? ⟨gb740, 1, none⟩ = some (.slice none 0 0) := (blk_cell BK740.out 1).trans rfl; have hfz165_0 := blk_frozen BK740.out 0; have hfz165_1 := blk_frozen BK740.out 1; obtain ⟨Ao166, co166, eo166⟩ := Kd.R_slice HO739.out; subst eo166; have hcz167_0 : w159.cell? ⟨gb698, 0, none⟩ = some (.int .i64 t694) := (blk_cell BK698.out 0).trans rfl; have hcz167_1 : w159.cell? ⟨gb698, 1, none⟩ = some (.slice Ao26 t695.length co26) := (blk_cell BK698.out 1).trans rfl; have hfz167_0 := blk_frozen BK698.out 0; have hfz167_1 := blk_frozen BK698.out 1) | ((with_reducible refine gate_callee (f := 24) rfl ?_); refine goesL_ (some 112) rfl rfl Try.func24 (by kernel_rfl) rfl #[.int .i64 t694, .slice Ao26 t695.length co26, .int .i64 (Int.tmod (wrap64 (a1_1)) t694)] rfl (by (try simp only [List.map_toArray, List.map_cons, List.map_nil]); first | done | rfl | (simp only [List.length_drop, List.length_take]; rfl)) ?_; (with_reducible refine (digraph_Reach.calls t694 _ _ t695 (Int.tmod (wrap64 (a1_1)) t694) t741 _ ?side1 ?side2 A93.out).mono ?_); (case side1 => refine (Kd.R_reads' (e := 55) (base := w.heap.size) (ok := fun k_ => (some k_ ≠ (.slice Ao33 t700.length co33 : Value).ownBlock ∧ some k_ ≠ (.slice Ao166 t737.length co166 : Value).ownBlock)) (n := t695.length) (c := co26) ?_).2.2; exact (by (with_reducible repeat (first | apply Kd.R_alloc | apply Kd.R_drewN | apply Kd.R_drew)); exact (Kd.R_mono (Kd.R_far (p := ⟨gb740, 1, none⟩) (Kd.R_far (p := ⟨gb740, 0, none⟩) (Kd.R_types HO_699001.out BK740.out (by decide)) (fun _ hk => hk.2) (.int .i64 t736)) (fun _ hk => hk.2) (.slice Ao166 t737.length co166)) (fun _ h_ => h_.1)))); (case side2 => exact (Kd.R_reads' HO_699001.out).2.1); rintro e w168 ⟨v742, rfl, ho0, hb⟩; refine ⟨_, rfl, ?_⟩; have n0_ := Aside0.mk (Kd.R_elder' (by (with_reducible repeat (first | apply Kd.R_alloc | apply Kd.R_drewN | apply Kd.R_drew)); exact (Kd.R_mono (Kd.R_far (p := ⟨gb740, 1, none⟩) (Kd.R_far (p := ⟨gb740, 0, none⟩) (Kd.R_types HO_9.out BK740.out (by decide)) (fun _ hk => hk.2) (.int .i64 t736)) (fun _ hk => hk.2) (.slice Ao166 t737.length co166)) (fun _ h_ => h_.1))) (Kd.R_base ho0) hb); have n1_ := Aside0.mk (Kd.R_below (by (with_reducible repeat (first | apply Kd.R_alloc | apply Kd.R_drewN | apply Kd.R_drew)); exact (Kd.R_mono (Kd.R_far (p := ⟨gb740, 1, none⟩) (Kd.R_far (p := ⟨gb740, 0, none⟩) (Kd.R_types HO_699001.out BK740.out (by decide)) (fun _ hk => hk.2) (.int .i64 t736)) (fun _ hk => hk.2) (.slice Ao166 t737.length co166)) (fun _ h_ => h_.1))) hb); have n2_ := Aside0.mk (Kd.R_below (by (with_reducible repeat (first | apply Kd.R_alloc | apply Kd.R_drewN | apply Kd.R_drew)); exact (Kd.R_mono (Kd.R_far (p := ⟨gb740, 1, none⟩) (Kd.R_far (p := ⟨gb740, 0, none⟩) (Kd.R_types HO_704001.out BK740.out (by decide)) (fun _ hk => hk.2) (.int .i64 t736)) (fun _ hk => hk.2) (.slice Ao166 t737.length co166)) (fun _ h_ => h_.1))) hb); have n3_ := Aside0.mk (Kd.R_elder' (by (with_reducible repeat (first | apply Kd.R_alloc | apply Kd.R_drewN | apply Kd.R_drew)); exact (Kd.R_mono (Kd.R_far (p := ⟨gb740, 1, none⟩) (Kd.R_far (p := ⟨gb740, 0, none⟩) (Kd.R_types HO_724000.out BK740.out (by decide)) (fun _ hk => hk.2) (.int .i64 t736)) (fun _ hk => hk.2) (.slice Ao166 t737.length co166)) (fun _ h_ => h_.1))) (Kd.R_base ho0) hb); have n4_ := Aside0.mk (Kd.R_below (by (with_reducible repeat (first | apply Kd.R_alloc | apply Kd.R_drewN | apply Kd.R_drew)); exact (Kd.R_mono (Kd.R_far (p := ⟨gb740, 1, none⟩) (Kd.R_far (p := ⟨gb740, 0, none⟩) (Kd.R_types HO739.out BK740.out (by decide)) (fun _ hk => hk.2) (.int .i64 t736)) (fun _ hk => hk.2) (.slice Ao166 t737.length co166)) (fun _ h_ => h_.1))) hb); have n5_ := Aside0.mk (Kd.R_lower (Kd.R_new' (Kd.R_new' ho0 (Kd.R_lt (by (with_reducible repeat (first | apply Kd.R_alloc | apply Kd.R_drewN | apply Kd.R_drew)); exact (Kd.R_mono (Kd.R_far (p := ⟨gb740, 1, none⟩) (Kd.R_far (p := ⟨gb740, 0, none⟩) (Kd.R_types HO_9.out BK740.out (by decide)) (fun _ hk => hk.2) (.int .i64 t736)) (fun _ hk => hk.2) (.slice Ao166 t737.length co166)) (fun _ h_ => h_.1))))) (Kd.R_lt (by (with_reducible repeat (first | apply Kd.R_alloc | apply Kd.R_drewN | apply Kd.R_drew)); exact (Kd.R_mono (Kd.R_far (p := ⟨gb740, 1, none⟩) (Kd.R_far (p := ⟨gb740, 0, none⟩) (Kd.R_types HO_724000.out BK740.out (by decide)) (fun _ hk => hk.2) (.int .i64 t736)) (fun _ hk => hk.2) (.slice Ao166 t737.length co166)) (fun _ h_ => h_.1))))) (below_size (by repeat (first | (with_reducible first | exact HB.out | apply below_alloc | apply pw_below_drewN | apply below_drew1 | refine below_set ?_ GE691.out | refine below_set ?_ GE692.out | refine below_set ?_ GE698.out | refine below_set ?_ GE703.out | refine below_set ?_ GE723.out | refine below_set ?_ GE740.out) | exact HB.out)))); have n6_ := Aside0.mk (blk_below (g := gb691) (o := .cells #[.int .u8 a0_0, .int .u8 a0_1, .slice A0_2 l0_2.length c0_2] 24 (0, 0)) (by (with_reducible repeat (first | refine blk_drewN ?_ _ | refine blk_drew ?_ | refine blk_alloc ?_ _)); refine blk_far ?_ NB691_740.out _; (with_reducible repeat (first | refine blk_drewN ?_ _ | refine blk_drew ?_ | refine blk_alloc ?_ _)); refine blk_far ?_ NB691_740.out _; (with_reducible repeat (first | refine blk_drewN ?_ _ | refine blk_drew ?_ | refine blk_alloc ?_ _)); exact BK691.out) hb); have n7_ := Aside0.mk (blk_below (g := gb692) (o := .cells #[.int .u8 a1_0, .int .u8 a1_1] 58 (0, 0)) (by (with_reducible repeat (first | refine blk_drewN ?_ _ | refine blk_drew ?_ | refine blk_alloc ?_ _)); refine blk_far ?_ NB692_740.out _; (with_reducible repeat (first | refine blk_drewN ?_ _ | refine blk_drew ?_ | refine blk_alloc ?_ _)); refine blk_far ?_ NB692_740.out _; (with_reducible repeat (first | refine blk_drewN ?_ _ | refine blk_drew ?_ | refine blk_alloc ?_ _)); exact BK692.out) hb); have n8_ := Aside0.mk (blk_below (g := gb698) (o := .cells #[.int .i64 t694, .slice Ao26 t695.length co26] 31 (0, 0)) (by (with_reducible repeat (first | refine blk_drewN ?_ _ | refine blk_drew ?_ | refine blk_alloc ?_ _)); refine blk_far ?_ NB698_740.out _; (with_reducible repeat (first | refine blk_drewN ?_ _ | refine blk_drew ?_ | refine blk_alloc ?_ _)); refine blk_far ?_ NB698_740.out _; (with_reducible repeat (first | refine blk_drewN ?_ _ | refine blk_drew ?_ | refine blk_alloc ?_ _)); exact BK698.out) hb); have n9_ := Aside0.mk (blk_below (g := gb703) (o := .cells #[.int .i64 t699, .slice Ao33 t700.length co33] 31 (0, 0)) (by (with_reducible repeat (first | refine blk_drewN ?_ _ | refine blk_drew ?_ | refine blk_alloc ?_ _)); refine blk_far ?_ NB703_740.out _; (with_reducible repeat (first | refine blk_drewN ?_ _ | refine blk_drew ?_ | refine blk_alloc ?_ _)); refine blk_far ?_ NB703_740.out _; (with_reducible repeat (first | refine blk_drewN ?_ _ | refine blk_drew ?_ | refine blk_alloc ?_ _)); exact BK703.out) hb); have n10_ := Aside0.mk (blk_below (g := gb723) (o := .cells #[.slice Ao47 t719.length co47, .int .i64 t722] 37 (0, 0)) (by (with_reducible repeat (first | refine blk_drewN ?_ _ | refine blk_drew ?_ | refine blk_alloc ?_ _)); refine blk_far ?_ NB723_740.out _; (with_reducible repeat (first | refine blk_drewN ?_ _ | refine blk_drew ?_ | refine blk_alloc ?_ _)); refine blk_far ?_ NB723_740.out _; (with_reducible repeat (first | refine blk_drewN ?_ _ | refine blk_drew ?_ | refine blk_alloc ?_ _)); exact BK723.out) hb); have n11_ := Aside0.mk (blk_below (g := gb740) (o := .cells #[.int .i64 t736, .slice Ao166 t737.length co166] 31 (0, 0)) (by (with_reducible repeat (first | refine blk_drewN ?_ _ | refine blk_drew ?_ | refine blk_alloc ?_ _)); refine blk_put (cs := #[.int .i64 t736, .slice none 0 0]) ?_ 1 _ rfl; (with_reducible repeat (first | refine blk_drewN ?_ _ | refine blk_drew ?_ | refine blk_alloc ?_ _)); refine blk_put (cs := #[.int .i64 0, .slice none 0 0]) ?_ 0 _ rfl; (with_reducible repeat (first | refine blk_drewN ?_ _ | refine blk_drew ?_ | refine blk_alloc ?_ _)); exact BK740.out) hb); have n12_ := Aside0.mk (below_step (by repeat (first | (with_reducible first | exact HB.out | apply below_alloc | apply pw_below_drewN | apply below_drew1 | refine below_set ?_ GE691.out | refine below_set ?_ GE692.out | refine below_set ?_ GE698.out | refine below_set ?_ GE703.out | refine below_set ?_ GE723.out | refine below_set ?_ GE740.out) | exact HB.out)) hb); clear HO_9; clear HO_699001; clear HO_704001; clear HO_724000; clear HO739; clear BK691; clear BK692; clear BK698; clear BK703; clear BK723; clear BK740; clear HB; have HO_9 := n0_; have HO_699001 := n1_; have HO_704001 := n2_; have HO_724000 := n3_; have HO739 := n4_; have HO743 := n5_; have BK691 := n6_; have BK692 := n7_; have BK698 := n8_; have BK703 := n9_; have BK723 := n10_; have BK740 := n11_; have HB := n12_; clear n0_ n1_ n2_ n3_ n4_ n5_ n6_ n7_ n8_ n9_ n10_ n11_ n12_; (try clear hb); (try clear hb2); (try clear hk); (try clear hi); (try clear ho0); obtain ⟨Ao169, co169, eo169⟩ := Kd.R_slice HO743.out; subst eo169) | ((with_reducible refine gate_callee (f := 31) rfl ?_); refine goesL_ (some 114) rfl rfl Try.func31 (by kernel_rfl) rfl #[.slice Ao169 t741.length co169, .int .i64 (Int.tmod (wrap64 (a1_0)) t694)] rfl (by (try simp only [List.map_toArray, List.map_cons, List.map_nil]); first | done | rfl | (simp only [List.length_drop, List.length_take]; rfl)) ?_; (with_reducible refine (wireloomref05_In.calls k2 _ _ t741 (Int.tmod (wrap64 (a1_0)) t694) false _ ?side1 ?side2 A94.out).mono ?_); (case side1 => repeat (first | exact (Kd.R_reads' HO743.out).2.2 | (with_reducible refine Kd.C_alloc ?_ _) | (with_reducible refine Kd.C_drewN ?_ _) | (with_reducible refine Kd.C_drew ?_))); (case side2 => exact (Kd.R_reads' HO743.out).2.1); rintro e w' ⟨rfl, ⟨nd, rfl⟩⟩; refine ⟨_, rfl, ?_⟩; (try (rw [drewN_self w168]; generalize hq_ : World.drewN w168 _ = w168; have n0_ : Aside0 (Kd.R k55 55 w168 w.heap.size (fun k_ => some k_ ≠ (.slice Ao26 t695.length co26 : Value).ownBlock ∧ some k_ ≠ (.slice Ao33 t700.length co33 : Value).ownBlock) (.slice Ao166 t737.length co166) t737) := ⟨by rw [← hq_]; exact (by (with_reducible repeat (first | apply Kd.R_alloc | apply Kd.R_drewN | apply Kd.R_drew)); exact Kd.R_mono HO739.out (fun _ hk => ⟨hk.1.2, hk.2⟩))⟩; have n1_ : Aside0 (Kd.R (Kd.int .i64) 3 w168 w.heap.size (fun k_ => some k_ ≠ (.slice Ao47 t719.length co47 : Value).ownBlock ∧ some k_ ≠ (.slice Ao149 x9_2.length co149 : Value).ownBlock) (.slice Ao169 t741.length co169) t741) := ⟨by rw [← hq_]; exact (by (with_reducible repeat (first | apply Kd.R_alloc | apply Kd.R_drewN | apply Kd.R_drew)); exact Kd.R_mono HO743.out (fun _ hk => ⟨hk.2, hk.1.2⟩))⟩; have n2_ : Aside0 (Kd.R k55 55 w168 w.heap.size (fun k_ => some k_ ≠ (.slice Ao166 t737.length co166 : Value).ownBlock ∧ some k_ ≠ (.slice Ao33 t700.length co33 : Value).ownBlock) (.slice Ao26 t695.length co26) t695) := ⟨by rw [← hq_]; exact (by (with_reducible repeat (first | apply Kd.R_alloc | apply Kd.R_drewN | apply Kd.R_drew)); exact Kd.R_mono HO_699001.out (fun _ hk => ⟨hk.2, hk.1⟩))⟩; have n3_ : Aside0 (Kd.R k55 55 w168 w.heap.size (fun k_ => some k_ ≠ (.slice Ao166 t737.length co166 : Value).ownBlock ∧ some k_ ≠ (.slice Ao26 t695.length co26 : Value).ownBlock) (.slice Ao33 t700.length co33) t700) := ⟨by rw [← hq_]; exact (by (with_reducible repeat (first | apply Kd.R_alloc | apply Kd.R_drewN | apply Kd.R_drew)); exact Kd.R_mono HO_704001.out (fun _ hk => ⟨hk.2, hk.1⟩))⟩; have n4_ : Aside0 (Kd.R (Kd.int .i64) 3 w168 w.heap.size (fun k_ => some k_ ≠ (.slice Ao169 t741.length co169 : Value).ownBlock ∧ some k_ ≠ (.slice Ao149 x9_2.length co149 : Value).ownBlock) (.slice Ao47 t719.length co47) t719) := ⟨by rw [← hq_]; exact (by (with_reducible repeat (first | apply Kd.R_alloc | apply Kd.R_drewN | apply Kd.R_drew)); exact Kd.R_mono HO_724000.out (fun _ hk => ⟨hk.2, hk.1⟩))⟩; have n5_ : Aside0 (Kd.R (Kd.int .i64) 3 w168 w.heap.size (fun k_ => some k_ ≠ (.slice Ao169 t741.length co169 : Value).ownBlock ∧ some k_ ≠ (.slice Ao47 t719.length co47 : Value).ownBlock) (.slice Ao149 x9_2.length co149) x9_2) := ⟨by rw [← hq_]; exact (by (with_reducible repeat (first | apply Kd.R_alloc | apply Kd.R_drewN | apply Kd.R_drew)); exact Kd.R_mono HO_9.out (fun _ hk => ⟨hk.2, hk.1⟩))⟩; have n6_ : Aside0 (w168.heap[gb691]? = some (.cells #[.int .u8 a0_0, .int .u8 a0_1, .slice A0_2 l0_2.length c0_2] 24 (0, 0))) := ⟨by rw [← hq_]; exact (bA BK691.out)⟩; have n7_ : Aside0 (w168.heap[gb692]? = some (.cells #[.int .u8 a1_0, .int .u8 a1_1] 58 (0, 0))) := ⟨by rw [← hq_]; exact (bA BK692.out)⟩; have n8_ : Aside0 (w168.heap[gb698]? = some (.cells #[.int .i64 t694, .slice Ao26 t695.length co26] 31 (0, 0))) := ⟨by rw [← hq_]; exact (bA BK698.out)⟩; have n9_ : Aside0 (w168.heap[gb703]? = some (.cells #[.int .i64 t699, .slice Ao33 t700.length co33] 31 (0, 0))) := ⟨by rw [← hq_]; exact (bA BK703.out)⟩; have n10_ : Aside0 (w168.heap[gb723]? = some (.cells #[.slice Ao47 t719.length co47, .int .i64 t722] 37 (0, 0))) := ⟨by rw [← hq_]; exact (bA BK723.out)⟩; have n11_ : Aside0 (w168.heap[gb740]? = some (.cells #[.int .i64 t736, .slice Ao166 t737.length co166] 31 (0, 0))) := ⟨by rw [← hq_]; exact (bA BK740.out)⟩; have n12_ : Aside0 (Below w.heap.size w w168) := ⟨by rw [← hq_]; exact (by repeat (first | (with_reducible first | exact HB.out | apply below_alloc | apply pw_below_drewN | apply below_drew1 | refine below_set ?_ GE691.out | refine below_set ?_ GE692.out | refine below_set ?_ GE698.out | refine below_set ?_ GE703.out | refine below_set ?_ GE723.out | refine below_set ?_ GE740.out) | exact HB.out))⟩; clear HO739 HO743 HO_699001 HO_704001 HO_724000 HO_9 BK691 BK692 BK698 BK703 BK723 BK740 HB hq_; have HO739 := n0_; have HO743 := n1_; have HO_699001 := n2_; have HO_704001 := n3_; have HO_724000 := n4_; have HO_9 := n5_; have BK691 := n6_; have BK692 := n7_; have BK698 := n8_; have BK703 := n9_; have BK723 := n10_; have BK740 := n11_; have HB := n12_; clear n0_ n1_ n2_ n3_ n4_ n5_ n6_ n7_ n8_ n9_ n10_ n11_ n12_)); have hcz170_0 : w168.cell? ⟨gb740, 0, none⟩ = some (.int .i64 t736) := (blk_cell BK740.out 0).trans rfl; have hcz170_1 : w168.cell? ⟨gb740, 1, none⟩ = some (.slice Ao166 t737.length co166) := (blk_cell BK740.out 1).trans rfl; have hfz170_0 := blk_frozen BK740.out 0; have hfz170_1 := blk_frozen BK740.out 1) | ((with_reducible refine gate_callee (f := 17) rfl ?_); refine goesL_ (some 116) rfl rfl Try.func17 (by kernel_rfl) rfl #[.agg #[.int .i64 t736, .slice Ao166 t737.length co166]] rfl (by (try simp only [List.map_toArray, List.map_cons, List.map_nil]); first | done | rfl | (simp only [List.length_drop, List.length_take]; rfl)) ?_; (with_reducible refine (wireloomlaw05_cycle.calls t736 _ _ t737 t745 t748 _ ?side1 ?side2 A95.out).mono ?_); (case side1 => repeat (first | exact (Kd.R_reads' HO739.out).2.2 | (with_reducible refine Kd.C_alloc ?_ _) | (with_reducible refine Kd.C_drewN ?_ _) | (with_reducible refine Kd.C_drew ?_))); (case side2 => exact (Kd.R_reads' HO739.out).2.1); rintro e w171 ⟨v746, rfl, ho0, hb⟩; refine ⟨_, rfl, ?_⟩; have n0_ := Aside0.mk (Kd.R_elder' (rA HO_9.out) (Kd.R_base ho0) hb); have n1_ := Aside0.mk (Kd.R_below (rA HO_699001.out) hb); have n2_ := Aside0.mk (Kd.R_below (rA HO_704001.out) hb); have n3_ := Aside0.mk (Kd.R_elder' (rA HO_724000.out) (Kd.R_base ho0) hb); have n4_ := Aside0.mk (Kd.R_below (rA HO739.out) hb); have n5_ := Aside0.mk (Kd.R_elder' (rA HO743.out) (Kd.R_base ho0) hb); have n6_ := Aside0.mk (Kd.R_lower (Kd.R_new' (Kd.R_new' (Kd.R_new' ho0 (Kd.R_lt (rA HO_9.out))) (Kd.R_lt (rA HO_724000.out))) (Kd.R_lt (rA HO743.out))) (below_size (by repeat (first | (with_reducible first | exact HB.out | apply below_alloc | apply pw_below_drewN | apply below_drew1 | refine below_set ?_ GE691.out | refine below_set ?_ GE692.out | refine below_set ?_ GE698.out | refine below_set ?_ GE703.out | refine below_set ?_ GE723.out | refine below_set ?_ GE740.out) | exact HB.out)))); have n7_ := Aside0.mk (blk_below (g := gb691) (o := .cells #[.int .u8 a0_0, .int .u8 a0_1, .slice A0_2 l0_2.length c0_2] 24 (0, 0)) (bA BK691.out) hb); have n8_ := Aside0.mk (blk_below (g := gb692) (o := .cells #[.int .u8 a1_0, .int .u8 a1_1] 58 (0, 0)) (bA BK692.out) hb); have n9_ := Aside0.mk (blk_below (g := gb698) (o := .cells #[.int .i64 t694, .slice Ao26 t695.length co26] 31 (0, 0)) (bA BK698.out) hb); have n10_ := Aside0.mk (blk_below (g := gb703) (o := .cells #[.int .i64 t699, .slice Ao33 t700.length co33] 31 (0, 0)) (bA BK703.out) hb); have n11_ := Aside0.mk (blk_below (g := gb723) (o := .cells #[.slice Ao47 t719.length co47, .int .i64 t722] 37 (0, 0)) (bA BK723.out) hb); have n12_ := Aside0.mk (blk_below (g := gb740) (o := .cells #[.int .i64 t736, .slice Ao166 t737.length co166] 31 (0, 0)) (bA BK740.out) hb); have n13_ := Aside0.mk (below_step (by repeat (first | (with_reducible first | exact HB.out | apply below_alloc | apply pw_below_drewN | apply below_drew1 | refine below_set ?_ GE691.out | refine below_set ?_ GE692.out | refine below_set ?_ GE698.out | refine below_set ?_ GE703.out | refine below_set ?_ GE723.out | refine below_set ?_ GE740.out) | exact HB.out)) hb); clear HO_9; clear HO_699001; clear HO_704001; clear HO_724000; clear HO739; clear HO743; clear BK691; clear BK692; clear BK698; clear BK703; clear BK723; clear BK740; clear HB; have HO_9 := n0_; have HO_699001 := n1_; have HO_704001 := n2_; have HO_724000 := n3_; have HO739 := n4_; have HO743 := n5_; have HO747 := n6_; have BK691 := n7_; have BK692 := n8_; have BK698 := n9_; have BK703 := n10_; have BK723 := n11_; have BK740 := n12_; have HB := n13_; clear n0_ n1_ n2_ n3_ n4_ n5_ n6_ n7_ n8_ n9_ n10_ n11_ n12_ n13_; (try clear hb); (try clear hb2); (try clear hk); (try clear hi); (try clear ho0)) | ((with_reducible refine gate_dst (N := 15) rfl ?_); (try (refine gate_guard (by rfl) ?_; dsimp only)); refine box_event ?hg (N := 15) ?hd (cs := #[.slice none 0 0, .int .i64 0]) (t := 37) ?hr ?_; (case hd => rfl); (case hg => rfl); (case hr => first | (go_simp; done) | (go_simp; rfl)); intro gb749 hg w172 hbox hb; have n0_ := Aside0.mk (Kd.R_below (rA HO_9.out) hb); have n1_ := Aside0.mk (Kd.R_below (rA HO_699001.out) hb); have n2_ := Aside0.mk (Kd.R_below (rA HO_704001.out) hb); have n3_ := Aside0.mk (Kd.R_below (rA HO_724000.out) hb); have n4_ := Aside0.mk (Kd.R_below (rA HO739.out) hb); have n5_ := Aside0.mk (Kd.R_below (rA HO743.out) hb); have n6_ := Aside0.mk (Kd.R_below (rA HO747.out) hb); have n7_ := Aside0.mk (blk_below (g := gb691) (o := .cells #[.int .u8 a0_0, .int .u8 a0_1, .slice A0_2 l0_2.length c0_2] 24 (0, 0)) (bA BK691.out) hb); have n8_ := Aside0.mk (blk_below (g := gb692) (o := .cells #[.int .u8 a1_0, .int .u8 a1_1] 58 (0, 0)) (bA BK692.out) hb); have n9_ := Aside0.mk (blk_below (g := gb698) (o := .cells #[.int .i64 t694, .slice Ao26 t695.length co26] 31 (0, 0)) (bA BK698.out) hb); have n10_ := Aside0.mk (blk_below (g := gb703) (o := .cells #[.int .i64 t699, .slice Ao33 t700.length co33] 31 (0, 0)) (bA BK703.out) hb); have n11_ := Aside0.mk (blk_below (g := gb723) (o := .cells #[.slice Ao47 t719.length co47, .int .i64 t722] 37 (0, 0)) (bA BK723.out) hb); have n12_ := Aside0.mk (blk_below (g := gb740) (o := .cells #[.int .i64 t736, .slice Ao166 t737.length co166] 31 (0, 0)) (bA BK740.out) hb); have n13_ := Aside0.mk (below_step (by repeat (first | (with_reducible first | exact HB.out | apply below_alloc | apply pw_below_drewN | apply below_drew1 | refine below_set ?_ GE691.out | refine below_set ?_ GE692.out | refine below_set ?_ GE698.out | refine below_set ?_ GE703.out | refine below_set ?_ GE723.out | refine below_set ?_ GE740.out) | exact HB.out)) hb); have n14_ := Aside0.mk (hbox); have n15_ := Aside0.mk ((by rw [hg]; exact (below_size (by repeat (first | (with_reducible first | exact HB.out | apply below_alloc | apply pw_below_drewN | apply below_drew1 | refine below_set ?_ GE691.out | refine below_set ?_ GE692.out | refine below_set ?_ GE698.out | refine below_set ?_ GE703.out | refine below_set ?_ GE723.out | refine below_set ?_ GE740.out) | exact HB.out))) : w.heap.size ≤ gb749)); have n16_ := Aside0.mk ((by rw [hg]; exact (below_size (by repeat (first | (with_reducible first | exact HB.out | apply below_alloc | apply pw_below_drewN | apply below_drew1 | refine below_set ?_ GE691.out | refine below_set ?_ GE692.out | refine below_set ?_ GE698.out | refine below_set ?_ GE703.out | refine below_set ?_ GE723.out | refine below_set ?_ GE740.out) | exact HB.out))) : w.heap.size ≤ gb749)); have n17_ := Aside0.mk ((by rw [hg]; exact Nat.ne_of_lt (blk_lt (g := gb691) (o := .cells #[.int .u8 a0_0, .int .u8 a0_1, .slice A0_2 l0_2.length c0_2] 24 (0, 0)) (bA BK691.out)) : gb691 ≠ gb749)); have n18_ := Aside0.mk ((by rw [hg]; exact Nat.ne_of_gt (blk_lt (g := gb691) (o := .cells #[.int .u8 a0_0, .int .u8 a0_1, .slice A0_2 l0_2.length c0_2] 24 (0, 0)) (bA BK691.out)) : gb749 ≠ gb691)); have n19_ := Aside0.mk ((by rw [hg]; exact Nat.ne_of_lt (blk_lt (g := gb692) (o := .cells #[.int .u8 a1_0, .int .u8 a1_1] 58 (0, 0)) (bA BK692.out)) : gb692 ≠ gb749)); have n20_ := Aside0.mk ((by rw [hg]; exact Nat.ne_of_gt (blk_lt (g := gb692) (o := .cells #[.int .u8 a1_0, .int .u8 a1_1] 58 (0, 0)) (bA BK692.out)) : gb749 ≠ gb692)); have n21_ := Aside0.mk ((by rw [hg]; exact Nat.ne_of_lt (blk_lt (g := gb698) (o := .cells #[.int .i64 t694, .slice Ao26 t695.length co26] 31 (0, 0)) (bA BK698.out)) : gb698 ≠ gb749)); have n22_ := Aside0.mk ((by rw [hg]; exact Nat.ne_of_gt (blk_lt (g := gb698) (o := .cells #[.int .i64 t694, .slice Ao26 t695.length co26] 31 (0, 0)) (bA BK698.out)) : gb749 ≠ gb698)); have n23_ := Aside0.mk ((by rw [hg]; exact Nat.ne_of_lt (blk_lt (g := gb703) (o := .cells #[.int .i64 t699, .slice Ao33 t700.length co33] 31 (0, 0)) (bA BK703.out)) : gb703 ≠ gb749)); have n24_ := Aside0.mk ((by rw [hg]; exact Nat.ne_of_gt (blk_lt (g := gb703) (o := .cells #[.int .i64 t699, .slice Ao33 t700.length co33] 31 (0, 0)) (bA BK703.out)) : gb749 ≠ gb703)); have n25_ := Aside0.mk ((by rw [hg]; exact Nat.ne_of_lt (blk_lt (g := gb723) (o := .cells #[.slice Ao47 t719.length co47, .int .i64 t722] 37 (0, 0)) (bA BK723.out)) : gb723 ≠ gb749)); have n26_ := Aside0.mk ((by rw [hg]; exact Nat.ne_of_gt (blk_lt (g := gb723) (o := .cells #[.slice Ao47 t719.length co47, .int .i64 t722] 37 (0, 0)) (bA BK723.out)) : gb749 ≠ gb723)); have n27_ := Aside0.mk ((by rw [hg]; exact Nat.ne_of_lt (blk_lt (g := gb740) (o := .cells #[.int .i64 t736, .slice Ao166 t737.length co166] 31 (0, 0)) (bA BK740.out)) : gb740 ≠ gb749)); have n28_ := Aside0.mk ((by rw [hg]; exact Nat.ne_of_gt (blk_lt (g := gb740) (o := .cells #[.int .i64 t736, .slice Ao166 t737.length co166] 31 (0, 0)) (bA BK740.out)) : gb749 ≠ gb740)); clear HO_9; clear HO_699001; clear HO_704001; clear HO_724000; clear HO739; clear HO743; clear HO747; clear BK691; clear BK692; clear BK698; clear BK703; clear BK723; clear BK740; clear HB; have HO_9 := n0_; have HO_699001 := n1_; have HO_704001 := n2_; have HO_724000 := n3_; have HO739 := n4_; have HO743 := n5_; have HO747 := n6_; have BK691 := n7_; have BK692 := n8_; have BK698 := n9_; have BK703 := n10_; have BK723 := n11_; have BK740 := n12_; have HB := n13_; have BK749 := n14_; have GW749 := n15_; have GE749 := n16_; have NB691_749 := n17_; have NB749_691 := n18_; have NB692_749 := n19_; have NB749_692 := n20_; have NB698_749 := n21_; have NB749_698 := n22_; have NB703_749 := n23_; have NB749_703 := n24_; have NB723_749 := n25_; have NB749_723 := n26_; have NB740_749 := n27_; have NB749_740 := n28_; clear n0_ n1_ n2_ n3_ n4_ n5_ n6_ n7_ n8_ n9_ n10_ n11_ n12_ n13_ n14_ n15_ n16_ n17_ n18_ n19_ n20_ n21_ n22_ n23_ n24_ n25_ n26_ n27_ n28_; clear hb hbox hg; obtain ⟨Ao173, co173, eo173⟩ := Kd.R_slice HO747.out; subst eo173; have hnb174 := NB749_691.out; have hnc174 := NB691_749.out; have hnb175 := NB749_692.out; have hnc175 := NB692_749.out; have hnb176 := NB749_698.out; have hnc176 := NB698_749.out; have hnb177 := NB749_703.out; have hnc177 := NB703_749.out; have hnb178 := NB749_723.out; have hnc178 := NB723_749.out; have hnb179 := NB749_740.out; have hnc179 := NB740_749.out; have hcz180_0 : w172.cell? ⟨gb749, 0, none⟩ = some (.slice none 0 0) := (blk_cell BK749.out 0).trans rfl; have hcz180_1 : w172.cell? ⟨gb749, 1, none⟩ = some (.int .i64 0) := (blk_cell BK749.out 1).trans rfl; have hfz180_0 := blk_frozen BK749.out 0; have hfz180_1 := blk_frozen BK749.out 1; have hcz181_0 : w172.cell? ⟨gb740, 0, none⟩ = some (.int .i64 t736) := (blk_cell BK740.out 0).trans rfl; have hcz181_1 : w172.cell? ⟨gb740, 1, none⟩ = some (.slice Ao166 t737.length co166) := (blk_cell BK740.out 1).trans rfl; have hfz181_0 := blk_frozen BK740.out 0; have hfz181_1 := blk_frozen BK740.out 1) | ((with_reducible refine gate_callee (f := 15) rfl ?_); refine goesL_ (some 118) rfl rfl Try.func15 (by kernel_rfl) rfl #[.agg #[.int .i64 t736, .slice Ao166 t737.length co166]] rfl (by (try simp only [List.map_toArray, List.map_cons, List.map_nil]); first | done | rfl | (simp only [List.length_drop, List.length_take]; rfl)) ?_; (with_reducible refine (wireloomlaw05_order.calls t736 _ _ t737 t750 t753 _ ?side1 ?side2 A96.out).mono ?_); (case side1 => refine (Kd.R_reads' (e := 55) (base := w.heap.size) (ok := fun k_ => (some k_ ≠ (.slice Ao26 t695.length co26 : Value).ownBlock ∧ some k_ ≠ (.slice Ao33 t700.length co33 : Value).ownBlock)) (n := t737.length) (c := co166) ?_).2.2; exact (by (with_reducible repeat (first | apply Kd.R_alloc | apply Kd.R_drewN | apply Kd.R_drew)); exact (Kd.R_mono (Kd.R_far (p := ⟨gb749, 1, none⟩) (Kd.R_far (p := ⟨gb749, 0, none⟩) (Kd.R_types HO739.out BK749.out (by decide)) (fun _ hk => hk.2) (.slice Ao173 t745.length co173)) (fun _ hk => hk.2) (.int .i64 t748)) (fun _ h_ => h_.1)))); (case side2 => exact (Kd.R_reads' HO739.out).2.1); rintro e w182 ⟨v751, rfl, ho0, hb⟩; refine ⟨_, rfl, ?_⟩; have n0_ := Aside0.mk (Kd.R_elder' (by (with_reducible repeat (first | apply Kd.R_alloc | apply Kd.R_drewN | apply Kd.R_drew)); exact (Kd.R_mono (Kd.R_far (p := ⟨gb749, 1, none⟩) (Kd.R_far (p := ⟨gb749, 0, none⟩) (Kd.R_types HO_9.out BK749.out (by decide)) (fun _ hk => hk.2) (.slice Ao173 t745.length co173)) (fun _ hk => hk.2) (.int .i64 t748)) (fun _ h_ => h_.1))) (Kd.R_base ho0) hb); have n1_ := Aside0.mk (Kd.R_below (by (with_reducible repeat (first | apply Kd.R_alloc | apply Kd.R_drewN | apply Kd.R_drew)); exact (Kd.R_mono (Kd.R_far (p := ⟨gb749, 1, none⟩) (Kd.R_far (p := ⟨gb749, 0, none⟩) (Kd.R_types HO_699001.out BK749.out (by decide)) (fun _ hk => hk.2) (.slice Ao173 t745.length co173)) (fun _ hk => hk.2) (.int .i64 t748)) (fun _ h_ => h_.1))) hb); have n2_ := Aside0.mk (Kd.R_below (by (with_reducible repeat (first | apply Kd.R_alloc | apply Kd.R_drewN | apply Kd.R_drew)); exact (Kd.R_mono (Kd.R_far (p := ⟨gb749, 1, none⟩) (Kd.R_far (p := ⟨gb749, 0, none⟩) (Kd.R_types HO_704001.out BK749.out (by decide)) (fun _ hk => hk.2) (.slice Ao173 t745.length co173)) (fun _ hk => hk.2) (.int .i64 t748)) (fun _ h_ => h_.1))) hb); have n3_ := Aside0.mk (Kd.R_elder' (by (with_reducible repeat (first | apply Kd.R_alloc | apply Kd.R_drewN | apply Kd.R_drew)); exact (Kd.R_mono (Kd.R_far (p := ⟨gb749, 1, none⟩) (Kd.R_far (p := ⟨gb749, 0, none⟩) (Kd.R_types HO_724000.out BK749.out (by decide)) (fun _ hk => hk.2) (.slice Ao173 t745.length co173)) (fun _ hk => hk.2) (.int .i64 t748)) (fun _ h_ => h_.1))) (Kd.R_base ho0) hb); have n4_ := Aside0.mk (Kd.R_below (by (with_reducible repeat (first | apply Kd.R_alloc | apply Kd.R_drewN | apply Kd.R_drew)); exact (Kd.R_mono (Kd.R_far (p := ⟨gb749, 1, none⟩) (Kd.R_far (p := ⟨gb749, 0, none⟩) (Kd.R_types HO739.out BK749.out (by decide)) (fun _ hk => hk.2) (.slice Ao173 t745.length co173)) (fun _ hk => hk.2) (.int .i64 t748)) (fun _ h_ => h_.1))) hb); have n5_ := Aside0.mk (Kd.R_elder' (by (with_reducible repeat (first | apply Kd.R_alloc | apply Kd.R_drewN | apply Kd.R_drew)); exact (Kd.R_mono (Kd.R_far (p := ⟨gb749, 1, none⟩) (Kd.R_far (p := ⟨gb749, 0, none⟩) (Kd.R_types HO743.out BK749.out (by decide)) (fun _ hk => hk.2) (.slice Ao173 t745.length co173)) (fun _ hk => hk.2) (.int .i64 t748)) (fun _ h_ => h_.1))) (Kd.R_base ho0) hb); have n6_ := Aside0.mk (Kd.R_elder' (by (with_reducible repeat (first | apply Kd.R_alloc | apply Kd.R_drewN | apply Kd.R_drew)); exact (Kd.R_mono (Kd.R_far (p := ⟨gb749, 1, none⟩) (Kd.R_far (p := ⟨gb749, 0, none⟩) (Kd.R_types HO747.out BK749.out (by decide)) (fun _ hk => hk.2) (.slice Ao173 t745.length co173)) (fun _ hk => hk.2) (.int .i64 t748)) (fun _ h_ => h_.1))) (Kd.R_base ho0) hb); have n7_ := Aside0.mk (Kd.R_lower (Kd.R_new' (Kd.R_new' (Kd.R_new' (Kd.R_new' ho0 (Kd.R_lt (by (with_reducible repeat (first | apply Kd.R_alloc | apply Kd.R_drewN | apply Kd.R_drew)); exact (Kd.R_mono (Kd.R_far (p := ⟨gb749, 1, none⟩) (Kd.R_far (p := ⟨gb749, 0, none⟩) (Kd.R_types HO_9.out BK749.out (by decide)) (fun _ hk => hk.2) (.slice Ao173 t745.length co173)) (fun _ hk => hk.2) (.int .i64 t748)) (fun _ h_ => h_.1))))) (Kd.R_lt (by (with_reducible repeat (first | apply Kd.R_alloc | apply Kd.R_drewN | apply Kd.R_drew)); exact (Kd.R_mono (Kd.R_far (p := ⟨gb749, 1, none⟩) (Kd.R_far (p := ⟨gb749, 0, none⟩) (Kd.R_types HO_724000.out BK749.out (by decide)) (fun _ hk => hk.2) (.slice Ao173 t745.length co173)) (fun _ hk => hk.2) (.int .i64 t748)) (fun _ h_ => h_.1))))) (Kd.R_lt (by (with_reducible repeat (first | apply Kd.R_alloc | apply Kd.R_drewN | apply Kd.R_drew)); exact (Kd.R_mono (Kd.R_far (p := ⟨gb749, 1, none⟩) (Kd.R_far (p := ⟨gb749, 0, none⟩) (Kd.R_types HO743.out BK749.out (by decide)) (fun _ hk => hk.2) (.slice Ao173 t745.length co173)) (fun _ hk => hk.2) (.int .i64 t748)) (fun _ h_ => h_.1))))) (Kd.R_lt (by (with_reducible repeat (first | apply Kd.R_alloc | apply Kd.R_drewN | apply Kd.R_drew)); exact (Kd.R_mono (Kd.R_far (p := ⟨gb749, 1, none⟩) (Kd.R_far (p := ⟨gb749, 0, none⟩) (Kd.R_types HO747.out BK749.out (by decide)) (fun _ hk => hk.2) (.slice Ao173 t745.length co173)) (fun _ hk => hk.2) (.int .i64 t748)) (fun _ h_ => h_.1))))) (below_size (by repeat (first | (with_reducible first | exact HB.out | apply below_alloc | apply pw_below_drewN | apply below_drew1 | refine below_set ?_ GE691.out | refine below_set ?_ GE692.out | refine below_set ?_ GE698.out | refine below_set ?_ GE703.out | refine below_set ?_ GE723.out | refine below_set ?_ GE740.out | refine below_set ?_ GE749.out) | exact HB.out)))); have n8_ := Aside0.mk (blk_below (g := gb691) (o := .cells #[.int .u8 a0_0, .int .u8 a0_1, .slice A0_2 l0_2.length c0_2] 24 (0, 0)) (by (with_reducible repeat (first | refine blk_drewN ?_ _ | refine blk_drew ?_ | refine blk_alloc ?_ _)); refine blk_far ?_ NB691_749.out _; (with_reducible repeat (first | refine blk_drewN ?_ _ | refine blk_drew ?_ | refine blk_alloc ?_ _)); refine blk_far ?_ NB691_749.out _; (with_reducible repeat (first | refine blk_drewN ?_ _ | refine blk_drew ?_ | refine blk_alloc ?_ _)); exact BK691.out) hb); have n9_ := Aside0.mk (blk_below (g := gb692) (o := .cells #[.int .u8 a1_0, .int .u8 a1_1] 58 (0, 0)) (by (with_reducible repeat (first | refine blk_drewN ?_ _ | refine blk_drew ?_ | refine blk_alloc ?_ _)); refine blk_far ?_ NB692_749.out _; (with_reducible repeat (first | refine blk_drewN ?_ _ | refine blk_drew ?_ | refine blk_alloc ?_ _)); refine blk_far ?_ NB692_749.out _; (with_reducible repeat (first | refine blk_drewN ?_ _ | refine blk_drew ?_ | refine blk_alloc ?_ _)); exact BK692.out) hb); have n10_ := Aside0.mk (blk_below (g := gb698) (o := .cells #[.int .i64 t694, .slice Ao26 t695.length co26] 31 (0, 0)) (by (with_reducible repeat (first | refine blk_drewN ?_ _ | refine blk_drew ?_ | refine blk_alloc ?_ _)); refine blk_far ?_ NB698_749.out _; (with_reducible repeat (first | refine blk_drewN ?_ _ | refine blk_drew ?_ | refine blk_alloc ?_ _)); refine blk_far ?_ NB698_749.out _; (with_reducible repeat (first | refine blk_drewN ?_ _ | refine blk_drew ?_ | refine blk_alloc ?_ _)); exact BK698.out) hb); have n11_ := Aside0.mk (blk_below (g := gb703) (o := .cells #[.int .i64 t699, .slice Ao33 t700.length co33] 31 (0, 0)) (by (with_reducible repeat (first | refine blk_drewN ?_ _ | refine blk_drew ?_ | refine blk_alloc ?_ _)); refine blk_far ?_ NB703_749.out _; (with_reducible repeat (first | refine blk_drewN ?_ _ | refine blk_drew ?_ | refine blk_alloc ?_ _)); refine blk_far ?_ NB703_749.out _; (with_reducible repeat (first | refine blk_drewN ?_ _ | refine blk_drew ?_ | refine blk_alloc ?_ _)); exact BK703.out) hb); have n12_ := Aside0.mk (blk_below (g := gb723) (o := .cells #[.slice Ao47 t719.length co47, .int .i64 t722] 37 (0, 0)) (by (with_reducible repeat (first | refine blk_drewN ?_ _ | refine blk_drew ?_ | refine blk_alloc ?_ _)); refine blk_far ?_ NB723_749.out _; (with_reducible repeat (first | refine blk_drewN ?_ _ | refine blk_drew ?_ | refine blk_alloc ?_ _)); refine blk_far ?_ NB723_749.out _; (with_reducible repeat (first | refine blk_drewN ?_ _ | refine blk_drew ?_ | refine blk_alloc ?_ _)); exact BK723.out) hb); have n13_ := Aside0.mk (blk_below (g := gb740) (o := .cells #[.int .i64 t736, .slice Ao166 t737.length co166] 31 (0, 0)) (by (with_reducible repeat (first | refine blk_drewN ?_ _ | refine blk_drew ?_ | refine blk_alloc ?_ _)); refine blk_far ?_ NB740_749.out _; (with_reducible repeat (first | refine blk_drewN ?_ _ | refine blk_drew ?_ | refine blk_alloc ?_ _)); refine blk_far ?_ NB740_749.out _; (with_reducible repeat (first | refine blk_drewN ?_ _ | refine blk_drew ?_ | refine blk_alloc ?_ _)); exact BK740.out) hb); have n14_ := Aside0.mk (blk_below (g := gb749) (o := .cells #[.slice Ao173 t745.length co173, .int .i64 t748] 37 (0, 0)) (by (with_reducible repeat (first | refine blk_drewN ?_ _ | refine blk_drew ?_ | refine blk_alloc ?_ _)); refine blk_put (cs := #[.slice Ao173 t745.length co173, .int .i64 0]) ?_ 1 _ rfl; (with_reducible repeat (first | refine blk_drewN ?_ _ | refine blk_drew ?_ | refine blk_alloc ?_ _)); refine blk_put (cs := #[.slice none 0 0, .int .i64 0]) ?_ 0 _ rfl; (with_reducible repeat (first | refine blk_drewN ?_ _ | refine blk_drew ?_ | refine blk_alloc ?_ _)); exact BK749.out) hb); have n15_ := Aside0.mk (below_step (by repeat (first | (with_reducible first | exact HB.out | apply below_alloc | apply pw_below_drewN | apply below_drew1 | refine below_set ?_ GE691.out | refine below_set ?_ GE692.out | refine below_set ?_ GE698.out | refine below_set ?_ GE703.out | refine below_set ?_ GE723.out | refine below_set ?_ GE740.out | refine below_set ?_ GE749.out) | exact HB.out)) hb); clear HO_9; clear HO_699001; clear HO_704001; clear HO_724000; clear HO739; clear HO743; clear HO747; clear BK691; clear BK692; clear BK698; clear BK703; clear BK723; clear BK740; clear BK749; clear HB; have HO_9 := n0_; have HO_699001 := n1_; have HO_704001 := n2_; have HO_724000 := n3_; have HO739 := n4_; have HO743 := n5_; have HO747 := n6_; have HO752 := n7_; have BK691 := n8_; have BK692 := n9_; have BK698 := n10_; have BK703 := n11_; have BK723 := n12_; have BK740 := n13_; have BK749 := n14_; have HB := n15_; clear n0_ n1_ n2_ n3_ n4_ n5_ n6_ n7_ n8_ n9_ n10_ n11_ n12_ n13_ n14_ n15_; (try clear hb); (try clear hb2); (try clear hk); (try clear hi); (try clear ho0); have hcz183_0 : w182.cell? ⟨gb749, 0, none⟩ = some (.slice Ao173 t745.length co173) := (blk_cell BK749.out 0).trans rfl; have hcz183_1 : w182.cell? ⟨gb749, 1, none⟩ = some (.int .i64 t748) := (blk_cell BK749.out 1).trans rfl; have hfz183_0 := blk_frozen BK749.out 0; have hfz183_1 := blk_frozen BK749.out 1))
               go_ret
               exact ⟨by first | rfl | (simp [errW_none, errW_some] <;> rfl) | (simp [*, errW_none, errW_some] <;> rfl), by repeat (first | (with_reducible first | exact HB.out | apply below_alloc | apply pw_below_drewN | apply below_drew1 | refine below_set ?_ GE691.out | refine below_set ?_ GE692.out | refine below_set ?_ GE698.out | refine below_set ?_ GE703.out | refine below_set ?_ GE723.out | refine below_set ?_ GE740.out | refine below_set ?_ GE749.out) | exact HB.out)⟩
          ·rw [if_neg c90] at H
           exact absurd H (by simp)
   ·rw [if_neg c13] at H
    exact absurd H (by simp)
  ·replace c10 := Bool.eq_false_iff.mpr c10
   subst c10
   have H1 : (none) = some r := by rw [if_neg (show ¬ (false = true) by decide)] at H; exact H
   clear H
   have H := H1
   clear H1
   exact absurd H (by simp)
 ·replace c4 := Bool.eq_false_iff.mpr c4
  subst c4
  have H1 : (none) = some r := by rw [if_neg (show ¬ (false = true) by decide)] at H; exact H
  clear H
  have H := H1
  clear H1
  exact absurd H (by simp)
end Go.Proofs.Ytlldjinejckbaaa.PD

end
section
namespace Go.Proofs.Ytlldjinejckbaaa.Pg
open Go Go.RowKit Go.Proofs.YtlldjinejckbaaaW.PrintWords Go.Proofs.Ytlldjinejckbaaa.Mod Go.Proofs.Ytlldjinejckbaaa.Gs Go.Proofs.Ytlldjinejckbaaa.Lb Go.Proofs.Ytlldjinejckbaaa.Ng Go.Proofs.Ytlldjinejckbaaa.Rc Go.Proofs.Ytlldjinejckbaaa.PD
def E (l : List S55) (u v : Int) : Prop := ∃ e ∈ l, e.f0 = u ∧ e.f1 = v
def Ok (n : Nat) (l : List S55) : Prop := ∀ e ∈ l, 0 ≤ e.f0 ∧ e.f0 < n ∧ 0 ≤ e.f1 ∧ e.f1 < n
theorem E.ok {n : Nat} {l : List S55} (h : Ok n l) {u v : Int} (e : E l u v) : 0 ≤ u ∧ u < n ∧ 0 ≤ v ∧ v < n := by
 obtain ⟨x, hx, rfl, rfl⟩ := e
 exact h x hx
theorem compactUpTo_strict (d : Array Int) (hs : d.toList.Pairwise (· ≤ ·)) : ∀ m, m ≤ d.size → (Lib.compactUpTo d m).Pairwise (· < ·) ∧ (∀ x, x ∈ Lib.compactUpTo d m ↔ ∃ j, j < m ∧ d[j]! = x) := by
 have hle : ∀ i j, i ≤ j → j < d.size → d[i]! ≤ d[j]! := fun i j hij hj => by
  rw [getElem!_pos d i (by omega), getElem!_pos d j hj]
  rcases Nat.lt_or_eq_of_le hij with h | h
  ·have := List.pairwise_iff_getElem.1 hs i j (by simp; omega) (by simpa using hj) h
   simpa using this
  ·subst h; exact Int.le_refl _
 intro m
 induction m with
 | zero => intro _; simp [Lib.compactUpTo]
 | succ m ih =>
  intro hm
  obtain ⟨h1, h2⟩ := ih (by omega)
  rw [Lib.compactUpTo_succ]
  by_cases hk : Lib.keeps d m = true
  ·rw [if_pos hk]
   refine ⟨?_, fun x => ?_⟩
   ·rw [List.pairwise_append]
    refine ⟨h1, by simp, fun a ha b hb => ?_⟩
    rw [List.mem_singleton] at hb
    subst hb
    obtain ⟨j, hj, rfl⟩ := (h2 a).1 ha
    unfold Lib.keeps at hk
    rw [decide_eq_true_eq] at hk
    rcases hk with hk | hk
    ·omega
    ·have h3 := hle j (m - 1) (by omega) (by omega)
     have h4 := hle (m - 1) m (by omega) (by omega)
     omega
   ·rw [List.mem_append, List.mem_singleton, h2]
    constructor
    ·rintro (⟨j, hj, e⟩ | e)
     ·exact ⟨j, by omega, e⟩
     ·exact ⟨m, by omega, e.symm⟩
    ·rintro ⟨j, hj, e⟩
     rcases Nat.lt_or_eq_of_le (Nat.le_of_lt_succ hj) with h | h
     ·exact .inl ⟨j, h, e⟩
     ·subst h; exact .inr e.symm
  ·rw [if_neg hk, List.append_nil]
   refine ⟨h1, fun x => ?_⟩
   rw [h2]
   constructor
   ·rintro ⟨j, hj, e⟩; exact ⟨j, by omega, e⟩
   ·rintro ⟨j, hj, e⟩
    rcases Nat.lt_or_eq_of_le (Nat.le_of_lt_succ hj) with h | h
    ·exact ⟨j, h, e⟩
    ·subst h
     unfold Lib.keeps at hk
     rw [decide_eq_true_eq] at hk
     have h5 : ¬ j = 0 := fun h => hk (.inl h)
     have h6 : d[j]! = d[j - 1]! := Classical.byContradiction fun h => hk (.inr h)
     exact ⟨j - 1, by omega, by rw [← h6]; exact e⟩
theorem sortI_sorted (xs : List Int) : (sortI xs).Pairwise (· ≤ ·) := by
 unfold sortI
 have := List.pairwise_mergeSort (le := fun x y : Int => decide (x ≤ y)) (fun a b c h1 h2 => by simp at *; omega) (fun a b => by simp; omega) xs
 exact this.imp (fun h => by simpa using h)
theorem tidyRow (xs : List Int) : (Lib.compact (sortI xs)).Pairwise (· < ·) ∧ ∀ x, x ∈ Lib.compact (sortI xs) ↔ x ∈ xs := by
 unfold Lib.compact
 obtain ⟨h1, h2⟩ := compactUpTo_strict (sortI xs).toArray (by simpa using sortI_sorted xs) (sortI xs).length (by simp)
 refine ⟨h1, fun x => ?_⟩
 rw [h2, ← mem_sortI (r := xs)]
 constructor
 ·rintro ⟨j, hj, rfl⟩
  rw [getElem!_pos (sortI xs).toArray j (by simpa using hj)]
  simp
 ·intro h
  obtain ⟨j, hj, rfl⟩ := List.mem_iff_getElem.1 h
  exact ⟨j, hj, by rw [getElem!_pos (sortI xs).toArray j (by simpa using hj)]; simp⟩
theorem row_tidy (rows : List (List Int)) (v : Int) : row (tidy rows) v = Lib.compact (sortI (row rows v)) := by
 unfold row tidy
 rw [List.getD_eq_getElem?_getD, List.getD_eq_getElem?_getD, List.getElem?_map]
 cases h : rows[v.toNat]? with
 | none => simp [sortI, Lib.compact, Lib.compactUpTo]
 | some r => rfl
theorem row_built {n : Nat} : ∀ (l : List S55), Ok n l → ∀ (v x : Int), 0 ≤ v → v < n → ((x ∈ row (built n l true) v ↔ E l v x) ∧ (x ∈ row (built n l false) v ↔ E l x v)) := by
 have key : ∀ (l : List S55) (R : Bool → List (List Int)), Ok n l → (∀ b, (R b).length = n) → ∀ (b : Bool) (v x : Int), 0 ≤ v → v < n → (x ∈ row (l.foldl addE R b) v ↔ x ∈ row (R b) v ∨ (if b then E l v x else E l x v)) := by
  intro l
  induction l with
  | nil => intro R _ _ b v x _ _; cases b <;> simp [E]
  | cons e l ih =>
   intro R hok hR b v x h0 h1
   obtain ⟨e0, e1, e2, e3⟩ := hok e (by simp)
   rw [List.foldl_cons, ih (addE R e) (fun z hz => hok z (by simp [hz])) (fun b => by rw [addE_length]; exact hR b) b v x h0 h1]
   have hrow : x ∈ row (addE R e b) v ↔ x ∈ row (R b) v ∨ (if b then e.f0 = v ∧ e.f1 = x else e.f0 = x ∧ e.f1 = v) := by
    unfold addE
    cases b with
    | true =>
     rw [upd_other _ _ _ (by decide), upd_same]
     unfold row
     rw [List.getD_eq_getElem?_getD, List.getElem?_set]
     by_cases hv : e.f0 = v
     ·rw [if_pos (by omega), if_pos (by rw [hR]; omega)]
      subst hv
      simp [List.getD_eq_getElem?_getD, eq_comm]
     ·rw [if_neg (by omega), ← List.getD_eq_getElem?_getD]
      simp [hv]
    | false =>
     rw [upd_same, upd_other _ _ _ (by decide)]
     unfold row
     rw [List.getD_eq_getElem?_getD, List.getElem?_set]
     by_cases hv : e.f1 = v
     ·rw [if_pos (by omega), if_pos (by rw [hR]; omega)]
      subst hv
      simp [List.getD_eq_getElem?_getD, eq_comm]
     ·rw [if_neg (by omega), ← List.getD_eq_getElem?_getD]
      simp [hv]
   rw [hrow]
   have hE : ∀ a c, E (e :: l) a c ↔ (e.f0 = a ∧ e.f1 = c) ∨ E l a c := fun a c => by
    unfold E
    simp
   cases b with
   | true => simp only [if_true]; rw [hE]; exact or_assoc
   | false => simp only [Bool.false_eq_true, if_false]; rw [hE]; exact or_assoc
 intro l hok v x h0 h1
 have e : ∀ b : Bool, x ∈ row ((fun _ => List.replicate n ([] : List Int)) b) v ↔ False := fun b => by
  unfold row
  simp only [List.getD_eq_getElem?_getD, List.getElem?_replicate]
  split <;> simp
 have h1' := key l (fun _ => List.replicate n []) hok (fun _ => by simp) true v x h0 h1
 have h2' := key l (fun _ => List.replicate n []) hok (fun _ => by simp) false v x h0 h1
 rw [e true] at h1'
 rw [e false] at h2'
 exact ⟨by unfold built; rw [h1']; simp, by unfold built; rw [h2']; simp⟩
abbrev nx (n : Nat) (l : List S55) : List (List Int) := tidy (built n l true)
abbrev pv (n : Nat) (l : List S55) : List (List Int) := tidy (built n l false)
theorem mem_nx {n : Nat} {l : List S55} (h : Ok n l) {v : Int} (x : Int) (h0 : 0 ≤ v) (h1 : v < n) : x ∈ row (nx n l) v ↔ E l v x := by
 rw [row_tidy, (tidyRow _).2]; exact (row_built l h v x h0 h1).1
theorem mem_pv {n : Nat} {l : List S55} (h : Ok n l) {v : Int} (x : Int) (h0 : 0 ≤ v) (h1 : v < n) : x ∈ row (pv n l) v ↔ E l x v := by
 rw [row_tidy, (tidyRow _).2]; exact (row_built l h v x h0 h1).2
theorem row_strict (rows : List (List Int)) (v : Int) : (row (tidy rows) v).Pairwise (· < ·) := by rw [row_tidy]; exact (tidyRow _).1
theorem row_nodup (rows : List (List Int)) (v : Int) : (row (tidy rows) v).Nodup := (row_strict rows v).imp (fun h => by omega)
theorem len_nx (n : Nat) (l : List S55) : (nx n l).length = n := by unfold nx; rw [tidy_length, built_length]
theorem len_pv (n : Nat) (l : List S55) : (pv n l).length = n := by unfold pv; rw [tidy_length, built_length]
theorem strict_ext {a b : List Int} (ha : a.Pairwise (· < ·)) (hb : b.Pairwise (· < ·)) (h : ∀ x, x ∈ a ↔ x ∈ b) : a = b := by
 have na : a.Nodup := ha.imp (fun h => by omega)
 have nb : b.Nodup := hb.imp (fun h => by omega)
 have hp : a.Perm b := (List.perm_ext_iff_of_nodup na nb).2 h
 exact List.Perm.eq_of_pairwise (le := fun x y : Int => x < y) (fun x y _ _ h1 h2 => by omega) ha hb hp
theorem nodup_len {n : Nat} {a : List Int} (hn : a.Nodup) (h : ∀ x ∈ a, 0 ≤ x ∧ x < (n : Int)) : a.length ≤ n := by
 have hs : a ⊆ (List.range n).map (fun k : Nat => (k : Int)) := fun x hx => by
  obtain ⟨h0, h1⟩ := h x hx
  exact List.mem_map.2 ⟨x.toNat, List.mem_range.2 (by omega), by omega⟩
 have := hn.length_le_of_subset hs
 simpa using this
theorem nodup_all {n : Nat} {a : List Int} (hn : a.Nodup) (h : ∀ x ∈ a, 0 ≤ x ∧ x < (n : Int)) (hl : a.length = n) : ∀ x : Int, 0 ≤ x → x < n → x ∈ a := by
 have hs : a ⊆ (List.range n).map (fun k : Nat => (k : Int)) := fun x hx => by
  obtain ⟨h0, h1⟩ := h x hx
  exact List.mem_map.2 ⟨x.toNat, List.mem_range.2 (by omega), by omega⟩
 intro x h0 h1
 refine Classical.byContradiction fun hx => ?_
 have hs2 : (x :: a) ⊆ (List.range n).map (fun k : Nat => (k : Int)) := fun y hy => by
  rcases List.mem_cons.1 hy with hy | hy
  ·subst hy; exact List.mem_map.2 ⟨y.toNat, List.mem_range.2 (by omega), by omega⟩
  ·exact hs hy
 have := (List.nodup_cons.2 ⟨hx, hn⟩).length_le_of_subset hs2
 simp at this
 omega
end Go.Proofs.Ytlldjinejckbaaa.Pg

end
section
namespace Go.Proofs.Ytlldjinejckbaaa.Po
open Go Go.RowKit Go.Proofs.YtlldjinejckbaaaW.PrintWords Go.Proofs.Ytlldjinejckbaaa.Mod Go.Proofs.Ytlldjinejckbaaa.Lb Go.Proofs.Ytlldjinejckbaaa.Ng Go.Proofs.Ytlldjinejckbaaa.Rc Go.Proofs.Ytlldjinejckbaaa.PD Go.Proofs.Ytlldjinejckbaaa.Pg Go.Proofs.Ytlldjinejckbaaa.Od Go.Proofs.Ytlldjinejckbaaa.Ins
def Avail (n : Nat) (l : List S55) (out : List Int) (v : Int) : Prop := 0 ≤ v ∧ v < n ∧ v ∉ out ∧ ∀ u, E l u v → u ∈ out
def Greedy (n : Nat) (l : List S55) (out : List Int) : Prop := ∀ k : Nat, k < out.length → Avail n l (out.take k) (rd out k) ∧ ∀ u, Avail n l (out.take k) u → rd out k ≤ u
theorem rd_get {l : List Int} {k : Nat} (h : k < l.length) : rd l (k : Int) = l[k] := by
 unfold rd
 rw [Int.toNat_natCast, List.getD_eq_getElem?_getD, List.getElem?_eq_getElem h]
 rfl
theorem rd_mem {l : List Int} {k : Nat} (h : k < l.length) : rd l (k : Int) ∈ l := by rw [rd_get h]; exact List.getElem_mem _
theorem Greedy.nil (n : Nat) (l : List S55) : Greedy n l [] := fun k hk => absurd hk (Nat.not_lt_zero k)
theorem Greedy.snoc {n : Nat} {l : List S55} {out : List Int} (h : Greedy n l out) {v : Int} (ha : Avail n l out v) (hm : ∀ u, Avail n l out u → v ≤ u) : Greedy n l (out ++ [v]) := by
 intro k hk
 rw [List.length_append, List.length_singleton] at hk
 rcases Nat.lt_or_eq_of_le (Nat.le_of_lt_succ hk) with hk | hk
 ·have e1 : (out ++ [v]).take k = out.take k := by rw [List.take_append_of_le_length (Nat.le_of_lt hk)]
  have e2 : rd (out ++ [v]) (k : Int) = rd out (k : Int) := by rw [rd_get hk, rd_get (by simp; omega), List.getElem_append_left hk]
  rw [e1, e2]; exact h k hk
 ·subst hk
  have e1 : (out ++ [v]).take out.length = out := by simp
  have e2 : rd (out ++ [v]) (out.length : Int) = v := by rw [rd_get (by simp)]; simp
  rw [e1, e2]; exact ⟨ha, hm⟩
theorem Greedy.range {n : Nat} {l : List S55} {out : List Int} (h : Greedy n l out) : ∀ v ∈ out, 0 ≤ v ∧ v < (n : Int) := by
 intro v hv
 obtain ⟨k, hk, rfl⟩ := List.mem_iff_getElem.1 hv
 have := (h k hk).1
 rw [rd_get hk] at this
 exact ⟨this.1, this.2.1⟩
theorem Greedy.nodup {n : Nat} {l : List S55} {out : List Int} (h : Greedy n l out) : out.Nodup := by
 rw [List.nodup_iff_pairwise_ne, List.pairwise_iff_getElem]
 intro i j hi hj hij e
 have h2 := (h j hj).1.2.2.1
 rw [rd_get hj] at h2
 apply h2
 rw [List.mem_iff_getElem]
 exact ⟨i, by rw [List.length_take]; omega, by rw [List.getElem_take]; exact e⟩
theorem Greedy.before {n : Nat} {l : List S55} {out : List Int} (h : Greedy n l out) {k : Nat} (hk : k < out.length) {u : Int} (he : E l u (rd out k)) : u ∈ out.take k := (h k hk).1.2.2.2 u he
theorem Greedy.closed {n : Nat} {l : List S55} {out : List Int} (h : Greedy n l out) {u v : Int} (hv : v ∈ out) (he : E l u v) : u ∈ out := by
 obtain ⟨k, hk, rfl⟩ := List.mem_iff_getElem.1 hv
 rw [← rd_get hk] at he
 exact List.mem_of_mem_take (h.before hk he)
theorem Greedy.len {n : Nat} {l : List S55} {out : List Int} (h : Greedy n l out) : out.length ≤ n := nodup_len h.nodup h.range
theorem start1_spec (prevs : List (List Int)) (n : Nat) : ∀ k, k ≤ n → (start1 prevs n k).1.length = n ∧ (∀ v : Int, 0 ≤ v → v < k → rd (start1 prevs n k).1 v = ((row prevs v).length : Int)) ∧
  (start1 prevs n k).2.Pairwise (· < ·) ∧ (∀ v, v ∈ (start1 prevs n k).2 ↔ 0 ≤ v ∧ v < (k : Int) ∧ row prevs v = []) := by
 intro k
 induction k with
 | zero => intro _; refine ⟨by simp [start1], fun v h0 h1 => by omega, by simp [start1], fun v => ?_⟩; simp [start1]; intro h0 h1; omega
 | succ k ih =>
  intro hk
  obtain ⟨h1, h2, h3, h4⟩ := ih (by omega)
  rw [start1_succ]
  refine ⟨by simp [h1], fun v hv0 hv1 => ?_, ?_, fun v => ?_⟩
  ·by_cases e : v = (k : Int)
   ·subst e
    have := rd_set_same (start1 prevs n k).1 (k : Int) ((row prevs k).length : Int) hv0 (by rw [h1]; omega)
    rw [Int.toNat_natCast] at this
    exact this
   ·have := rd_set_other (start1 prevs n k).1 v (k : Int) ((row prevs k).length : Int) hv0 (by omega) e
    rw [Int.toNat_natCast] at this
    rw [this]
    exact h2 v hv0 (by omega)
  ·split
   ·rw [List.pairwise_append]
    refine ⟨h3, by simp, fun a ha b hb => ?_⟩
    rw [List.mem_singleton] at hb
    have := ((h4 a).1 ha).2.1
    omega
   ·exact h3
  ·split
   ·rename_i hz
    have hz2 : row prevs (k : Int) = [] := List.length_eq_zero_iff.1 (by omega)
    rw [List.mem_append, List.mem_singleton, h4]
    constructor
    ·rintro (⟨a, b, c⟩ | rfl)
     ·exact ⟨a, by omega, c⟩
     ·exact ⟨by omega, by omega, hz2⟩
    ·rintro ⟨a, b, c⟩
     by_cases e : v = (k : Int)
     ·exact .inr e
     ·exact .inl ⟨a, by omega, c⟩
   ·rename_i hz
    rw [h4]
    constructor
    ·rintro ⟨a, b, c⟩; exact ⟨a, by omega, c⟩
    ·rintro ⟨a, b, c⟩
     by_cases e : v = (k : Int)
     ·subst e; rw [c] at hz; simp at hz
     ·exact ⟨a, by omega, c⟩
theorem insert_strict (r : List Int) (x : Int) (h : r.Pairwise (· < ·)) (hx : x ∉ r) : (insertAt r (r.countP (· < x)) x).Pairwise (· < ·) ∧ ∀ y, y ∈ insertAt r (r.countP (· < x)) x ↔ y = x ∨ y ∈ r := by
 have hle := insert_sorted r x (h.imp (fun h => by omega))
 have hp : (insertAt r (r.countP (· < x)) x).Perm (x :: r) := by
  unfold insertAt
  have := List.perm_middle (a := x) (l₁ := r.take (r.countP (· < x))) (l₂ := r.drop (r.countP (· < x)))
  rwa [List.take_append_drop] at this
 have hn : (insertAt r (r.countP (· < x)) x).Nodup := hp.nodup_iff.2 (List.nodup_cons.2 ⟨hx, h.imp (fun h => by omega)⟩)
 refine ⟨?_, fun y => by rw [hp.mem_iff, List.mem_cons]⟩
 rw [List.pairwise_iff_getElem] at hle ⊢
 intro i j hi hj hij
 have h1 := hle i j hi hj hij
 have h2 := List.pairwise_iff_getElem.1 (List.nodup_iff_pairwise_ne.1 hn) i j hi hj hij
 omega
theorem wrap_small {x : Int} (h0 : -1000000 ≤ x) (h1 : x ≤ 1000000) : wrap64 x = x := by unfold wrap64; omega
theorem takeRow_spec : ∀ (xs w r : List Int), xs.Nodup → (∀ y ∈ xs, 0 ≤ y ∧ y < (w.length : Int)) → (∀ y ∈ xs, 1 ≤ rd w y ∧ rd w y ≤ 100000) → r.Pairwise (· < ·) → (∀ y ∈ xs, y ∉ r) →
  (takeRow xs w r).1.length = w.length ∧ (∀ y : Int, 0 ≤ y → rd (takeRow xs w r).1 y = rd w y - (if y ∈ xs then 1 else 0)) ∧ (takeRow xs w r).2.Pairwise (· < ·) ∧ ∀ y, y ∈ (takeRow xs w r).2 ↔ y ∈ r ∨ (y ∈ xs ∧ rd w y = 1)
 | [], w, r, _, _, _, hr, _ => ⟨rfl, fun y _ => by simp [takeRow], hr, fun y => by simp [takeRow]⟩
 | x :: xs, w, r, hn, hx, hb, hr, hnr => by
  obtain ⟨hx0, hx1⟩ := hx x (by simp)
  obtain ⟨hb0, hb1⟩ := hb x (by simp)
  rw [List.nodup_cons] at hn
  have hw : wrap64 (rd w x - 1) = rd w x - 1 := wrap_small (by omega) (by omega)
  have hset : ∀ y, 0 ≤ y → rd (w.set x.toNat (rd w x - 1)) y = if y = x then rd w x - 1 else rd w y := fun y hy => by
   by_cases e : y = x
   ·subst e; rw [if_pos rfl, rd_set_same _ _ _ hx0 hx1]
   ·rw [if_neg e, rd_set_other _ _ _ _ hy hx0 e]
  have hxs : ∀ y ∈ xs, y ≠ x := fun y hy e => hn.1 (by rw [← e]; exact hy)
  have h1 : ∀ y ∈ xs, 0 ≤ y ∧ y < ((w.set x.toNat (rd w x - 1)).length : Int) := fun y hy => by rw [List.length_set]; exact hx y (List.mem_cons_of_mem _ hy)
  have h2 : ∀ y ∈ xs, 1 ≤ rd (w.set x.toNat (rd w x - 1)) y ∧ rd (w.set x.toNat (rd w x - 1)) y ≤ 100000 := fun y hy => by
   rw [hset y (hx y (List.mem_cons_of_mem _ hy)).1, if_neg (hxs y hy)]; exact hb y (List.mem_cons_of_mem _ hy)
  have fin : ∀ (r' : List Int), r'.Pairwise (· < ·) → (∀ y ∈ xs, y ∉ r') → (∀ y, y ∈ r' ↔ y ∈ r ∨ (y = x ∧ rd w x = 1)) →
    (takeRow xs (w.set x.toNat (rd w x - 1)) r').1.length = w.length ∧ (∀ y : Int, 0 ≤ y → rd (takeRow xs (w.set x.toNat (rd w x - 1)) r').1 y = rd w y - (if y ∈ x :: xs then 1 else 0)) ∧
    (takeRow xs (w.set x.toNat (rd w x - 1)) r').2.Pairwise (· < ·) ∧ ∀ y, y ∈ (takeRow xs (w.set x.toNat (rd w x - 1)) r').2 ↔ y ∈ r ∨ (y ∈ x :: xs ∧ rd w y = 1) := by
   intro r' hr' hnr' hm
   obtain ⟨a, b, c, d⟩ := takeRow_spec xs (w.set x.toNat (rd w x - 1)) r' hn.2 h1 h2 hr' hnr'
   refine ⟨by rw [a, List.length_set], fun y hy => ?_, c, fun y => ?_⟩
   ·rw [b y hy, hset y hy]
    by_cases e : y = x
    ·subst e; rw [if_pos rfl, if_neg hn.1, if_pos (by simp)]; omega
    ·rw [if_neg e]
     by_cases hyx : y ∈ xs
     ·rw [if_pos hyx, if_pos (by simp [hyx])]
     ·rw [if_neg hyx, if_neg (by simp [hyx, e])]
   ·rw [d, hm]
    constructor
    ·rintro ((h | ⟨e, h⟩) | ⟨h, h'⟩)
     ·exact .inl h
     ·subst e; exact .inr ⟨by simp, h⟩
     ·rw [hset y (hx y (List.mem_cons_of_mem _ h)).1, if_neg (hxs y h)] at h'
      exact .inr ⟨by simp [h], h'⟩
    ·rintro (h | ⟨h, h'⟩)
     ·exact .inl (.inl h)
     ·rcases List.mem_cons.1 h with e | h
      ·subst e; exact .inl (.inr ⟨rfl, h'⟩)
      ·exact .inr ⟨h, by rw [hset y (hx y (List.mem_cons_of_mem _ h)).1, if_neg (hxs y h)]; exact h'⟩
  unfold takeRow
  rw [hw]
  by_cases hz : rd w x - 1 = 0
  ·rw [if_pos hz]
   obtain ⟨i1, i2⟩ := insert_strict r x hr (hnr x (by simp))
   exact fin _ i1 (fun y hy => by rw [i2]; rintro (e | e); exact hxs y hy e; exact hnr y (by simp [hy]) e) (fun y => by rw [i2]; constructor; (rintro (e | e); exact .inr ⟨e, by omega⟩; exact .inl e); (rintro (e | e); exact .inr e; exact .inl e.1))
  ·rw [if_neg hz]
   exact fin r hr (fun y hy => hnr y (by simp [hy])) (fun y => ⟨fun h => .inl h, fun h => h.elim id (fun h => absurd h.2 (by omega))⟩)
theorem countP_out (L : List Int) (hn : L.Nodup) (out : List Int) (v : Int) (hv : v ∉ out) : L.countP (fun u => decide (u ∉ out ++ [v])) + (if v ∈ L then 1 else 0) = L.countP (fun u => decide (u ∉ out)) := by
 induction L with
 | nil => simp
 | cons a L ih =>
  rw [List.nodup_cons] at hn
  have ih := ih hn.2
  rw [List.countP_cons, List.countP_cons]
  by_cases e : a = v
  ·subst e
   rw [if_neg hn.1] at ih
   simp [hv] at ih ⊢
   omega
  ·have e1 : (decide (a ∉ out ++ [v])) = decide (a ∉ out) := by simp [e]
   rw [e1]
   have e2 : (v ∈ a :: L) ↔ v ∈ L := by simp [Ne.symm e]
   by_cases hL : v ∈ L
   ·rw [if_pos hL] at ih; rw [if_pos (e2.2 hL)]; omega
   ·rw [if_neg hL] at ih; rw [if_neg (fun h => hL (e2.1 h))]; omega
structure KInv (n : Nat) (l : List S55) (w r out : List Int) : Prop where
 wl : w.length = n
 g : Greedy n l out
 cnt : ∀ v : Int, 0 ≤ v → v < n → v ∉ out → rd w v = ((row (pv n l) v).countP (fun u => decide (u ∉ out)) : Nat)
 rs : r.Pairwise (· < ·)
 rm : ∀ v, v ∈ r ↔ Avail n l out v
theorem KInv.step {n : Nat} (hn : n ≤ 1000) {l : List S55} (hl : Ok n l) {w q out : List Int} {v : Int} (h : KInv n l w (v :: q) out) : KInv n l (takeRow (row (nx n l) v) w q).1 (takeRow (row (nx n l) v) w q).2 (out ++ [v]) := by
 have hv : Avail n l out v := (h.rm v).1 (by simp)
 obtain ⟨hv0, hv1, hvo, hvp⟩ := hv
 have hrow : ∀ y, y ∈ row (nx n l) v ↔ E l v y := fun y => mem_nx hl y hv0 hv1
 have hq := List.pairwise_cons.1 h.rs
 have hs : ∀ y ∈ row (nx n l) v, 0 ≤ y ∧ y < (n : Int) ∧ y ∉ out ∧ y ≠ v := fun y hy => by
  have he := (hrow y).1 hy
  obtain ⟨_, _, y0, y1⟩ := he.ok hl
  exact ⟨y0, y1, fun hyo => hvo (h.g.closed hyo he), fun e => by subst e; exact hvo (hvp _ he)⟩
 have hb : ∀ y ∈ row (nx n l) v, 1 ≤ rd w y ∧ rd w y ≤ 100000 := fun y hy => by
  obtain ⟨y0, y1, y2, y3⟩ := hs y hy
  rw [h.cnt y y0 y1 y2]
  have h1 : 0 < (row (pv n l) y).countP (fun u => decide (u ∉ out)) := List.countP_pos_iff.2 ⟨v, (mem_pv hl v y0 y1).2 ((hrow y).1 hy), by simpa using hvo⟩
  have h2 : (row (pv n l) y).countP (fun u => decide (u ∉ out)) ≤ (row (pv n l) y).length := List.countP_le_length
  have h3 : (row (pv n l) y).length ≤ n := nodup_len (row_nodup _ _) (fun u hu => by have := ((mem_pv hl u y0 y1).1 hu).ok hl; exact ⟨this.1, this.2.1⟩)
  omega
 obtain ⟨t1, t2, t3, t4⟩ := takeRow_spec (row (nx n l) v) w q (row_nodup _ _) (fun y hy => by rw [h.wl]; exact ⟨(hs y hy).1, (hs y hy).2.1⟩) hb hq.2 (fun y hy hyq => hvo (((h.rm y).1 (by simp [hyq])).2.2.2 v ((hrow y).1 hy)))
 have hcnt : ∀ y : Int, 0 ≤ y → y < n → y ∉ out ++ [v] → rd (takeRow (row (nx n l) v) w q).1 y = ((row (pv n l) y).countP (fun u => decide (u ∉ out ++ [v])) : Nat) := fun y y0 y1 hy => by
  have hyo : y ∉ out := fun h => hy (by simp [h])
  have hc := countP_out (row (pv n l) y) (row_nodup _ _) out v hvo
  rw [t2 y y0, h.cnt y y0 y1 hyo]
  by_cases he : y ∈ row (nx n l) v
  ·rw [if_pos he]
   rw [if_pos ((mem_pv hl v y0 y1).2 ((hrow y).1 he))] at hc
   omega
  ·rw [if_neg he]
   rw [if_neg (fun h => he ((hrow y).2 ((mem_pv hl v y0 y1).1 h)))] at hc
   omega
 refine ⟨by rw [t1, h.wl], h.g.snoc ⟨hv0, hv1, hvo, hvp⟩ (fun u hu => ?_), hcnt, t3, fun y => ?_⟩
 ·have hur := (h.rm u).2 hu
  rcases List.mem_cons.1 hur with e | hur
  ·omega
  ·have := hq.1 u hur; omega
 ·rw [t4]
  have hcz : ∀ (o : List Int), 0 ≤ y → y < n → ((row (pv n l) y).countP (fun u => decide (u ∉ o)) = 0 ↔ ∀ u, E l u y → u ∈ o) := fun o y0 y1 => by
   rw [List.countP_eq_zero]
   constructor
   ·intro h u hu
    have := h u ((mem_pv hl u y0 y1).2 hu)
    simpa using this
   ·intro h u hu
    have := h u ((mem_pv hl u y0 y1).1 hu)
    simpa using this
  constructor
  ·rintro (hyq | ⟨hyr, hy1⟩)
   ·obtain ⟨y0, y1, y2, y3⟩ := (h.rm y).1 (by simp [hyq])
    have := hq.1 y hyq
    exact ⟨y0, y1, by simp [y2]; omega, fun u hu => by simp [y3 u hu]⟩
   ·obtain ⟨y0, y1, y2, y3⟩ := hs y hyr
    refine ⟨y0, y1, by simp [y2, y3], (hcz _ y0 y1).1 ?_⟩
    have hc := countP_out (row (pv n l) y) (row_nodup _ _) out v hvo
    rw [if_pos ((mem_pv hl v y0 y1).2 ((hrow y).1 hyr))] at hc
    rw [h.cnt y y0 y1 y2] at hy1
    omega
  ·rintro ⟨y0, y1, y2, y3⟩
   have hyo : y ∉ out := fun h => y2 (by simp [h])
   have hyv : y ≠ v := fun h => y2 (by simp [h])
   by_cases hall : ∀ u, E l u y → u ∈ out
   ·have := (h.rm y).2 ⟨y0, y1, hyo, hall⟩
    rcases List.mem_cons.1 this with e | hyq
    ·exact absurd e hyv
    ·exact .inl hyq
   ·have hev : E l v y := Classical.byContradiction fun hne => hall fun u hu => by
     have := y3 u hu
     rcases List.mem_append.1 this with h | h
     ·exact h
     ·rw [List.mem_singleton] at h; subst h; exact absurd hu hne
    refine .inr ⟨(hrow y).2 hev, ?_⟩
    have hc := countP_out (row (pv n l) y) (row_nodup _ _) out v hvo
    rw [if_pos ((mem_pv hl v y0 y1).2 hev), (hcz _ y0 y1).2 y3] at hc
    rw [h.cnt y y0 y1 hyo]
    omega
theorem ordGo_spec {n : Nat} (hn : n ≤ 1000) {l : List S55} (hl : Ok n l) : ∀ (k : Nat) (w r out : List Int), KInv n l w r out → out.length + k = n + 1 → ∃ o, ordGo (nx n l) k w r out = some o ∧ Greedy n l o ∧ ∀ v, ¬ Avail n l o v
 | 0, w, r, out, h, hk => by have := h.g.len; omega
 | k + 1, w, [], out, h, hk => ⟨out, rfl, h.g, fun v hv => by have := (h.rm v).2 hv; simp at this⟩
 | k + 1, w, v :: q, out, h, hk => by
  have hq := List.pairwise_cons.1 h.rs
  have hql : q.length ≤ n := nodup_len (hq.2.imp (fun h => by omega)) (fun u hu => by have := (h.rm u).1 (by simp [hu]); exact ⟨this.1, this.2.1⟩)
  unfold ordGo
  rw [if_neg (by omega)]
  exact ordGo_spec hn hl k _ _ _ (h.step hn hl) (by rw [List.length_append, List.length_singleton]; omega)
theorem order_spec {n : Nat} (hn : n ≤ 1000) {l : List S55} (hl : Ok n l) : ∃ o, orderOf n l = some (if o.length < n then ([], 50) else (o, 0)) ∧ Greedy n l o ∧ ∀ v, ¬ Avail n l o v := by
 obtain ⟨s1, s2, s3, s4⟩ := start1_spec (pv n l) n n (Nat.le_refl _)
 have h0 : KInv n l (start1 (pv n l) n n).1 (start1 (pv n l) n n).2 [] := by
  refine ⟨s1, Greedy.nil n l, fun v h0 h1 _ => ?_, s3, fun v => ?_⟩
  ·rw [s2 v h0 h1]
   congr 1
   rw [List.countP_eq_length.2 (fun u _ => by simp)]
  ·rw [s4]
   constructor
   ·rintro ⟨a, b, c⟩
    exact ⟨a, b, by simp, fun u hu => by have := (mem_pv hl u a b).2 hu; rw [c] at this; simp at this⟩
   ·rintro ⟨a, b, _, c⟩
    refine ⟨a, b, List.eq_nil_iff_forall_not_mem.2 fun u hu => ?_⟩
    have := c u ((mem_pv hl u a b).1 hu)
    simp at this
 obtain ⟨o, ho, hg, ha⟩ := ordGo_spec hn hl (n + 1) _ _ _ h0 (by simp)
 exact ⟨o, by unfold orderOf; rw [ho]; rfl, hg, ha⟩
end Go.Proofs.Ytlldjinejckbaaa.Po

end
section
namespace Go.Proofs.Ytlldjinejckbaaa.Pd
open Go Go.RowKit Go.Proofs.YtlldjinejckbaaaW.PrintWords Go.Proofs.Ytlldjinejckbaaa.Mod Go.Proofs.Ytlldjinejckbaaa.Lb Go.Proofs.Ytlldjinejckbaaa.Ng Go.Proofs.Ytlldjinejckbaaa.Rc Go.Proofs.Ytlldjinejckbaaa.PD Go.Proofs.Ytlldjinejckbaaa.Pg Go.Proofs.Ytlldjinejckbaaa.Od Go.Proofs.Ytlldjinejckbaaa.Po Go.Proofs.Ytlldjinejckbaaa.Dp
theorem stepD_fold (v : Int) (hv : 0 ≤ v) : ∀ (xs cur : List Int), xs.Nodup → v ∉ xs → (∀ y ∈ xs, 0 ≤ y ∧ y < (cur.length : Int)) → -1000 ≤ rd cur v → rd cur v ≤ 100000 →
  (xs.foldl (stepD v) cur).length = cur.length ∧ ∀ y : Int, 0 ≤ y → rd (xs.foldl (stepD v) cur) y = if y ∈ xs then max (rd cur y) (rd cur v + 1) else rd cur y
 | [], cur, _, _, _, _, _ => ⟨rfl, fun y _ => by simp⟩
 | x :: xs, cur, hn, hvx, hx, hb0, hb1 => by
  rw [List.nodup_cons] at hn
  obtain ⟨hx0, hx1⟩ := hx x (by simp)
  have hw : wrap64 (rd cur v + 1) = rd cur v + 1 := Po.wrap_small (by omega) (by omega)
  have hne : v ≠ x := fun e => hvx (by simp [e])
  have hset : ∀ y, 0 ≤ y → rd (stepD v cur x) y = if y = x then max (rd cur x) (rd cur v + 1) else rd cur y := fun y hy => by
   unfold stepD
   rw [hw]
   by_cases e : y = x
   ·subst e; rw [if_pos rfl, rd_set_same _ _ _ hx0 hx1]
   ·rw [if_neg e, rd_set_other _ _ _ _ hy hx0 e]
  have hvv : rd (stepD v cur x) v = rd cur v := by rw [hset v hv, if_neg hne]
  obtain ⟨a, b⟩ := stepD_fold v hv xs (stepD v cur x) hn.2 (fun h => hvx (by simp [h])) (fun y hy => by rw [stepD_len]; exact hx y (by simp [hy])) (by rw [hvv]; exact hb0) (by rw [hvv]; exact hb1)
  rw [List.foldl_cons]
  refine ⟨by rw [a, stepD_len], fun y hy => ?_⟩
  rw [b y hy, hset y hy, hvv]
  by_cases e : y = x
  ·subst e; rw [if_neg hn.1, if_pos rfl, if_pos (by simp)]
  ·rw [if_neg e]
   by_cases h : y ∈ xs
   ·rw [if_pos h, if_pos (by simp [h])]
   ·rw [if_neg h, if_neg (by simp [h, e])]
structure DInv (n : Nat) (l : List S55) (P cur : List Int) : Prop where
 len : cur.length = n
 lo : ∀ w : Int, 0 ≤ w → w < n → 0 ≤ rd cur w ∧ rd cur w ≤ (P.length : Int)
 ge : ∀ u w : Int, u ∈ P → E l u w → rd cur u + 1 ≤ rd cur w
 inP : ∀ u ∈ P, rd cur u < (P.length : Int)
 at_ : ∀ w : Int, 0 ≤ w → w < n → rd cur w = 0 ∨ ∃ u, u ∈ P ∧ E l u w ∧ rd cur w = rd cur u + 1
theorem DInv.step {n : Nat} {l : List S55} (hl : Ok n l) {P cur : List Int} {v : Int} (h : DInv n l P cur) (hP : P.length ≤ 1000) (hv0 : 0 ≤ v) (hv1 : v < n) (hvs : ¬ E l v v) (hvP : ∀ u ∈ P, ¬ E l v u) (hP0 : ∀ u ∈ P, 0 ≤ u) :
  DInv n l (P ++ [v]) ((row (nx n l) v).foldl (stepD v) cur) := by
 have hrow : ∀ y, y ∈ row (nx n l) v ↔ E l v y := fun y => mem_nx hl y hv0 hv1
 obtain ⟨b0, b1⟩ := h.lo v hv0 hv1
 obtain ⟨s1, s2⟩ := stepD_fold v hv0 (row (nx n l) v) cur (row_nodup _ _) (fun hm => hvs ((hrow v).1 hm)) (fun y hy => by rw [h.len]; have := ((hrow y).1 hy).ok hl; exact ⟨this.2.2.1, this.2.2.2⟩) (by omega) (by omega)
 have hold : ∀ u, 0 ≤ u → (u ∈ P ∨ u = v) → rd ((row (nx n l) v).foldl (stepD v) cur) u = rd cur u := fun u hu hm => by
  rw [s2 u hu, if_neg]
  intro hr
  have he := (hrow u).1 hr
  rcases hm with hm | hm
  ·exact hvP u hm he
  ·subst hm; exact hvs he
 refine ⟨by rw [s1, h.len], fun w w0 w1 => ?_, fun u w hu he => ?_, fun u hu => ?_, fun w w0 w1 => ?_⟩
 ·obtain ⟨c0, c1⟩ := h.lo w w0 w1
  rw [s2 w w0, List.length_append, List.length_singleton]
  split <;> omega
 ·obtain ⟨u0, u1, w0, w1⟩ := he.ok hl
  have hu' : u ∈ P ∨ u = v := by rcases List.mem_append.1 hu with h | h; exact .inl h; exact .inr (by simpa using h)
  rw [hold u u0 hu', s2 w w0]
  rcases hu' with hu' | hu'
  ·have := h.ge u w hu' he
   split <;> omega
  ·subst hu'
   rw [if_pos ((hrow w).2 he)]
   omega
 ·rw [List.length_append, List.length_singleton]
  rcases List.mem_append.1 hu with hu | hu
  ·have h1 := h.inP u hu
   rw [hold u (hP0 u hu) (.inl hu)]
   omega
  ·rw [List.mem_singleton] at hu
   subst hu
   rw [hold u hv0 (.inr rfl)]
   omega
 ·rw [s2 w w0]
  by_cases hm : w ∈ row (nx n l) v
  ·rw [if_pos hm]
   by_cases hc : rd cur w ≤ rd cur v + 1
   ·right
    refine ⟨v, by simp, (hrow w).1 hm, ?_⟩
    rw [hold v hv0 (.inr rfl)]
    omega
   ·rcases h.at_ w w0 w1 with e | ⟨u, hu, he, e⟩
    ·left; omega
    ·right
     refine ⟨u, by simp [hu], he, ?_⟩
     rw [hold u (he.ok hl).1 (.inl hu)]
     omega
  ·rw [if_neg hm]
   rcases h.at_ w w0 w1 with e | ⟨u, hu, he, e⟩
   ·exact .inl e
   ·exact .inr ⟨u, by simp [hu], he, by rw [hold u (he.ok hl).1 (.inl hu)]; exact e⟩
end Go.Proofs.Ytlldjinejckbaaa.Pd

end
section
namespace Go.Proofs.Ytlldjinejckbaaa.Pe
open Go Go.RowKit Go.Proofs.YtlldjinejckbaaaW.PrintWords Go.Proofs.Ytlldjinejckbaaa.Mod Go.Proofs.Ytlldjinejckbaaa.Lb Go.Proofs.Ytlldjinejckbaaa.Ng Go.Proofs.Ytlldjinejckbaaa.Rc Go.Proofs.Ytlldjinejckbaaa.PD Go.Proofs.Ytlldjinejckbaaa.Pg Go.Proofs.Ytlldjinejckbaaa.Tj
def uins (x : Int) : List Int → List Int
 | [] => [x]
 | y :: ys => if x < y then x :: y :: ys else if x = y then y :: ys else y :: uins x ys
def usort (xs : List Int) : List Int := xs.foldr uins []
theorem mem_uins (x z : Int) : ∀ ys, z ∈ uins x ys ↔ z = x ∨ z ∈ ys
 | [] => by simp [uins]
 | y :: ys => by
  unfold uins
  split
  ·simp
  ·split
   ·rename_i h; subst h; simp
   ·rw [List.mem_cons, mem_uins x z ys, List.mem_cons]
    constructor
    ·rintro (h | h | h); exact .inr (.inl h); exact .inl h; exact .inr (.inr h)
    ·rintro (h | h | h); exact .inr (.inl h); exact .inl h; exact .inr (.inr h)
theorem uins_strict (x : Int) : ∀ ys, ys.Pairwise (· < ·) → (uins x ys).Pairwise (· < ·)
 | [], _ => by simp [uins]
 | y :: ys, h => by
  rw [List.pairwise_cons] at h
  unfold uins
  split
  ·rename_i hx
   rw [List.pairwise_cons]
   refine ⟨fun z hz => ?_, List.pairwise_cons.2 h⟩
   rcases List.mem_cons.1 hz with hz | hz
   ·omega
   ·have := h.1 z hz; omega
  ·split
   ·exact List.pairwise_cons.2 h
   ·rw [List.pairwise_cons]
    refine ⟨fun z hz => ?_, uins_strict x ys h.2⟩
    rcases (mem_uins x z ys).1 hz with hz | hz
    ·omega
    ·exact h.1 z hz
theorem usort_spec : ∀ xs : List Int, (usort xs).Pairwise (· < ·) ∧ ∀ z, z ∈ usort xs ↔ z ∈ xs
 | [] => by simp [usort]
 | x :: xs => by
  obtain ⟨h1, h2⟩ := usort_spec xs
  exact ⟨uins_strict x _ h1, fun z => by show z ∈ uins x (usort xs) ↔ _; rw [mem_uins, h2, List.mem_cons]⟩
theorem compact_sort (xs : List Int) : Lib.compact (sortI xs) = usort xs := strict_ext (tidyRow xs).1 (usort_spec xs).1 (fun z => by rw [(tidyRow xs).2, (usort_spec xs).2])
theorem tidy_eval (rows : List (List Int)) : tidy rows = rows.map usort := by
 unfold tidy
 exact List.map_congr_left (fun r _ => compact_sort r)
def ins1 (x : Int) : List Int → List Int
 | [] => [x]
 | y :: ys => if x ≤ y then x :: y :: ys else y :: ins1 x ys
def isort (xs : List Int) : List Int := xs.foldr ins1 []
theorem ins1_perm (x : Int) : ∀ ys, (ins1 x ys).Perm (x :: ys)
 | [] => .refl _
 | y :: ys => by
  unfold ins1
  split
  ·exact .refl _
  ·exact ((ins1_perm x ys).cons y).trans (List.Perm.swap x y ys)
theorem ins1_sorted (x : Int) : ∀ ys, ys.Pairwise (· ≤ ·) → (ins1 x ys).Pairwise (· ≤ ·)
 | [], _ => by simp [ins1]
 | y :: ys, h => by
  rw [List.pairwise_cons] at h
  unfold ins1
  split
  ·rename_i hx
   rw [List.pairwise_cons]
   refine ⟨fun z hz => ?_, List.pairwise_cons.2 h⟩
   rcases List.mem_cons.1 hz with hz | hz
   ·omega
   ·have := h.1 z hz; omega
  ·rw [List.pairwise_cons]
   refine ⟨fun z hz => ?_, ins1_sorted x ys h.2⟩
   rcases List.mem_cons.1 ((ins1_perm x ys).mem_iff.1 hz) with hz | hz
   ·omega
   ·exact h.1 z hz
theorem isort_spec : ∀ xs : List Int, (isort xs).Pairwise (· ≤ ·) ∧ (isort xs).Perm xs
 | [] => by simp [isort]
 | x :: xs => by
  obtain ⟨h1, h2⟩ := isort_spec xs
  exact ⟨ins1_sorted x _ h1, (ins1_perm x _).trans (h2.cons x)⟩
theorem sortA_eq : sortA = isort := by
 funext xs
 have h1 : (sortA xs).Pairwise (· ≤ ·) := sortI_sorted xs
 have h2 : (sortA xs).Perm xs := List.mergeSort_perm _ _
 exact List.Perm.eq_of_pairwise (le := fun x y : Int => x ≤ y) (fun x y _ _ h1 h2 => by omega) h1 (isort_spec xs).1 (h2.trans (isort_spec xs).2.symm)
def shutE (s : TS) (k : Nat) : TS :=
 { s with stack := s.stack.take k, opn := (s.stack.drop k).foldl (fun o x => o.set x.toNat false) s.opn, out := s.out ++ [isort (s.stack.drop k)] }
def visitE (rows : List (List Int)) : Nat → Int → TS → Option TS
 | 0, _, _ => none
 | f + 1, v, s => if 50000 < s.stack.length then none else match visitRow (visitE rows f) v (row rows v) (s.meet v) with
  | none => none
  | some s2 => if rd s2.low v < rd s2.num v then some s2 else if 50000 < s2.stack.length ∨ 50000 < s2.out.length then none else (match s2.stack.findIdx? (· == v) with
   | some k => some (shutE s2 k)
   | none => none)
theorem visit_eq (rows : List (List Int)) : ∀ f, visit rows f = visitE rows f
 | 0 => by funext v s; rfl
 | f + 1 => by
  funext v s
  unfold visit visitE
  rw [visit_eq rows f]
  have e : ∀ (s : TS) k, s.shut k = shutE s k := fun s k => by unfold TS.shut shutE; rw [sortA_eq]
  simp only [e]
  rfl
def visitAllE (rows : List (List Int)) (n : Nat) : Nat → TS → Option TS
 | 0, s => some s
 | k + 1, s => if rd s.num ((n - (k + 1) : Nat) : Int) = 0 then (match visitE rows (n + 1) ((n - (k + 1) : Nat) : Int) s with
   | some s' => visitAllE rows n k s'
   | none => none) else visitAllE rows n k s
theorem visitAll_eq (rows : List (List Int)) (n : Nat) : ∀ k s, visitAll rows n k s = visitAllE rows n k s
 | 0, s => rfl
 | k + 1, s => by
  unfold visitAll visitAllE
  rw [visit_eq]
  split
  ·split
   ·rename_i s' h; rw [h]; exact visitAll_eq rows n k s'
   ·rename_i h; rw [h]
  ·exact visitAll_eq rows n k s
abbrev g1 : List S55 := [⟨2, 0⟩, ⟨0, 3⟩, ⟨1, 3⟩]
abbrev g2 : List S55 := [⟨2, 0⟩, ⟨0, 3⟩, ⟨1, 3⟩, ⟨3, 2⟩]
abbrev g3 : List S55 := [⟨2, 0⟩, ⟨0, 3⟩, ⟨1, 3⟩, ⟨1, 1⟩]
theorem t1 : tidy (built 4 g1 true) = [[3], [3], [0], []] := by rw [tidy_eval]; decide +kernel
theorem t1p : tidy (built 4 g1 false) = [[2], [], [], [0, 1]] := by rw [tidy_eval]; decide +kernel
theorem t2 : tidy (built 4 g2 true) = [[3], [3], [0], [2]] := by rw [tidy_eval]; decide +kernel
theorem t2p : tidy (built 4 g2 false) = [[2], [], [3], [0, 1]] := by rw [tidy_eval]; decide +kernel
theorem t3 : tidy (built 4 g3 true) = [[3], [1, 3], [0], []] := by rw [tidy_eval]; decide +kernel
theorem t3p : tidy (built 4 g3 false) = [[2], [1], [], [0, 1]] := by rw [tidy_eval]; decide +kernel
theorem o1 : Od.orderOf 4 g1 = some ([1, 2, 0, 3], 0) := by unfold Od.orderOf; rw [t1, t1p]; decide +kernel
theorem o2 : Od.orderOf 4 g2 = some ([], 50) := by unfold Od.orderOf; rw [t2, t2p]; decide +kernel
theorem d1 : Dp.depthOf 4 g1 = some ([1, 0, 0, 2], 0) := by unfold Dp.depthOf; rw [o1, t1]; decide +kernel
theorem d2 : Dp.depthOf 4 g2 = some ([], 50) := by unfold Dp.depthOf; rw [o2]; rfl
theorem c1 : Cy.cycleOf 4 g1 = some ([], 4) := by unfold Cy.cycleOf; rw [t1, t1p]; decide +kernel
theorem c2 : Cy.cycleOf 4 g2 = some ([0, 3, 2], 0) := by unfold Cy.cycleOf; rw [t2, t2p]; decide +kernel
theorem c3 : Cy.cycleOf 4 g3 = some ([1], 0) := by unfold Cy.cycleOf; rw [t3, t3p]; decide +kernel
theorem k1 : Tj.compsOf (tidy (built 4 g2 true)) 4 = some [[0, 2, 3], [1]] := by
 unfold Tj.compsOf
 rw [t2, visitAll_eq]
 have e : visitAllE [[3], [3], [0], [2]] 4 4 (Tj.start 4) = some { count := 4, num := [1, 4, 3, 2], low := [1, 4, 1, 1], opn := [false, false, false, false], stack := [], out := [[0, 2, 3], [1]] } := by kernel_rfl
 rw [e]
 have hf : Tj.fine [[0, 2, 3], [1]] = true := by decide +kernel
 simp only
 rw [if_pos hf, List.mergeSort_of_pairwise (by decide +kernel)]
theorem ch1 : Ck.checkOf 4 g1 [2, 0, 1, 3] = 0 := by decide +kernel
theorem ch2 : Ck.checkOf 4 g1 [0, 1, 2, 3] = 6 := by decide +kernel
theorem o0 : Od.orderOf 0 [] = some ([], 0) := by unfold Od.orderOf; rw [tidy_eval, tidy_eval]; decide +kernel
theorem sortI_eq : sortI = isort := sortA_eq
theorem r1 : Rc.reachOf 4 g1 2 = [0, 2, 3] := by unfold Rc.reachOf; rw [t1, sortI_eq]; decide +kernel
theorem r2 : Rc.reachOf 4 g1 4 = [] := by decide +kernel
end Go.Proofs.Ytlldjinejckbaaa.Pe

end
