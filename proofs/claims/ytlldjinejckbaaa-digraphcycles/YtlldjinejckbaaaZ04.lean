/- The law DigraphCycles of package digraph holds for every input: what it is called with is opened, the printed text of the law and its plain proof are joined. (Part 5 of 6 of its proof.) -/
import Derived.Test.YtlldjinejckbaaaZ03
section
namespace Go.Proofs.Ytlldjinejckbaaa.PD
open Go.RowKit Go.Proofs.YtlldjinejckbaaaW.PrintWords Go.Proofs.YtlldjinejckbaaaW.PrintLast Go.Proofs.YtlldjinejckbaaaW.PrintMore
attribute [local go_sem] max2_int min2_int max_two min_two max_three min_three max_four min_four
set_option linter.unusedVariables false
set_option linter.unusedSimpArgs false
mutual
def wireloomref05_Made.l0 : Nat → Int → Int → Int → Int → List Int → Int → List (S55) → Option (Int × (List (S55)))
  | 0, _, _, _, _, _, _, _ => none
  | k + 1, x3, x5, x257000, x257001, x257002, x259000, x259001 => if (wrap64 (x5 + 1)) < (x257002.length : Int) then (if x5 < 60 then (wireloomref05_Made.j1 k x3 x5 (decide (x3 > 0)) x257000 x257001 x257002 x259000 x259001) else (wireloomref05_Made.j1 k x3 x5 false x257000 x257001 x257002 x259000 x259001)) else (wireloomref05_Made.j1 k x3 x5 false x257000 x257001 x257002 x259000 x259001)
def wireloomref05_Made.j1 : Nat → Int → Int → Bool → Int → Int → List Int → Int → List (S55) → Option (Int × (List (S55)))
  | 0, _, _, _, _, _, _, _, _ => none
  | k + 1, x3, x5, x27, x257000, x257001, x257002, x259000, x259001 => if x27 = true then (if 0 ≤ x5 then (if x5 < (x257002.length : Int) then (if x3 = 0 then (none) else (if 0 ≤ (wrap64 (x5 + 1)) then (if (wrap64 (x5 + 1)) < (x257002.length : Int) then (if (Int.tmod x257001 2) = 0 then (if (Int.tmod (wrap64 (rd x257002 x5)) x3) = (Int.tmod (wrap64 (rd x257002 (wrap64 (x5 + 1)))) x3) then (wireloomref05_Made.l0 k x3 (wrap64 (x5 + 2)) x257000 x257001 x257002 x259000 x259001) else (if (Int.tmod (wrap64 (rd x257002 x5)) x3) > (Int.tmod (wrap64 (rd x257002 (wrap64 (x5 + 1)))) x3) then (wireloomref05_Made.j2 k x3 x5 (Int.tmod (wrap64 (rd x257002 (wrap64 (x5 + 1)))) x3) (Int.tmod (wrap64 (rd x257002 x5)) x3) x257000 x257001 x257002 x259000 x259001) else (wireloomref05_Made.j2 k x3 x5 (Int.tmod (wrap64 (rd x257002 x5)) x3) (Int.tmod (wrap64 (rd x257002 (wrap64 (x5 + 1)))) x3) x257000 x257001 x257002 x259000 x259001))) else (if x259001.length < 8796093022208 then (wireloomref05_Made.l0 k x3 (wrap64 (x5 + 2)) x257000 x257001 x257002 x259000 (x259001 ++ [(⟨Int.tmod (wrap64 (rd x257002 x5)) x3, Int.tmod (wrap64 (rd x257002 (wrap64 (x5 + 1)))) x3⟩ : S55)])) else (none))) else (none)) else (none))) else (none)) else (none)) else (some (x259000, x259001))
def wireloomref05_Made.j2 : Nat → Int → Int → Int → Int → Int → Int → List Int → Int → List (S55) → Option (Int × (List (S55)))
  | 0, _, _, _, _, _, _, _, _, _ => none
  | k + 1, x3, x5, x6, x7, x257000, x257001, x257002, x259000, x259001 => if (Int.tmod x257001 4) = 2 then (if x3 = 0 then (none) else (if (Int.tmod x3 5) = 0 then (wireloomref05_Made.l0 k x3 (wrap64 (x5 + 2)) x257000 x257001 x257002 x259000 x259001) else (if x259001.length < 8796093022208 then (wireloomref05_Made.l0 k x3 (wrap64 (x5 + 2)) x257000 x257001 x257002 x259000 (x259001 ++ [(⟨Int.tmod (wrap64 ((wrap64 (5 * x6)) + 3)) x3, Int.tmod (wrap64 ((wrap64 (5 * x7)) + 3)) x3⟩ : S55)])) else (none)))) else (if (Int.tmod x3 5) = 0 then (if x259001.length < 8796093022208 then (wireloomref05_Made.l0 k x3 (wrap64 (x5 + 2)) x257000 x257001 x257002 x259000 (x259001 ++ [(⟨x6, x7⟩ : S55)])) else (none)) else (if x259001.length < 8796093022208 then (wireloomref05_Made.l0 k x3 (wrap64 (x5 + 2)) x257000 x257001 x257002 x259000 (x259001 ++ [(⟨x6, x7⟩ : S55)])) else (none)))
end
def wireloomref05_Made.f (k : Nat) (a0_0 : Int) (a0_1 : Int) (l0_2 : List Int) : Option (Int × (List (S55))) := wireloomref05_Made.l0 k (wrap64 (Int.tmod a0_0 13)) 0 a0_0 a0_1 l0_2 (wrap64 (Int.tmod a0_0 13)) ([] : List (S55))
theorem wireloomref05_Made.mono_l : ∀ k, (∀ y0 y1 y2 y3 y4 y5 y6, LeO (wireloomref05_Made.l0 k y0 y1 y2 y3 y4 y5 y6) (wireloomref05_Made.l0 (k + 1) y0 y1 y2 y3 y4 y5 y6)) ∧ (∀ y0 y1 y2 y3 y4 y5 y6 y7, LeO (wireloomref05_Made.j1 k y0 y1 y2 y3 y4 y5 y6 y7) (wireloomref05_Made.j1 (k + 1) y0 y1 y2 y3 y4 y5 y6 y7)) ∧ (∀ y0 y1 y2 y3 y4 y5 y6 y7 y8, LeO (wireloomref05_Made.j2 k y0 y1 y2 y3 y4 y5 y6 y7 y8) (wireloomref05_Made.j2 (k + 1) y0 y1 y2 y3 y4 y5 y6 y7 y8))
  | 0 => ⟨fun _ _ _ _ _ _ _ r h => by simp [wireloomref05_Made.l0] at h, fun _ _ _ _ _ _ _ _ r h => by simp [wireloomref05_Made.j1] at h, fun _ _ _ _ _ _ _ _ _ r h => by simp [wireloomref05_Made.j2] at h⟩
  | k + 1 => by
    obtain ⟨ih0, ih1, ih2⟩ := wireloomref05_Made.mono_l k
    refine ⟨?_, ?_, ?_⟩
    · intro y0 y1 y2 y3 y4 y5 y6
      unfold wireloomref05_Made.l0
      repeat' first
      | (with_reducible exact ih0 _ _ _ _ _ _ _)
      | (with_reducible exact ih1 _ _ _ _ _ _ _ _)
      | (with_reducible exact ih2 _ _ _ _ _ _ _ _ _)
      | (with_reducible exact LeO.refl _)
      | (with_reducible exact LeO.none _)
      | (with_reducible refine LeO.ite ?_ ?_)
      | (with_reducible refine LeO.bind ?_ (fun _ => ?_))
      | exact ih0 _ _ _ _ _ _ _
      | exact ih1 _ _ _ _ _ _ _ _
      | exact ih2 _ _ _ _ _ _ _ _ _
      | exact LeO.none _
      | refine LeO.ite ?_ ?_
      | refine LeO.bind ?_ (fun _ => ?_)
    · intro y0 y1 y2 y3 y4 y5 y6 y7
      unfold wireloomref05_Made.j1
      repeat' first
      | (with_reducible exact ih0 _ _ _ _ _ _ _)
      | (with_reducible exact ih1 _ _ _ _ _ _ _ _)
      | (with_reducible exact ih2 _ _ _ _ _ _ _ _ _)
      | (with_reducible exact LeO.refl _)
      | (with_reducible exact LeO.none _)
      | (with_reducible refine LeO.ite ?_ ?_)
      | (with_reducible refine LeO.bind ?_ (fun _ => ?_))
      | exact ih0 _ _ _ _ _ _ _
      | exact ih1 _ _ _ _ _ _ _ _
      | exact ih2 _ _ _ _ _ _ _ _ _
      | exact LeO.none _
      | refine LeO.ite ?_ ?_
      | refine LeO.bind ?_ (fun _ => ?_)
    · intro y0 y1 y2 y3 y4 y5 y6 y7 y8
      unfold wireloomref05_Made.j2
      repeat' first
      | (with_reducible exact ih0 _ _ _ _ _ _ _)
      | (with_reducible exact ih1 _ _ _ _ _ _ _ _)
      | (with_reducible exact ih2 _ _ _ _ _ _ _ _ _)
      | (with_reducible exact LeO.refl _)
      | (with_reducible exact LeO.none _)
      | (with_reducible refine LeO.ite ?_ ?_)
      | (with_reducible refine LeO.bind ?_ (fun _ => ?_))
      | exact ih0 _ _ _ _ _ _ _
      | exact ih1 _ _ _ _ _ _ _ _
      | exact ih2 _ _ _ _ _ _ _ _ _
      | exact LeO.none _
      | refine LeO.ite ?_ ?_
      | refine LeO.bind ?_ (fun _ => ?_)
theorem wireloomref05_Made.mono : ∀ a0 a1 a2 k, LeO (wireloomref05_Made.f k a0 a1 a2) (wireloomref05_Made.f (k + 1) a0 a1 a2) := by
  intro a0 a1 a2 k
  obtain ⟨ih0, ih1, ih2⟩ := wireloomref05_Made.mono_l k
  unfold wireloomref05_Made.f
  repeat' first
      | (with_reducible exact ih0 _ _ _ _ _ _ _)
      | (with_reducible exact ih1 _ _ _ _ _ _ _ _)
      | (with_reducible exact ih2 _ _ _ _ _ _ _ _ _)
      | (with_reducible exact LeO.refl _)
      | (with_reducible exact LeO.none _)
      | (with_reducible refine LeO.ite ?_ ?_)
      | (with_reducible refine LeO.bind ?_ (fun _ => ?_))
      | exact ih0 _ _ _ _ _ _ _
      | exact ih1 _ _ _ _ _ _ _ _
      | exact ih2 _ _ _ _ _ _ _ _ _
      | exact LeO.none _
      | refine LeO.ite ?_ ?_
      | refine LeO.bind ?_ (fun _ => ?_)
set_option maxHeartbeats 8000000 in
set_option maxRecDepth 100000 in
theorem wireloomref05_Made.calls (k : Nat) (a0_0 : Int) (a0_1 : Int) (A0_2 : Option Addr) (c0_2 : Nat) (l0_2 : List Int) (r1 : Int) (r2 : List (S55)) (w : World) (hr0_2 : Kd.C (Kd.int .u8) w A0_2 l0_2.length l0_2) (hc0_2 : l0_2.length ≤ c0_2) (h : wireloomref05_Made.f k a0_0 a0_1 l0_2 = some (r1, r2)) :
    Calls Try.prog 11 #[.agg #[.int .u8 a0_0, .int .u8 a0_1, .slice A0_2 l0_2.length c0_2]] w fun e w' => ∃ v1_ : Value, e = .returned (.agg #[.int .i64 r1, v1_]) ∧ Kd.R k55 55 w' w.heap.size (fun _ => True) v1_ r2 ∧ Below w.heap.size w w' := by
  have hu24 := Try.underlying24
  have hu31 := Try.underlying31
  have hu55 := Try.underlying55
  have HR0_2 := Aside0.mk hr0_2
  have HC0_2 := Aside0.mk hc0_2
  clear hr0_2 hc0_2
  have HB := Aside0.mk (Below.refl w.heap.size w)
  have H : (wireloomref05_Made.l0 k (wrap64 (Int.tmod a0_0 13)) 0 a0_0 a0_1 l0_2 (wrap64 (Int.tmod a0_0 13)) ([] : List (S55))) = some (r1, r2) := h
  clear h
  have H' := Aside0.mk H
  clear H
  go_enter Try.func11, Try.ntmps11
  go_wp2_with (first | ((with_reducible refine gate_dst (N := 1) rfl ?_); refine box_event ?hg (N := 1) ?hd (cs := #[.int .u8 a0_0, .int .u8 a0_1, .slice A0_2 l0_2.length c0_2]) (t := 24) ?hr ?_; (case hd => rfl); (case hg => rfl); (case hr => first | (go_simp; done) | (go_simp; rfl)); intro gb256 hg w2 hbox hb; have n0_ := Aside0.mk (below_step (by repeat (first | (with_reducible first | exact HB.out | apply below_alloc | apply pw_below_drewN | apply below_drew1) | exact HB.out)) hb); have n1_ := Aside0.mk (hbox); have n2_ := Aside0.mk ((by rw [hg]; exact (below_size (by repeat (first | (with_reducible first | exact HB.out | apply below_alloc | apply pw_below_drewN | apply below_drew1) | exact HB.out))) : w.heap.size ≤ gb256)); have n3_ := Aside0.mk ((by rw [hg]; exact (below_size (by repeat (first | (with_reducible first | exact HB.out | apply below_alloc | apply pw_below_drewN | apply below_drew1) | exact HB.out))) : w.heap.size ≤ gb256)); clear HB; have HB := n0_; have BK256 := n1_; have GW256 := n2_; have GE256 := n3_; clear n0_ n1_ n2_ n3_; clear hb hbox hg) | ((with_reducible refine gate_dst (N := 2) rfl ?_); refine box_event ?hg (N := 2) ?hd (cs := #[.int .i64 0, .slice none 0 0]) (t := 31) ?hr ?_; (case hd => rfl); (case hg => rfl); (case hr => first | (go_simp; done) | (go_simp; rfl)); intro gb257 hg w3 hbox hb; have n0_ := Aside0.mk (blk_below (g := gb256) (o := .cells #[.int .u8 a0_0, .int .u8 a0_1, .slice A0_2 l0_2.length c0_2] 24 (0, 0)) (by (with_reducible repeat (first | refine blk_drewN ?_ _ | refine blk_drew ?_ | refine blk_alloc ?_ _)); exact BK256.out) hb); have n1_ := Aside0.mk (below_step (by repeat (first | (with_reducible first | exact HB.out | apply below_alloc | apply pw_below_drewN | apply below_drew1 | refine below_set ?_ GE256.out) | exact HB.out)) hb); have n2_ := Aside0.mk (hbox); have n3_ := Aside0.mk ((by rw [hg]; exact (below_size (by repeat (first | (with_reducible first | exact HB.out | apply below_alloc | apply pw_below_drewN | apply below_drew1 | refine below_set ?_ GE256.out) | exact HB.out))) : w.heap.size ≤ gb257)); have n4_ := Aside0.mk ((by rw [hg]; exact (below_size (by repeat (first | (with_reducible first | exact HB.out | apply below_alloc | apply pw_below_drewN | apply below_drew1 | refine below_set ?_ GE256.out) | exact HB.out))) : w.heap.size ≤ gb257)); have n5_ := Aside0.mk ((by rw [hg]; exact Nat.ne_of_lt (blk_lt (g := gb256) (o := .cells #[.int .u8 a0_0, .int .u8 a0_1, .slice A0_2 l0_2.length c0_2] 24 (0, 0)) (by (with_reducible repeat (first | refine blk_drewN ?_ _ | refine blk_drew ?_ | refine blk_alloc ?_ _)); exact BK256.out)) : gb256 ≠ gb257)); have n6_ := Aside0.mk ((by rw [hg]; exact Nat.ne_of_gt (blk_lt (g := gb256) (o := .cells #[.int .u8 a0_0, .int .u8 a0_1, .slice A0_2 l0_2.length c0_2] 24 (0, 0)) (by (with_reducible repeat (first | refine blk_drewN ?_ _ | refine blk_drew ?_ | refine blk_alloc ?_ _)); exact BK256.out)) : gb257 ≠ gb256)); clear BK256; clear HB; have BK256 := n0_; have HB := n1_; have BK257 := n2_; have GW257 := n3_; have GE257 := n4_; have NB256_257 := n5_; have NB257_256 := n6_; clear n0_ n1_ n2_ n3_ n4_ n5_ n6_; clear hb hbox hg; have hnb4 := NB256_257.out; have hnc4 := NB257_256.out; have hcz5_0 : w3.cell? ⟨gb256, 0, none⟩ = some (.int .u8 a0_0) := (blk_cell BK256.out 0).trans rfl; have hcz5_1 : w3.cell? ⟨gb256, 1, none⟩ = some (.int .u8 a0_1) := (blk_cell BK256.out 1).trans rfl; have hcz5_2 : w3.cell? ⟨gb256, 2, none⟩ = some (.slice A0_2 l0_2.length c0_2) := (blk_cell BK256.out 2).trans rfl; have hfz5_0 := blk_frozen BK256.out 0; have hfz5_1 := blk_frozen BK256.out 1; have hfz5_2 := blk_frozen BK256.out 2) | ((with_reducible refine gate_dst (N := 4) rfl ?_); refine box_event ?hg (N := 4) ?hd (cs := #[.int .i64 0, .slice none 0 0]) (t := 31) ?hr ?_; (case hd => rfl); (case hg => rfl); (case hr => first | (go_simp; done) | (go_simp; rfl)); intro gb258 hg w6 hbox hb; have n0_ := Aside0.mk (blk_below (g := gb256) (o := .cells #[.int .u8 a0_0, .int .u8 a0_1, .slice A0_2 l0_2.length c0_2] 24 (0, 0)) (by (with_reducible repeat (first | refine blk_drewN ?_ _ | refine blk_drew ?_ | refine blk_alloc ?_ _)); exact BK256.out) hb); have n1_ := Aside0.mk (blk_below (g := gb257) (o := .cells #[.int .i64 0, .slice none 0 0] 31 (0, 0)) (by (with_reducible repeat (first | refine blk_drewN ?_ _ | refine blk_drew ?_ | refine blk_alloc ?_ _)); exact BK257.out) hb); have n2_ := Aside0.mk (below_step (by repeat (first | (with_reducible first | exact HB.out | apply below_alloc | apply pw_below_drewN | apply below_drew1 | refine below_set ?_ GE256.out | refine below_set ?_ GE257.out) | exact HB.out)) hb); have n3_ := Aside0.mk (hbox); have n4_ := Aside0.mk ((by rw [hg]; exact (below_size (by repeat (first | (with_reducible first | exact HB.out | apply below_alloc | apply pw_below_drewN | apply below_drew1 | refine below_set ?_ GE256.out | refine below_set ?_ GE257.out) | exact HB.out))) : w.heap.size ≤ gb258)); have n5_ := Aside0.mk ((by rw [hg]; exact (below_size (by repeat (first | (with_reducible first | exact HB.out | apply below_alloc | apply pw_below_drewN | apply below_drew1 | refine below_set ?_ GE256.out | refine below_set ?_ GE257.out) | exact HB.out))) : w.heap.size ≤ gb258)); have n6_ := Aside0.mk ((by rw [hg]; exact Nat.ne_of_lt (blk_lt (g := gb256) (o := .cells #[.int .u8 a0_0, .int .u8 a0_1, .slice A0_2 l0_2.length c0_2] 24 (0, 0)) (by (with_reducible repeat (first | refine blk_drewN ?_ _ | refine blk_drew ?_ | refine blk_alloc ?_ _)); exact BK256.out)) : gb256 ≠ gb258)); have n7_ := Aside0.mk ((by rw [hg]; exact Nat.ne_of_gt (blk_lt (g := gb256) (o := .cells #[.int .u8 a0_0, .int .u8 a0_1, .slice A0_2 l0_2.length c0_2] 24 (0, 0)) (by (with_reducible repeat (first | refine blk_drewN ?_ _ | refine blk_drew ?_ | refine blk_alloc ?_ _)); exact BK256.out)) : gb258 ≠ gb256)); have n8_ := Aside0.mk ((by rw [hg]; exact Nat.ne_of_lt (blk_lt (g := gb257) (o := .cells #[.int .i64 0, .slice none 0 0] 31 (0, 0)) (by (with_reducible repeat (first | refine blk_drewN ?_ _ | refine blk_drew ?_ | refine blk_alloc ?_ _)); exact BK257.out)) : gb257 ≠ gb258)); have n9_ := Aside0.mk ((by rw [hg]; exact Nat.ne_of_gt (blk_lt (g := gb257) (o := .cells #[.int .i64 0, .slice none 0 0] 31 (0, 0)) (by (with_reducible repeat (first | refine blk_drewN ?_ _ | refine blk_drew ?_ | refine blk_alloc ?_ _)); exact BK257.out)) : gb258 ≠ gb257)); clear BK256; clear BK257; clear HB; have BK256 := n0_; have BK257 := n1_; have HB := n2_; have BK258 := n3_; have GW258 := n4_; have GE258 := n5_; have NB256_258 := n6_; have NB258_256 := n7_; have NB257_258 := n8_; have NB258_257 := n9_; clear n0_ n1_ n2_ n3_ n4_ n5_ n6_ n7_ n8_ n9_; clear hb hbox hg; have hnb7 := NB258_256.out; have hnc7 := NB256_258.out; have hnb8 := NB258_257.out; have hnc8 := NB257_258.out; have hcz9_0 : w6.cell? ⟨gb258, 0, none⟩ = some (.int .i64 0) := (blk_cell BK258.out 0).trans rfl; have hcz9_1 : w6.cell? ⟨gb258, 1, none⟩ = some (.slice none 0 0) := (blk_cell BK258.out 1).trans rfl; have hfz9_0 := blk_frozen BK258.out 0; have hfz9_1 := blk_frozen BK258.out 1))
  go_loopg [5] k (fun kq v5 w' => ∃ (x5_1 : Int) (x259001_1 : List (S55)) (u259001 : Value), v5 = .int .i64 x5_1 ∧ Aside0 (wireloomref05_Made.l0 kq (wrap64 (Int.tmod a0_0 13)) x5_1 a0_0 a0_1 l0_2 (wrap64 (Int.tmod a0_0 13)) x259001_1 = some (r1, r2)) ∧ Aside0 (kq ≤ k) ∧ Aside0 (Kd.R k55 55 w' w.heap.size (fun _ => True) u259001 x259001_1) ∧ Aside0 (w'.heap[gb256]? = some (.cells #[.int .u8 a0_0, .int .u8 a0_1, (.slice A0_2 l0_2.length c0_2)] 24 (0, 0))) ∧ Aside0 (w'.heap[gb257]? = some (.cells #[.int .i64 0, (.slice none 0 0)] 31 (0, 0))) ∧ Aside0 (w'.heap[gb258]? = some (.cells #[.int .i64 (wrap64 (Int.tmod a0_0 13)), u259001] 31 (0, 0))) ∧ Aside0 (Below w.heap.size w w'))
  case atStart => exact ⟨(0), (([] : List (S55))), (.slice none 0 0), (by first | rfl | (simp; done) | (simp [*]; done)), H', ⟨Nat.le_refl _⟩, ⟨by first | exact Kd.R_nil _ _ _ _ _ | exact Kd.N_nil _ _ _ _ _ | exact Kd.V_nil _ _ _ _ _ | exact Kd.Q_nil _ _ _ _ _ | exact Kd.S_nil _ _ _ _ _⟩, ⟨by (with_reducible repeat (first | refine blk_drewN ?_ _ | refine blk_drew ?_ | refine blk_alloc ?_ _)); refine blk_far ?_ NB256_258.out _; (with_reducible repeat (first | refine blk_drewN ?_ _ | refine blk_drew ?_ | refine blk_alloc ?_ _)); refine blk_far ?_ NB256_258.out _; (with_reducible repeat (first | refine blk_drewN ?_ _ | refine blk_drew ?_ | refine blk_alloc ?_ _)); exact BK256.out⟩, ⟨by (with_reducible repeat (first | refine blk_drewN ?_ _ | refine blk_drew ?_ | refine blk_alloc ?_ _)); refine blk_far ?_ NB257_258.out _; (with_reducible repeat (first | refine blk_drewN ?_ _ | refine blk_drew ?_ | refine blk_alloc ?_ _)); refine blk_far ?_ NB257_258.out _; (with_reducible repeat (first | refine blk_drewN ?_ _ | refine blk_drew ?_ | refine blk_alloc ?_ _)); exact BK257.out⟩, ⟨by (with_reducible repeat (first | refine blk_drewN ?_ _ | refine blk_drew ?_ | refine blk_alloc ?_ _)); refine blk_put (cs := #[.int .i64 (wrap64 (Int.tmod a0_0 13)), .slice none 0 0]) ?_ 1 _ rfl; (with_reducible repeat (first | refine blk_drewN ?_ _ | refine blk_drew ?_ | refine blk_alloc ?_ _)); refine blk_put (cs := #[.int .i64 0, .slice none 0 0]) ?_ 0 _ rfl; (with_reducible repeat (first | refine blk_drewN ?_ _ | refine blk_drew ?_ | refine blk_alloc ?_ _)); exact BK258.out⟩, ⟨by repeat (first | (with_reducible first | exact HB.out | apply below_alloc | apply pw_below_drewN | apply below_drew1 | refine below_set ?_ GE256.out | refine below_set ?_ GE257.out | refine below_set ?_ GE258.out) | exact HB.out)⟩⟩
  case round =>
    clear H'
    try clear c1
    try clear p2
    try clear c4
    try clear p6
    try clear c7
    try clear c8
    try clear hcz5_0
    try clear hcz5_1
    try clear hcz5_2
    try clear hcz9_0
    try clear hcz9_1
    try clear hfz5_0
    try clear hfz5_1
    try clear hfz5_2
    try clear hfz9_0
    try clear hfz9_1
    obtain ⟨x5_1, x259001_1, u259001, rfl, HA, HK1, HO_259001, BK256, BK257, BK258, HB⟩ := hrel
    cases gk with
    | zero => exact absurd HA.out (by simp [wireloomref05_Made.l0])
    | succ k1 =>
      have H := HA.out
      clear HA
      simp only [wireloomref05_Made.l0] at H
      have HC10 := Aside0.mk H
      clear H
      go_upto_region 4 with (fail)
      go_cut [27] (fun v27 wc => ∃ (kq : Nat) (x27_9 : Bool), v27 = .bool x27_9 ∧ Aside0 (wireloomref05_Made.j1 kq (wrap64 (Int.tmod a0_0 13)) x5_1 x27_9 a0_0 a0_1 l0_2 (wrap64 (Int.tmod a0_0 13)) x259001_1 = some (r1, r2)) ∧ Aside0 (kq ≤ k1) ∧ Aside0 (Kd.R k55 55 wc w.heap.size (fun _ => True) u259001 x259001_1) ∧ Aside0 (wc.heap[gb256]? = some (.cells #[.int .u8 a0_0, .int .u8 a0_1, (.slice A0_2 l0_2.length c0_2)] 24 (0, 0))) ∧ Aside0 (wc.heap[gb257]? = some (.cells #[.int .i64 0, (.slice none 0 0)] 31 (0, 0))) ∧ Aside0 (wc.heap[gb258]? = some (.cells #[.int .i64 (wrap64 (Int.tmod a0_0 13)), u259001] 31 (0, 0))) ∧ Aside0 (Below w.heap.size w wc))
      case first =>
        have H := HC10.out
        clear HC10
        by_cases c11 : (wrap64 (x5_1 + 1)) < (l0_2.length : Int)
        · rw [if_pos c11] at H
          have c11b0 : decide ((wrap64 (x5_1 + 1)) < (l0_2.length : Int)) = true := decide_eq_true c11
          clear c11
          (first | rw [c11b0] | (simp only [i64_w, i32_w]; rw [c11b0]) | skip)
          by_cases c12 : x5_1 < 60
          · rw [if_pos c12] at H
            have c12b0 : decide (x5_1 < 60) = true := decide_eq_true c12
            clear c12
            have H' := Aside0.mk H
            clear H
            have hnb13 := NB256_257.out
            have hnc13 := NB257_256.out
            have hnb14 := NB256_258.out
            have hnc14 := NB258_256.out
            have hcz15_0 : wr.cell? ⟨gb256, 0, none⟩ = some (.int .u8 a0_0) := (blk_cell BK256.out 0).trans rfl
            have hcz15_1 : wr.cell? ⟨gb256, 1, none⟩ = some (.int .u8 a0_1) := (blk_cell BK256.out 1).trans rfl
            have hcz15_2 : wr.cell? ⟨gb256, 2, none⟩ = some (.slice A0_2 l0_2.length c0_2) := (blk_cell BK256.out 2).trans rfl
            have hfz15_0 := blk_frozen BK256.out 0
            have hfz15_1 := blk_frozen BK256.out 1
            have hfz15_2 := blk_frozen BK256.out 2
            go_wp2
            go_meet
            case rel => exact ⟨_, (decide ((wrap64 (Int.tmod a0_0 13)) > 0)), (by first | rfl | (simp; done) | (simp [*]; done)), H', ⟨by have := HK1.out; first | omega | exact Nat.le_refl _⟩, ⟨by (with_reducible repeat (first | apply Kd.R_alloc | apply Kd.R_drewN | apply Kd.R_drew)); exact HO_259001.out⟩, ⟨by (with_reducible repeat (first | refine blk_drewN ?_ _ | refine blk_drew ?_ | refine blk_alloc ?_ _)); exact BK256.out⟩, ⟨by (with_reducible repeat (first | refine blk_drewN ?_ _ | refine blk_drew ?_ | refine blk_alloc ?_ _)); exact BK257.out⟩, ⟨by (with_reducible repeat (first | refine blk_drewN ?_ _ | refine blk_drew ?_ | refine blk_alloc ?_ _)); exact BK258.out⟩, ⟨by repeat (first | (with_reducible first | exact HB.out | apply below_alloc | apply pw_below_drewN | apply below_drew1 | refine below_set ?_ GE256.out | refine below_set ?_ GE257.out | refine below_set ?_ GE258.out) | exact HB.out)⟩⟩
          · rw [if_neg c12] at H
            have c12b0 : decide (x5_1 < 60) = false := decide_eq_false c12
            clear c12
            have H' := Aside0.mk H
            clear H
            have hnb16 := NB256_257.out
            have hnc16 := NB257_256.out
            have hnb17 := NB256_258.out
            have hnc17 := NB258_256.out
            have hcz18_0 : wr.cell? ⟨gb256, 0, none⟩ = some (.int .u8 a0_0) := (blk_cell BK256.out 0).trans rfl
            have hcz18_1 : wr.cell? ⟨gb256, 1, none⟩ = some (.int .u8 a0_1) := (blk_cell BK256.out 1).trans rfl
            have hcz18_2 : wr.cell? ⟨gb256, 2, none⟩ = some (.slice A0_2 l0_2.length c0_2) := (blk_cell BK256.out 2).trans rfl
            have hfz18_0 := blk_frozen BK256.out 0
            have hfz18_1 := blk_frozen BK256.out 1
            have hfz18_2 := blk_frozen BK256.out 2
            go_wp2
            go_meet
            case rel => exact ⟨_, (false), (by first | rfl | (simp; done) | (simp [*]; done)), H', ⟨by have := HK1.out; first | omega | exact Nat.le_refl _⟩, ⟨by (with_reducible repeat (first | apply Kd.R_alloc | apply Kd.R_drewN | apply Kd.R_drew)); exact HO_259001.out⟩, ⟨by (with_reducible repeat (first | refine blk_drewN ?_ _ | refine blk_drew ?_ | refine blk_alloc ?_ _)); exact BK256.out⟩, ⟨by (with_reducible repeat (first | refine blk_drewN ?_ _ | refine blk_drew ?_ | refine blk_alloc ?_ _)); exact BK257.out⟩, ⟨by (with_reducible repeat (first | refine blk_drewN ?_ _ | refine blk_drew ?_ | refine blk_alloc ?_ _)); exact BK258.out⟩, ⟨by repeat (first | (with_reducible first | exact HB.out | apply below_alloc | apply pw_below_drewN | apply below_drew1 | refine below_set ?_ GE256.out | refine below_set ?_ GE257.out | refine below_set ?_ GE258.out) | exact HB.out)⟩⟩
        · rw [if_neg c11] at H
          have c11b0 : decide ((wrap64 (x5_1 + 1)) < (l0_2.length : Int)) = false := decide_eq_false c11
          clear c11
          (first | rw [c11b0] | (simp only [i64_w, i32_w]; rw [c11b0]) | skip)
          have H' := Aside0.mk H
          clear H
          have hnb19 := NB256_257.out
          have hnc19 := NB257_256.out
          have hnb20 := NB256_258.out
          have hnc20 := NB258_256.out
          have hcz21_0 : wr.cell? ⟨gb256, 0, none⟩ = some (.int .u8 a0_0) := (blk_cell BK256.out 0).trans rfl
          have hcz21_1 : wr.cell? ⟨gb256, 1, none⟩ = some (.int .u8 a0_1) := (blk_cell BK256.out 1).trans rfl
          have hcz21_2 : wr.cell? ⟨gb256, 2, none⟩ = some (.slice A0_2 l0_2.length c0_2) := (blk_cell BK256.out 2).trans rfl
          have hfz21_0 := blk_frozen BK256.out 0
          have hfz21_1 := blk_frozen BK256.out 1
          have hfz21_2 := blk_frozen BK256.out 2
          go_wp2
          go_meet
          case rel => exact ⟨_, (false), (by first | rfl | (simp; done) | (simp [*]; done)), H', ⟨by have := HK1.out; first | omega | exact Nat.le_refl _⟩, ⟨by (with_reducible repeat (first | apply Kd.R_alloc | apply Kd.R_drewN | apply Kd.R_drew)); exact HO_259001.out⟩, ⟨by (with_reducible repeat (first | refine blk_drewN ?_ _ | refine blk_drew ?_ | refine blk_alloc ?_ _)); exact BK256.out⟩, ⟨by (with_reducible repeat (first | refine blk_drewN ?_ _ | refine blk_drew ?_ | refine blk_alloc ?_ _)); exact BK257.out⟩, ⟨by (with_reducible repeat (first | refine blk_drewN ?_ _ | refine blk_drew ?_ | refine blk_alloc ?_ _)); exact BK258.out⟩, ⟨by repeat (first | (with_reducible first | exact HB.out | apply below_alloc | apply pw_below_drewN | apply below_drew1 | refine below_set ?_ GE256.out | refine below_set ?_ GE257.out | refine below_set ?_ GE258.out) | exact HB.out)⟩⟩
      case rest =>
        clear HC10
        try clear c1
        try clear c2
        try clear p2
        try clear c4
        try clear p6
        try clear c7
        try clear c8
        try clear c11
        try clear c11b0
        try clear c12
        try clear c12b0
        try clear c13
        try clear c14
        try clear c16
        try clear c17
        try clear c19
        try clear c20
        try clear hcz15_0
        try clear hcz15_1
        try clear hcz15_2
        try clear hcz18_0
        try clear hcz18_1
        try clear hcz18_2
        try clear hcz21_0
        try clear hcz21_1
        try clear hcz21_2
        try clear hcz5_0
        try clear hcz5_1
        try clear hcz5_2
        try clear hcz9_0
        try clear hcz9_1
        try clear hfz15_0
        try clear hfz15_1
        try clear hfz15_2
        try clear hfz18_0
        try clear hfz18_1
        try clear hfz18_2
        try clear hfz21_0
        try clear hfz21_1
        try clear hfz21_2
        try clear hfz5_0
        try clear hfz5_1
        try clear hfz5_2
        try clear hfz9_0
        try clear hfz9_1
        try clear p2
        try clear p6
        obtain ⟨kq, x27_9, rfl, HA, HJ9, HO_259001, BK256, BK257, BK258, HB⟩ := hcut
        cases kq with
        | zero => exact absurd HA.out (by simp [wireloomref05_Made.j1])
        | succ kj9 =>
          have H := HA.out
          clear HA
          simp only [wireloomref05_Made.j1] at H
          by_cases c22 : x27_9 = true
          · subst c22
            have H1 : (if 0 ≤ x5_1 then (if x5_1 < (l0_2.length : Int) then (if (wrap64 (Int.tmod a0_0 13)) = 0 then (none) else (if 0 ≤ (wrap64 (x5_1 + 1)) then (if (wrap64 (x5_1 + 1)) < (l0_2.length : Int) then (if (Int.tmod a0_1 2) = 0 then (if (Int.tmod (wrap64 (rd l0_2 x5_1)) (wrap64 (Int.tmod a0_0 13))) = (Int.tmod (wrap64 (rd l0_2 (wrap64 (x5_1 + 1)))) (wrap64 (Int.tmod a0_0 13))) then (wireloomref05_Made.l0 kj9 (wrap64 (Int.tmod a0_0 13)) (wrap64 (x5_1 + 2)) a0_0 a0_1 l0_2 (wrap64 (Int.tmod a0_0 13)) x259001_1) else (if (Int.tmod (wrap64 (rd l0_2 x5_1)) (wrap64 (Int.tmod a0_0 13))) > (Int.tmod (wrap64 (rd l0_2 (wrap64 (x5_1 + 1)))) (wrap64 (Int.tmod a0_0 13))) then (wireloomref05_Made.j2 kj9 (wrap64 (Int.tmod a0_0 13)) x5_1 (Int.tmod (wrap64 (rd l0_2 (wrap64 (x5_1 + 1)))) (wrap64 (Int.tmod a0_0 13))) (Int.tmod (wrap64 (rd l0_2 x5_1)) (wrap64 (Int.tmod a0_0 13))) a0_0 a0_1 l0_2 (wrap64 (Int.tmod a0_0 13)) x259001_1) else (wireloomref05_Made.j2 kj9 (wrap64 (Int.tmod a0_0 13)) x5_1 (Int.tmod (wrap64 (rd l0_2 x5_1)) (wrap64 (Int.tmod a0_0 13))) (Int.tmod (wrap64 (rd l0_2 (wrap64 (x5_1 + 1)))) (wrap64 (Int.tmod a0_0 13))) a0_0 a0_1 l0_2 (wrap64 (Int.tmod a0_0 13)) x259001_1))) else (if x259001_1.length < 8796093022208 then (wireloomref05_Made.l0 kj9 (wrap64 (Int.tmod a0_0 13)) (wrap64 (x5_1 + 2)) a0_0 a0_1 l0_2 (wrap64 (Int.tmod a0_0 13)) (x259001_1 ++ [(⟨Int.tmod (wrap64 (rd l0_2 x5_1)) (wrap64 (Int.tmod a0_0 13)), Int.tmod (wrap64 (rd l0_2 (wrap64 (x5_1 + 1)))) (wrap64 (Int.tmod a0_0 13))⟩ : S55)])) else (none))) else (none)) else (none))) else (none)) else (none)) = some (r1, r2) := by rw [if_pos rfl] at H; exact H
            clear H
            have H := H1
            clear H1
            by_cases c23 : 0 ≤ x5_1
            · rw [if_pos c23] at H
              have c23b0 : decide (0 ≤ x5_1) = true := decide_eq_true c23
              clear c23
              by_cases c24 : x5_1 < (l0_2.length : Int)
              · rw [if_pos c24] at H
                have c24b0 : decide (x5_1 < (l0_2.length : Int)) = true := decide_eq_true c24
                clear c24
                by_cases c25 : (wrap64 (Int.tmod a0_0 13)) = 0
                · rw [if_pos c25] at H
                  exact absurd H (by simp)
                · rw [if_neg c25] at H
                  have c25b0 : ((wrap64 (Int.tmod a0_0 13)) == 0) = false := beq_eq_false_iff_ne.mpr c25
                  have c25b1 : ((wrap64 (Int.tmod a0_0 13)) != 0) = true := bne_iff_ne.mpr c25
                  obtain ⟨ji26, hji26⟩ : ∃ j_ : Int, (wrap64 (x5_1 + 1)) = j_ := ⟨_, rfl⟩
                  replace H : (if 0 ≤ (ji26) then (if (ji26) < (l0_2.length : Int) then (if (Int.tmod a0_1 2) = 0 then (if (Int.tmod (wrap64 (rd l0_2 x5_1)) (wrap64 (Int.tmod a0_0 13))) = (Int.tmod (wrap64 (rd l0_2 (ji26))) (wrap64 (Int.tmod a0_0 13))) then (wireloomref05_Made.l0 kj9 (wrap64 (Int.tmod a0_0 13)) (wrap64 (x5_1 + 2)) a0_0 a0_1 l0_2 (wrap64 (Int.tmod a0_0 13)) x259001_1) else (if (Int.tmod (wrap64 (rd l0_2 x5_1)) (wrap64 (Int.tmod a0_0 13))) > (Int.tmod (wrap64 (rd l0_2 (ji26))) (wrap64 (Int.tmod a0_0 13))) then (wireloomref05_Made.j2 kj9 (wrap64 (Int.tmod a0_0 13)) x5_1 (Int.tmod (wrap64 (rd l0_2 (ji26))) (wrap64 (Int.tmod a0_0 13))) (Int.tmod (wrap64 (rd l0_2 x5_1)) (wrap64 (Int.tmod a0_0 13))) a0_0 a0_1 l0_2 (wrap64 (Int.tmod a0_0 13)) x259001_1) else (wireloomref05_Made.j2 kj9 (wrap64 (Int.tmod a0_0 13)) x5_1 (Int.tmod (wrap64 (rd l0_2 x5_1)) (wrap64 (Int.tmod a0_0 13))) (Int.tmod (wrap64 (rd l0_2 (ji26))) (wrap64 (Int.tmod a0_0 13))) a0_0 a0_1 l0_2 (wrap64 (Int.tmod a0_0 13)) x259001_1))) else (if x259001_1.length < 8796093022208 then (wireloomref05_Made.l0 kj9 (wrap64 (Int.tmod a0_0 13)) (wrap64 (x5_1 + 2)) a0_0 a0_1 l0_2 (wrap64 (Int.tmod a0_0 13)) (x259001_1 ++ [(⟨Int.tmod (wrap64 (rd l0_2 x5_1)) (wrap64 (Int.tmod a0_0 13)), Int.tmod (wrap64 (rd l0_2 (ji26))) (wrap64 (Int.tmod a0_0 13))⟩ : S55)])) else (none))) else (none)) else (none)) = some (r1, r2) := by first | (rw [hji26] at H; exact H) | (simp only [hji26] at H ⊢; exact H)
                  have hji26w : (IntKind.i64.wrap (x5_1 + 1)) = ji26 := (i64_w _).trans hji26
                  by_cases c27 : 0 ≤ (ji26)
                  · rw [if_pos c27] at H
                    have c27b0 : decide (0 ≤ (ji26)) = true := decide_eq_true c27
                    clear c27
                    by_cases c28 : (ji26) < (l0_2.length : Int)
                    · rw [if_pos c28] at H
                      have c28b0 : decide ((ji26) < (l0_2.length : Int)) = true := decide_eq_true c28
                      clear c28
                      by_cases c29 : (Int.tmod a0_1 2) = 0
                      · rw [if_pos c29] at H
                        have c29b0 : ((Int.tmod a0_1 2) == 0) = true := beq_iff_eq.mpr c29
                        have c29b1 : ((Int.tmod a0_1 2) != 0) = false := bne_eq_false_iff_eq.mpr c29
                        clear c29
                        by_cases c30 : (Int.tmod (wrap64 (rd l0_2 x5_1)) (wrap64 (Int.tmod a0_0 13))) = (Int.tmod (wrap64 (rd l0_2 (ji26))) (wrap64 (Int.tmod a0_0 13)))
                        · rw [if_pos c30] at H
                          have c30b0 : ((Int.tmod (wrap64 (rd l0_2 x5_1)) (wrap64 (Int.tmod a0_0 13))) == (Int.tmod (wrap64 (rd l0_2 (ji26))) (wrap64 (Int.tmod a0_0 13)))) = true := beq_iff_eq.mpr c30
                          have c30b1 : ((Int.tmod (wrap64 (rd l0_2 x5_1)) (wrap64 (Int.tmod a0_0 13))) != (Int.tmod (wrap64 (rd l0_2 (ji26))) (wrap64 (Int.tmod a0_0 13)))) = false := bne_eq_false_iff_eq.mpr c30
                          clear c30
                          have H' := Aside0.mk H
                          clear H
                          have hnb31 := NB256_257.out
                          have hnc31 := NB257_256.out
                          have hnb32 := NB256_258.out
                          have hnc32 := NB258_256.out
                          have hcz33_0 : wc.cell? ⟨gb256, 0, none⟩ = some (.int .u8 a0_0) := (blk_cell BK256.out 0).trans rfl
                          have hcz33_1 : wc.cell? ⟨gb256, 1, none⟩ = some (.int .u8 a0_1) := (blk_cell BK256.out 1).trans rfl
                          have hcz33_2 : wc.cell? ⟨gb256, 2, none⟩ = some (.slice A0_2 l0_2.length c0_2) := (blk_cell BK256.out 2).trans rfl
                          have hfz33_0 := blk_frozen BK256.out 0
                          have hfz33_1 := blk_frozen BK256.out 1
                          have hfz33_2 := blk_frozen BK256.out 2
                          have p259 : 0 ≤ (x5_1 : Int) := of_decide_eq_true (by first | (with_reducible assumption) | assumption)
                          have q259 : x5_1 < (l0_2.length : Int) := of_decide_eq_true (by first | (with_reducible assumption) | assumption)
                          obtain ⟨ad259, e259, hx259_0⟩ := Kd.at_int HR0_2.out x5_1 p259 q259
                          cases e259
                          (try (replace hx259_0 := (HB.out.cell (World.block_lt_of_cell? w _ hx259_0)).trans hx259_0))
                          replace p259 := eq_true p259
                          replace q259 := eq_true q259
                          have p260 : 0 ≤ ((ji26) : Int) := of_decide_eq_true (by first | (with_reducible assumption) | assumption)
                          have q260 : (ji26) < (l0_2.length : Int) := of_decide_eq_true (by first | (with_reducible assumption) | assumption)
                          obtain ⟨ad260, e260, hx260_0⟩ := Kd.at_int HR0_2.out (ji26) p260 q260
                          obtain rfl : ad259 = ad260 := (by injection e260)
                          (try (replace hx260_0 := (HB.out.cell (World.block_lt_of_cell? w _ hx260_0)).trans hx260_0))
                          replace p260 := eq_true p260
                          replace q260 := eq_true q260
                          go_wp2
                          go_roundg kj9
                          case measure => have := HK1.out; have := HJ9.out; omega
                          case rel => exact ⟨(wrap64 (x5_1 + 2)), (x259001_1), (u259001), (by first | rfl | (simp; done) | (simp [*]; done)), H', ⟨by have := HK1.out; have := HJ9.out; omega⟩, ⟨by (with_reducible repeat (first | apply Kd.R_alloc | apply Kd.R_drewN | apply Kd.R_drew)); exact HO_259001.out⟩, ⟨by (with_reducible repeat (first | refine blk_drewN ?_ _ | refine blk_drew ?_ | refine blk_alloc ?_ _)); exact BK256.out⟩, ⟨by (with_reducible repeat (first | refine blk_drewN ?_ _ | refine blk_drew ?_ | refine blk_alloc ?_ _)); exact BK257.out⟩, ⟨by (with_reducible repeat (first | refine blk_drewN ?_ _ | refine blk_drew ?_ | refine blk_alloc ?_ _)); exact BK258.out⟩, ⟨by repeat (first | (with_reducible first | exact HB.out | apply below_alloc | apply pw_below_drewN | apply below_drew1 | refine below_set ?_ GE256.out | refine below_set ?_ GE257.out | refine below_set ?_ GE258.out) | exact HB.out)⟩⟩
                        · rw [if_neg c30] at H
                          have c30b0 : ((Int.tmod (wrap64 (rd l0_2 x5_1)) (wrap64 (Int.tmod a0_0 13))) == (Int.tmod (wrap64 (rd l0_2 (ji26))) (wrap64 (Int.tmod a0_0 13)))) = false := beq_eq_false_iff_ne.mpr c30
                          have c30b1 : ((Int.tmod (wrap64 (rd l0_2 x5_1)) (wrap64 (Int.tmod a0_0 13))) != (Int.tmod (wrap64 (rd l0_2 (ji26))) (wrap64 (Int.tmod a0_0 13)))) = true := bne_iff_ne.mpr c30
                          have HC34 := Aside0.mk H
                          clear H
                          have hnb35 := NB256_257.out
                          have hnc35 := NB257_256.out
                          have hnb36 := NB256_258.out
                          have hnc36 := NB258_256.out
                          have hcz37_0 : wc.cell? ⟨gb256, 0, none⟩ = some (.int .u8 a0_0) := (blk_cell BK256.out 0).trans rfl
                          have hcz37_1 : wc.cell? ⟨gb256, 1, none⟩ = some (.int .u8 a0_1) := (blk_cell BK256.out 1).trans rfl
                          have hcz37_2 : wc.cell? ⟨gb256, 2, none⟩ = some (.slice A0_2 l0_2.length c0_2) := (blk_cell BK256.out 2).trans rfl
                          have hfz37_0 := blk_frozen BK256.out 0
                          have hfz37_1 := blk_frozen BK256.out 1
                          have hfz37_2 := blk_frozen BK256.out 2
                          have p259 : 0 ≤ (x5_1 : Int) := of_decide_eq_true (by first | (with_reducible assumption) | assumption)
                          have q259 : x5_1 < (l0_2.length : Int) := of_decide_eq_true (by first | (with_reducible assumption) | assumption)
                          obtain ⟨ad259, e259, hx259_0⟩ := Kd.at_int HR0_2.out x5_1 p259 q259
                          cases e259
                          (try (replace hx259_0 := (HB.out.cell (World.block_lt_of_cell? w _ hx259_0)).trans hx259_0))
                          replace p259 := eq_true p259
                          replace q259 := eq_true q259
                          have p260 : 0 ≤ ((ji26) : Int) := of_decide_eq_true (by first | (with_reducible assumption) | assumption)
                          have q260 : (ji26) < (l0_2.length : Int) := of_decide_eq_true (by first | (with_reducible assumption) | assumption)
                          obtain ⟨ad260, e260, hx260_0⟩ := Kd.at_int HR0_2.out (ji26) p260 q260
                          obtain rfl : ad259 = ad260 := (by injection e260)
                          (try (replace hx260_0 := (HB.out.cell (World.block_lt_of_cell? w _ hx260_0)).trans hx260_0))
                          replace p260 := eq_true p260
                          replace q260 := eq_true q260
                          go_upto_if 56 with (fail)
                          go_cut [6, 7] (fun v6 v7 wc => ∃ (kq : Nat) (x6_33 : Int) (x7_33 : Int), v6 = .int .i64 x6_33 ∧ v7 = .int .i64 x7_33 ∧ Aside0 (wireloomref05_Made.j2 kq (wrap64 (Int.tmod a0_0 13)) x5_1 x6_33 x7_33 a0_0 a0_1 l0_2 (wrap64 (Int.tmod a0_0 13)) x259001_1 = some (r1, r2)) ∧ Aside0 (kq ≤ kj9) ∧ Aside0 (Kd.R k55 55 wc w.heap.size (fun _ => True) u259001 x259001_1) ∧ Aside0 (wc.heap[gb256]? = some (.cells #[.int .u8 a0_0, .int .u8 a0_1, (.slice (some ad259) l0_2.length c0_2)] 24 (0, 0))) ∧ Aside0 (wc.heap[gb257]? = some (.cells #[.int .i64 0, (.slice none 0 0)] 31 (0, 0))) ∧ Aside0 (wc.heap[gb258]? = some (.cells #[.int .i64 (wrap64 (Int.tmod a0_0 13)), u259001] 31 (0, 0))) ∧ Aside0 (Below w.heap.size w wc))
                          case first =>
                            have H := HC34.out
                            clear HC34
                            by_cases c38 : (Int.tmod (wrap64 (rd l0_2 x5_1)) (wrap64 (Int.tmod a0_0 13))) > (Int.tmod (wrap64 (rd l0_2 (ji26))) (wrap64 (Int.tmod a0_0 13)))
                            · rw [if_pos c38] at H
                              have c38b0 : decide ((Int.tmod (wrap64 (rd l0_2 (ji26))) (wrap64 (Int.tmod a0_0 13))) < (Int.tmod (wrap64 (rd l0_2 x5_1)) (wrap64 (Int.tmod a0_0 13)))) = true := decide_eq_true c38
                              clear c38
                              (first | rw [c38b0] | (simp only [i64_w, i32_w]; rw [c38b0]) | skip)
                              have H' := Aside0.mk H
                              clear H
                              go_wp2
                              go_meet
                              case rel => exact ⟨_, (Int.tmod (wrap64 (rd l0_2 (ji26))) (wrap64 (Int.tmod a0_0 13))), (Int.tmod (wrap64 (rd l0_2 x5_1)) (wrap64 (Int.tmod a0_0 13))), (by first | rfl | (simp; done) | (simp only [← hji26] <;> (first | rfl | simp)) | (simp [*]; done)), (by first | rfl | (simp; done) | (simp [*]; done)), H', ⟨by have := HK1.out; have := HJ9.out; first | omega | exact Nat.le_refl _⟩, ⟨by (with_reducible repeat (first | apply Kd.R_alloc | apply Kd.R_drewN | apply Kd.R_drew)); exact HO_259001.out⟩, ⟨by (with_reducible repeat (first | refine blk_drewN ?_ _ | refine blk_drew ?_ | refine blk_alloc ?_ _)); exact BK256.out⟩, ⟨by (with_reducible repeat (first | refine blk_drewN ?_ _ | refine blk_drew ?_ | refine blk_alloc ?_ _)); exact BK257.out⟩, ⟨by (with_reducible repeat (first | refine blk_drewN ?_ _ | refine blk_drew ?_ | refine blk_alloc ?_ _)); exact BK258.out⟩, ⟨by repeat (first | (with_reducible first | exact HB.out | apply below_alloc | apply pw_below_drewN | apply below_drew1 | refine below_set ?_ GE256.out | refine below_set ?_ GE257.out | refine below_set ?_ GE258.out) | exact HB.out)⟩⟩
                            · rw [if_neg c38] at H
                              have c38b0 : decide ((Int.tmod (wrap64 (rd l0_2 (ji26))) (wrap64 (Int.tmod a0_0 13))) < (Int.tmod (wrap64 (rd l0_2 x5_1)) (wrap64 (Int.tmod a0_0 13)))) = false := decide_eq_false c38
                              clear c38
                              (first | rw [c38b0] | (simp only [i64_w, i32_w]; rw [c38b0]) | skip)
                              have H' := Aside0.mk H
                              clear H
                              go_wp2
                              go_meet
                              case rel => exact ⟨_, (Int.tmod (wrap64 (rd l0_2 x5_1)) (wrap64 (Int.tmod a0_0 13))), (Int.tmod (wrap64 (rd l0_2 (ji26))) (wrap64 (Int.tmod a0_0 13))), (by first | rfl | (simp; done) | (simp [*]; done)), (by first | rfl | (simp; done) | (simp only [← hji26] <;> (first | rfl | simp)) | (simp [*]; done)), H', ⟨by have := HK1.out; have := HJ9.out; first | omega | exact Nat.le_refl _⟩, ⟨by (with_reducible repeat (first | apply Kd.R_alloc | apply Kd.R_drewN | apply Kd.R_drew)); exact HO_259001.out⟩, ⟨by (with_reducible repeat (first | refine blk_drewN ?_ _ | refine blk_drew ?_ | refine blk_alloc ?_ _)); exact BK256.out⟩, ⟨by (with_reducible repeat (first | refine blk_drewN ?_ _ | refine blk_drew ?_ | refine blk_alloc ?_ _)); exact BK257.out⟩, ⟨by (with_reducible repeat (first | refine blk_drewN ?_ _ | refine blk_drew ?_ | refine blk_alloc ?_ _)); exact BK258.out⟩, ⟨by repeat (first | (with_reducible first | exact HB.out | apply below_alloc | apply pw_below_drewN | apply below_drew1 | refine below_set ?_ GE256.out | refine below_set ?_ GE257.out | refine below_set ?_ GE258.out) | exact HB.out)⟩⟩
                          case rest =>
                            clear HC34
                            try clear c1
                            try clear c2
                            try clear p2
                            try clear q2
                            try clear hx2
                            try clear c3
                            try clear c4
                            try clear p6
                            try clear c7
                            try clear c8
                            try clear c11
                            try clear c11b0
                            try clear c12
                            try clear c12b0
                            try clear c13
                            try clear c14
                            try clear c16
                            try clear c17
                            try clear c19
                            try clear c20
                            try clear c22
                            try clear c23
                            try clear c23b0
                            try clear c24
                            try clear c24b0
                            try clear c25
                            try clear c25b0
                            try clear c25b1
                            try clear p25
                            try clear q25
                            try clear hx25
                            try clear p26
                            try clear q26
                            try clear hx26
                            try clear c27
                            try clear c27b0
                            try clear c28
                            try clear c28b0
                            try clear c29
                            try clear c29b0
                            try clear c29b1
                            try clear c30
                            try clear c30b0
                            try clear c30b1
                            try clear c31
                            try clear c32
                            try clear c35
                            try clear c36
                            try clear c38
                            try clear c38b0
                            try clear hcz15_0
                            try clear hcz15_1
                            try clear hcz15_2
                            try clear hcz18_0
                            try clear hcz18_1
                            try clear hcz18_2
                            try clear hcz21_0
                            try clear hcz21_1
                            try clear hcz21_2
                            try clear hcz33_0
                            try clear hcz33_1
                            try clear hcz33_2
                            try clear hcz37_0
                            try clear hcz37_1
                            try clear hcz37_2
                            try clear hcz5_0
                            try clear hcz5_1
                            try clear hcz5_2
                            try clear hcz9_0
                            try clear hcz9_1
                            try clear hfz15_0
                            try clear hfz15_1
                            try clear hfz15_2
                            try clear hfz18_0
                            try clear hfz18_1
                            try clear hfz18_2
                            try clear hfz21_0
                            try clear hfz21_1
                            try clear hfz21_2
                            try clear hfz33_0
                            try clear hfz33_1
                            try clear hfz33_2
                            try clear hfz37_0
                            try clear hfz37_1
                            try clear hfz37_2
                            try clear hfz5_0
                            try clear hfz5_1
                            try clear hfz5_2
                            try clear hfz9_0
                            try clear hfz9_1
                            try clear hx259_0
                            try clear hx260_0
                            try clear p2
                            try clear p259
                            try clear p260
                            try clear p6
                            try clear q259
                            try clear q260
                            obtain ⟨kq, x6_33, x7_33, rfl, rfl, HA, HJ33, HO_259001, BK256, BK257, BK258, HB⟩ := hcut
                            cases kq with
                            | zero => exact absurd HA.out (by simp [wireloomref05_Made.j2])
                            | succ kj33 =>
                              have H := HA.out
                              clear HA
                              simp only [wireloomref05_Made.j2] at H
                              by_cases c39 : (Int.tmod a0_1 4) = 2
                              · rw [if_pos c39] at H
                                have c39b0 : ((Int.tmod a0_1 4) == 2) = true := beq_iff_eq.mpr c39
                                have c39b1 : ((Int.tmod a0_1 4) != 2) = false := bne_eq_false_iff_eq.mpr c39
                                clear c39
                                by_cases c40 : (wrap64 (Int.tmod a0_0 13)) = 0
                                · rw [if_pos c40] at H
                                  exact absurd H (by simp)
                                · rw [if_neg c40] at H
                                  have c40b0 : ((wrap64 (Int.tmod a0_0 13)) == 0) = false := beq_eq_false_iff_ne.mpr c40
                                  have c40b1 : ((wrap64 (Int.tmod a0_0 13)) != 0) = true := bne_iff_ne.mpr c40
                                  by_cases c41 : (Int.tmod (wrap64 (Int.tmod a0_0 13)) 5) = 0
                                  · rw [if_pos c41] at H
                                    have c41b0 : ((Int.tmod (wrap64 (Int.tmod a0_0 13)) 5) == 0) = true := beq_iff_eq.mpr c41
                                    have c41b1 : ((Int.tmod (wrap64 (Int.tmod a0_0 13)) 5) != 0) = false := bne_eq_false_iff_eq.mpr c41
                                    clear c41
                                    have H' := Aside0.mk H
                                    clear H
                                    have hnb42 := NB256_257.out
                                    have hnc42 := NB257_256.out
                                    have hnb43 := NB256_258.out
                                    have hnc43 := NB258_256.out
                                    have hcz44_0 : wc.cell? ⟨gb256, 0, none⟩ = some (.int .u8 a0_0) := (blk_cell BK256.out 0).trans rfl
                                    have hcz44_1 : wc.cell? ⟨gb256, 1, none⟩ = some (.int .u8 a0_1) := (blk_cell BK256.out 1).trans rfl
                                    have hcz44_2 : wc.cell? ⟨gb256, 2, none⟩ = some (.slice (some ad259) l0_2.length c0_2) := (blk_cell BK256.out 2).trans rfl
                                    have hfz44_0 := blk_frozen BK256.out 0
                                    have hfz44_1 := blk_frozen BK256.out 1
                                    have hfz44_2 := blk_frozen BK256.out 2
                                    go_wp2
                                    go_roundg kj33
                                    case measure => have := HK1.out; have := HJ9.out; have := HJ33.out; omega
                                    case rel => exact ⟨(wrap64 (x5_1 + 2)), (x259001_1), (u259001), (by first | rfl | (simp; done) | (simp [*]; done)), H', ⟨by have := HK1.out; have := HJ9.out; have := HJ33.out; omega⟩, ⟨by (with_reducible repeat (first | apply Kd.R_alloc | apply Kd.R_drewN | apply Kd.R_drew)); exact HO_259001.out⟩, ⟨by (with_reducible repeat (first | refine blk_drewN ?_ _ | refine blk_drew ?_ | refine blk_alloc ?_ _)); exact BK256.out⟩, ⟨by (with_reducible repeat (first | refine blk_drewN ?_ _ | refine blk_drew ?_ | refine blk_alloc ?_ _)); exact BK257.out⟩, ⟨by (with_reducible repeat (first | refine blk_drewN ?_ _ | refine blk_drew ?_ | refine blk_alloc ?_ _)); exact BK258.out⟩, ⟨by repeat (first | (with_reducible first | exact HB.out | apply below_alloc | apply pw_below_drewN | apply below_drew1 | refine below_set ?_ GE256.out | refine below_set ?_ GE257.out | refine below_set ?_ GE258.out) | exact HB.out)⟩⟩
                                  · rw [if_neg c41] at H
                                    have c41b0 : ((Int.tmod (wrap64 (Int.tmod a0_0 13)) 5) == 0) = false := beq_eq_false_iff_ne.mpr c41
                                    have c41b1 : ((Int.tmod (wrap64 (Int.tmod a0_0 13)) 5) != 0) = true := bne_iff_ne.mpr c41
                                    by_cases c45 : x259001_1.length < 8796093022208
                                    · rw [if_pos c45] at H
                                      have LMc45 := Aside0.mk c45
                                      clear c45
                                      obtain ⟨y261, hy261⟩ : ∃ y_ : List (S55), y_ = (x259001_1 ++ [(⟨Int.tmod (wrap64 ((wrap64 (5 * x6_33)) + 3)) (wrap64 (Int.tmod a0_0 13)), Int.tmod (wrap64 ((wrap64 (5 * x7_33)) + 3)) (wrap64 (Int.tmod a0_0 13))⟩ : S55)]) := ⟨_, rfl⟩
                                      replace H : (wireloomref05_Made.l0 kj33 (wrap64 (Int.tmod a0_0 13)) (wrap64 (x5_1 + 2)) a0_0 a0_1 l0_2 (wrap64 (Int.tmod a0_0 13)) y261) = some (r1, r2) := by first | (rw [hy261]; with_reducible exact H) | (have H2_ := (Option.bind_some _ _).symm.trans H; rw [hy261]; with_reducible exact H2_) | (have H2_ := (Option.bind_some _ _).symm.trans H; with_reducible exact H2_) | with_reducible exact H | (rw [hy261]; exact H) | exact H
                                      have Ny261 := Aside0.mk hy261
                                      clear hy261
                                      have H' := Aside0.mk H
                                      clear H
                                      have hnb46 := NB256_257.out
                                      have hnc46 := NB257_256.out
                                      have hnb47 := NB256_258.out
                                      have hnc47 := NB258_256.out
                                      have hcz48_0 : wc.cell? ⟨gb256, 0, none⟩ = some (.int .u8 a0_0) := (blk_cell BK256.out 0).trans rfl
                                      have hcz48_1 : wc.cell? ⟨gb256, 1, none⟩ = some (.int .u8 a0_1) := (blk_cell BK256.out 1).trans rfl
                                      have hcz48_2 : wc.cell? ⟨gb256, 2, none⟩ = some (.slice (some ad259) l0_2.length c0_2) := (blk_cell BK256.out 2).trans rfl
                                      have hfz48_0 := blk_frozen BK256.out 0
                                      have hfz48_1 := blk_frozen BK256.out 1
                                      have hfz48_2 := blk_frozen BK256.out 2
                                      have hnb49 := NB258_257.out
                                      have hnc49 := NB257_258.out
                                      have hcz50_0 : wc.cell? ⟨gb258, 0, none⟩ = some (.int .i64 (wrap64 (Int.tmod a0_0 13))) := (blk_cell BK258.out 0).trans rfl
                                      have hcz50_1 : wc.cell? ⟨gb258, 1, none⟩ = some (u259001) := (blk_cell BK258.out 1).trans rfl
                                      have hfz50_0 := blk_frozen BK258.out 0
                                      have hfz50_1 := blk_frozen BK258.out 1
                                      go_wp2_with (first | ((with_reducible refine gate_builtin (b := .append) (xs := #[.tmp 83, .tmp 87]) rfl ?_); at_builtin; refine Kd.R_append k55 (w0 := w) w.heap.size rfl (.tmp 83) (.tmp 87) 25 55 (.agg #[(.int .i64 0), (.int .i64 0)]) 16 rfl Try.underlying25 info55 rfl (by decide) (by omega) u259001 x259001_1 (⟨Int.tmod (wrap64 ((wrap64 (5 * x6_33)) + 3)) (wrap64 (Int.tmod a0_0 13)), Int.tmod (wrap64 ((wrap64 (5 * x7_33)) + 3)) (wrap64 (Int.tmod a0_0 13))⟩ : S55) [.int .i64 (Int.tmod (wrap64 ((wrap64 (5 * x6_33)) + 3)) (wrap64 (Int.tmod a0_0 13))), .int .i64 (Int.tmod (wrap64 ((wrap64 (5 * x7_33)) + 3)) (wrap64 (Int.tmod a0_0 13)))] (fun _ => True) (fun _ => False) rfl rfl ?aP (fun _ hk => hk.elim) ?aF ?aO ?aB ?aS ?aL ?_; (case aP => exact k55_mkM _ _ _ (⟨Int.tmod (wrap64 ((wrap64 (5 * x6_33)) + 3)) (wrap64 (Int.tmod a0_0 13)), Int.tmod (wrap64 ((wrap64 (5 * x7_33)) + 3)) (wrap64 (Int.tmod a0_0 13))⟩ : S55)); (case aB => exact (by repeat (first | (with_reducible first | exact HB.out | apply below_alloc | apply pw_below_drewN | apply below_drew1 | refine below_set ?_ GE256.out | refine below_set ?_ GE257.out | refine below_set ?_ GE258.out) | exact HB.out))); (case aF => exact (fun _ _ => trivial)); (case aO => exact (by (with_reducible repeat (first | apply Kd.R_alloc | apply Kd.R_drewN | apply Kd.R_drew)); exact HO_259001.out)); (case aS => exact (below_size (by repeat (first | (with_reducible first | exact HB.out | apply below_alloc | apply pw_below_drewN | apply below_drew1 | refine below_set ?_ GE256.out | refine below_set ?_ GE257.out | refine below_set ?_ GE258.out) | exact HB.out)))); (case aL => have := LMc45.out; omega); intro v262 w51 ho hb hg hat; rw [← Ny261.out] at ho; have n0_ := Aside0.mk (blk_grown (g := gb256) (o := .cells #[.int .u8 a0_0, .int .u8 a0_1, .slice (some ad259) l0_2.length c0_2] 24 (0, 0)) (by (with_reducible repeat (first | refine blk_drewN ?_ _ | refine blk_drew ?_ | refine blk_alloc ?_ _)); exact BK256.out) hg (Kd.R_ne HO_259001.out BK256.out (by decide))); have n1_ := Aside0.mk (blk_grown (g := gb257) (o := .cells #[.int .i64 0, .slice none 0 0] 31 (0, 0)) (by (with_reducible repeat (first | refine blk_drewN ?_ _ | refine blk_drew ?_ | refine blk_alloc ?_ _)); exact BK257.out) hg (Kd.R_ne HO_259001.out BK257.out (by decide))); have n2_ := Aside0.mk (blk_grown (g := gb258) (o := .cells #[.int .i64 (wrap64 (Int.tmod a0_0 13)), u259001] 31 (0, 0)) (by (with_reducible repeat (first | refine blk_drewN ?_ _ | refine blk_drew ?_ | refine blk_alloc ?_ _)); exact BK258.out) hg (Kd.R_ne HO_259001.out BK258.out (by decide))); have n3_ := Aside0.mk (hb); have n4_ := Aside0.mk (ho); clear BK256; clear BK257; clear BK258; clear HB; clear HO_259001; have BK256 := n0_; have BK257 := n1_; have BK258 := n2_; have HB := n3_; have HO263 := n4_; clear n0_ n1_ n2_ n3_ n4_; clear ho hb hg hat; obtain ⟨Ao52, co52, eo52⟩ := Kd.R_slice HO263.out; subst eo52; have hcz53_0 : w51.cell? ⟨gb258, 0, none⟩ = some (.int .i64 (wrap64 (Int.tmod a0_0 13))) := (blk_cell BK258.out 0).trans rfl; have hcz53_1 : w51.cell? ⟨gb258, 1, none⟩ = some (u259001) := (blk_cell BK258.out 1).trans rfl; have hfz53_0 := blk_frozen BK258.out 0; have hfz53_1 := blk_frozen BK258.out 1))
                                      go_roundg kj33
                                      case measure => have := HK1.out; have := HJ9.out; have := HJ33.out; omega
                                      case rel => exact ⟨(wrap64 (x5_1 + 2)), (y261), (.slice Ao52 y261.length co52), (by first | rfl | (simp; done) | (simp [*]; done)), H', ⟨by have := HK1.out; have := HJ9.out; have := HJ33.out; omega⟩, ⟨by (with_reducible repeat (first | apply Kd.R_alloc | apply Kd.R_drewN | apply Kd.R_drew)); exact Kd.R_mono (Kd.R_far (p := ⟨gb258, 1, none⟩) (Kd.R_types HO263.out BK258.out (by decide)) (fun _ hk => hk.2) (.slice Ao52 y261.length co52)) (fun _ hk => trivial)⟩, ⟨by (with_reducible repeat (first | refine blk_drewN ?_ _ | refine blk_drew ?_ | refine blk_alloc ?_ _)); refine blk_far ?_ NB256_258.out _; (with_reducible repeat (first | refine blk_drewN ?_ _ | refine blk_drew ?_ | refine blk_alloc ?_ _)); exact BK256.out⟩, ⟨by (with_reducible repeat (first | refine blk_drewN ?_ _ | refine blk_drew ?_ | refine blk_alloc ?_ _)); refine blk_far ?_ NB257_258.out _; (with_reducible repeat (first | refine blk_drewN ?_ _ | refine blk_drew ?_ | refine blk_alloc ?_ _)); exact BK257.out⟩, ⟨by (with_reducible repeat (first | refine blk_drewN ?_ _ | refine blk_drew ?_ | refine blk_alloc ?_ _)); refine blk_put (cs := #[.int .i64 (wrap64 (Int.tmod a0_0 13)), u259001]) ?_ 1 _ rfl; (with_reducible repeat (first | refine blk_drewN ?_ _ | refine blk_drew ?_ | refine blk_alloc ?_ _)); exact BK258.out⟩, ⟨by repeat (first | (with_reducible first | exact HB.out | apply below_alloc | apply pw_below_drewN | apply below_drew1 | refine below_set ?_ GE256.out | refine below_set ?_ GE257.out | refine below_set ?_ GE258.out) | exact HB.out)⟩⟩
                                    · rw [if_neg c45] at H
                                      exact absurd H (by simp)
                              · rw [if_neg c39] at H
                                have c39b0 : ((Int.tmod a0_1 4) == 2) = false := beq_eq_false_iff_ne.mpr c39
                                have c39b1 : ((Int.tmod a0_1 4) != 2) = true := bne_iff_ne.mpr c39
                                by_cases c54 : (Int.tmod (wrap64 (Int.tmod a0_0 13)) 5) = 0
                                · rw [if_pos c54] at H
                                  have c54b0 : ((Int.tmod (wrap64 (Int.tmod a0_0 13)) 5) == 0) = true := beq_iff_eq.mpr c54
                                  have c54b1 : ((Int.tmod (wrap64 (Int.tmod a0_0 13)) 5) != 0) = false := bne_eq_false_iff_eq.mpr c54
                                  clear c54
                                  by_cases c55 : x259001_1.length < 8796093022208
                                  · rw [if_pos c55] at H
                                    have LMc55 := Aside0.mk c55
                                    clear c55
                                    obtain ⟨y264, hy264⟩ : ∃ y_ : List (S55), y_ = (x259001_1 ++ [(⟨x6_33, x7_33⟩ : S55)]) := ⟨_, rfl⟩
                                    replace H : (wireloomref05_Made.l0 kj33 (wrap64 (Int.tmod a0_0 13)) (wrap64 (x5_1 + 2)) a0_0 a0_1 l0_2 (wrap64 (Int.tmod a0_0 13)) y264) = some (r1, r2) := by first | (rw [hy264]; with_reducible exact H) | (have H2_ := (Option.bind_some _ _).symm.trans H; rw [hy264]; with_reducible exact H2_) | (have H2_ := (Option.bind_some _ _).symm.trans H; with_reducible exact H2_) | with_reducible exact H | (rw [hy264]; exact H) | exact H
                                    have Ny264 := Aside0.mk hy264
                                    clear hy264
                                    have H' := Aside0.mk H
                                    clear H
                                    have hnb56 := NB256_257.out
                                    have hnc56 := NB257_256.out
                                    have hnb57 := NB256_258.out
                                    have hnc57 := NB258_256.out
                                    have hcz58_0 : wc.cell? ⟨gb256, 0, none⟩ = some (.int .u8 a0_0) := (blk_cell BK256.out 0).trans rfl
                                    have hcz58_1 : wc.cell? ⟨gb256, 1, none⟩ = some (.int .u8 a0_1) := (blk_cell BK256.out 1).trans rfl
                                    have hcz58_2 : wc.cell? ⟨gb256, 2, none⟩ = some (.slice (some ad259) l0_2.length c0_2) := (blk_cell BK256.out 2).trans rfl
                                    have hfz58_0 := blk_frozen BK256.out 0
                                    have hfz58_1 := blk_frozen BK256.out 1
                                    have hfz58_2 := blk_frozen BK256.out 2
                                    have hnb59 := NB258_257.out
                                    have hnc59 := NB257_258.out
                                    have hcz60_0 : wc.cell? ⟨gb258, 0, none⟩ = some (.int .i64 (wrap64 (Int.tmod a0_0 13))) := (blk_cell BK258.out 0).trans rfl
                                    have hcz60_1 : wc.cell? ⟨gb258, 1, none⟩ = some (u259001) := (blk_cell BK258.out 1).trans rfl
                                    have hfz60_0 := blk_frozen BK258.out 0
                                    have hfz60_1 := blk_frozen BK258.out 1
                                    go_wp2_with (first | ((with_reducible refine gate_builtin (b := .append) (xs := #[.tmp 83, .tmp 87]) rfl ?_); at_builtin; refine Kd.R_append k55 (w0 := w) w.heap.size rfl (.tmp 83) (.tmp 87) 25 55 (.agg #[(.int .i64 0), (.int .i64 0)]) 16 rfl Try.underlying25 info55 rfl (by decide) (by omega) u259001 x259001_1 (⟨x6_33, x7_33⟩ : S55) [.int .i64 x6_33, .int .i64 x7_33] (fun _ => True) (fun _ => False) rfl rfl ?aP (fun _ hk => hk.elim) ?aF ?aO ?aB ?aS ?aL ?_; (case aP => exact k55_mkM _ _ _ (⟨x6_33, x7_33⟩ : S55)); (case aB => exact (by repeat (first | (with_reducible first | exact HB.out | apply below_alloc | apply pw_below_drewN | apply below_drew1 | refine below_set ?_ GE256.out | refine below_set ?_ GE257.out | refine below_set ?_ GE258.out) | exact HB.out))); (case aF => exact (fun _ _ => trivial)); (case aO => exact (by (with_reducible repeat (first | apply Kd.R_alloc | apply Kd.R_drewN | apply Kd.R_drew)); exact HO_259001.out)); (case aS => exact (below_size (by repeat (first | (with_reducible first | exact HB.out | apply below_alloc | apply pw_below_drewN | apply below_drew1 | refine below_set ?_ GE256.out | refine below_set ?_ GE257.out | refine below_set ?_ GE258.out) | exact HB.out)))); (case aL => have := LMc55.out; omega); intro v265 w61 ho hb hg hat; rw [← Ny264.out] at ho; have n0_ := Aside0.mk (blk_grown (g := gb256) (o := .cells #[.int .u8 a0_0, .int .u8 a0_1, .slice (some ad259) l0_2.length c0_2] 24 (0, 0)) (by (with_reducible repeat (first | refine blk_drewN ?_ _ | refine blk_drew ?_ | refine blk_alloc ?_ _)); exact BK256.out) hg (Kd.R_ne HO_259001.out BK256.out (by decide))); have n1_ := Aside0.mk (blk_grown (g := gb257) (o := .cells #[.int .i64 0, .slice none 0 0] 31 (0, 0)) (by (with_reducible repeat (first | refine blk_drewN ?_ _ | refine blk_drew ?_ | refine blk_alloc ?_ _)); exact BK257.out) hg (Kd.R_ne HO_259001.out BK257.out (by decide))); have n2_ := Aside0.mk (blk_grown (g := gb258) (o := .cells #[.int .i64 (wrap64 (Int.tmod a0_0 13)), u259001] 31 (0, 0)) (by (with_reducible repeat (first | refine blk_drewN ?_ _ | refine blk_drew ?_ | refine blk_alloc ?_ _)); exact BK258.out) hg (Kd.R_ne HO_259001.out BK258.out (by decide))); have n3_ := Aside0.mk (hb); have n4_ := Aside0.mk (ho); clear BK256; clear BK257; clear BK258; clear HB; clear HO_259001; have BK256 := n0_; have BK257 := n1_; have BK258 := n2_; have HB := n3_; have HO266 := n4_; clear n0_ n1_ n2_ n3_ n4_; clear ho hb hg hat; obtain ⟨Ao62, co62, eo62⟩ := Kd.R_slice HO266.out; subst eo62; have hcz63_0 : w61.cell? ⟨gb258, 0, none⟩ = some (.int .i64 (wrap64 (Int.tmod a0_0 13))) := (blk_cell BK258.out 0).trans rfl; have hcz63_1 : w61.cell? ⟨gb258, 1, none⟩ = some (u259001) := (blk_cell BK258.out 1).trans rfl; have hfz63_0 := blk_frozen BK258.out 0; have hfz63_1 := blk_frozen BK258.out 1))
                                    go_roundg kj33
                                    case measure => have := HK1.out; have := HJ9.out; have := HJ33.out; omega
                                    case rel => exact ⟨(wrap64 (x5_1 + 2)), (y264), (.slice Ao62 y264.length co62), (by first | rfl | (simp; done) | (simp [*]; done)), H', ⟨by have := HK1.out; have := HJ9.out; have := HJ33.out; omega⟩, ⟨by (with_reducible repeat (first | apply Kd.R_alloc | apply Kd.R_drewN | apply Kd.R_drew)); exact Kd.R_mono (Kd.R_far (p := ⟨gb258, 1, none⟩) (Kd.R_types HO266.out BK258.out (by decide)) (fun _ hk => hk.2) (.slice Ao62 y264.length co62)) (fun _ hk => trivial)⟩, ⟨by (with_reducible repeat (first | refine blk_drewN ?_ _ | refine blk_drew ?_ | refine blk_alloc ?_ _)); refine blk_far ?_ NB256_258.out _; (with_reducible repeat (first | refine blk_drewN ?_ _ | refine blk_drew ?_ | refine blk_alloc ?_ _)); exact BK256.out⟩, ⟨by (with_reducible repeat (first | refine blk_drewN ?_ _ | refine blk_drew ?_ | refine blk_alloc ?_ _)); refine blk_far ?_ NB257_258.out _; (with_reducible repeat (first | refine blk_drewN ?_ _ | refine blk_drew ?_ | refine blk_alloc ?_ _)); exact BK257.out⟩, ⟨by (with_reducible repeat (first | refine blk_drewN ?_ _ | refine blk_drew ?_ | refine blk_alloc ?_ _)); refine blk_put (cs := #[.int .i64 (wrap64 (Int.tmod a0_0 13)), u259001]) ?_ 1 _ rfl; (with_reducible repeat (first | refine blk_drewN ?_ _ | refine blk_drew ?_ | refine blk_alloc ?_ _)); exact BK258.out⟩, ⟨by repeat (first | (with_reducible first | exact HB.out | apply below_alloc | apply pw_below_drewN | apply below_drew1 | refine below_set ?_ GE256.out | refine below_set ?_ GE257.out | refine below_set ?_ GE258.out) | exact HB.out)⟩⟩
                                  · rw [if_neg c55] at H
                                    exact absurd H (by simp)
                                · rw [if_neg c54] at H
                                  have c54b0 : ((Int.tmod (wrap64 (Int.tmod a0_0 13)) 5) == 0) = false := beq_eq_false_iff_ne.mpr c54
                                  have c54b1 : ((Int.tmod (wrap64 (Int.tmod a0_0 13)) 5) != 0) = true := bne_iff_ne.mpr c54
                                  by_cases c64 : x259001_1.length < 8796093022208
                                  · rw [if_pos c64] at H
                                    have LMc64 := Aside0.mk c64
                                    clear c64
                                    obtain ⟨y267, hy267⟩ : ∃ y_ : List (S55), y_ = (x259001_1 ++ [(⟨x6_33, x7_33⟩ : S55)]) := ⟨_, rfl⟩
                                    replace H : (wireloomref05_Made.l0 kj33 (wrap64 (Int.tmod a0_0 13)) (wrap64 (x5_1 + 2)) a0_0 a0_1 l0_2 (wrap64 (Int.tmod a0_0 13)) y267) = some (r1, r2) := by first | (rw [hy267]; with_reducible exact H) | (have H2_ := (Option.bind_some _ _).symm.trans H; rw [hy267]; with_reducible exact H2_) | (have H2_ := (Option.bind_some _ _).symm.trans H; with_reducible exact H2_) | with_reducible exact H | (rw [hy267]; exact H) | exact H
                                    have Ny267 := Aside0.mk hy267
                                    clear hy267
                                    have H' := Aside0.mk H
                                    clear H
                                    have hnb65 := NB256_257.out
                                    have hnc65 := NB257_256.out
                                    have hnb66 := NB256_258.out
                                    have hnc66 := NB258_256.out
                                    have hcz67_0 : wc.cell? ⟨gb256, 0, none⟩ = some (.int .u8 a0_0) := (blk_cell BK256.out 0).trans rfl
                                    have hcz67_1 : wc.cell? ⟨gb256, 1, none⟩ = some (.int .u8 a0_1) := (blk_cell BK256.out 1).trans rfl
                                    have hcz67_2 : wc.cell? ⟨gb256, 2, none⟩ = some (.slice (some ad259) l0_2.length c0_2) := (blk_cell BK256.out 2).trans rfl
                                    have hfz67_0 := blk_frozen BK256.out 0
                                    have hfz67_1 := blk_frozen BK256.out 1
                                    have hfz67_2 := blk_frozen BK256.out 2
                                    have hnb68 := NB258_257.out
                                    have hnc68 := NB257_258.out
                                    have hcz69_0 : wc.cell? ⟨gb258, 0, none⟩ = some (.int .i64 (wrap64 (Int.tmod a0_0 13))) := (blk_cell BK258.out 0).trans rfl
                                    have hcz69_1 : wc.cell? ⟨gb258, 1, none⟩ = some (u259001) := (blk_cell BK258.out 1).trans rfl
                                    have hfz69_0 := blk_frozen BK258.out 0
                                    have hfz69_1 := blk_frozen BK258.out 1
                                    go_wp2_with (first | ((with_reducible refine gate_builtin (b := .append) (xs := #[.tmp 83, .tmp 87]) rfl ?_); at_builtin; refine Kd.R_append k55 (w0 := w) w.heap.size rfl (.tmp 83) (.tmp 87) 25 55 (.agg #[(.int .i64 0), (.int .i64 0)]) 16 rfl Try.underlying25 info55 rfl (by decide) (by omega) u259001 x259001_1 (⟨x6_33, x7_33⟩ : S55) [.int .i64 x6_33, .int .i64 x7_33] (fun _ => True) (fun _ => False) rfl rfl ?aP (fun _ hk => hk.elim) ?aF ?aO ?aB ?aS ?aL ?_; (case aP => exact k55_mkM _ _ _ (⟨x6_33, x7_33⟩ : S55)); (case aB => exact (by repeat (first | (with_reducible first | exact HB.out | apply below_alloc | apply pw_below_drewN | apply below_drew1 | refine below_set ?_ GE256.out | refine below_set ?_ GE257.out | refine below_set ?_ GE258.out) | exact HB.out))); (case aF => exact (fun _ _ => trivial)); (case aO => exact (by (with_reducible repeat (first | apply Kd.R_alloc | apply Kd.R_drewN | apply Kd.R_drew)); exact HO_259001.out)); (case aS => exact (below_size (by repeat (first | (with_reducible first | exact HB.out | apply below_alloc | apply pw_below_drewN | apply below_drew1 | refine below_set ?_ GE256.out | refine below_set ?_ GE257.out | refine below_set ?_ GE258.out) | exact HB.out)))); (case aL => have := LMc64.out; omega); intro v268 w70 ho hb hg hat; rw [← Ny267.out] at ho; have n0_ := Aside0.mk (blk_grown (g := gb256) (o := .cells #[.int .u8 a0_0, .int .u8 a0_1, .slice (some ad259) l0_2.length c0_2] 24 (0, 0)) (by (with_reducible repeat (first | refine blk_drewN ?_ _ | refine blk_drew ?_ | refine blk_alloc ?_ _)); exact BK256.out) hg (Kd.R_ne HO_259001.out BK256.out (by decide))); have n1_ := Aside0.mk (blk_grown (g := gb257) (o := .cells #[.int .i64 0, .slice none 0 0] 31 (0, 0)) (by (with_reducible repeat (first | refine blk_drewN ?_ _ | refine blk_drew ?_ | refine blk_alloc ?_ _)); exact BK257.out) hg (Kd.R_ne HO_259001.out BK257.out (by decide))); have n2_ := Aside0.mk (blk_grown (g := gb258) (o := .cells #[.int .i64 (wrap64 (Int.tmod a0_0 13)), u259001] 31 (0, 0)) (by (with_reducible repeat (first | refine blk_drewN ?_ _ | refine blk_drew ?_ | refine blk_alloc ?_ _)); exact BK258.out) hg (Kd.R_ne HO_259001.out BK258.out (by decide))); have n3_ := Aside0.mk (hb); have n4_ := Aside0.mk (ho); clear BK256; clear BK257; clear BK258; clear HB; clear HO_259001; have BK256 := n0_; have BK257 := n1_; have BK258 := n2_; have HB := n3_; have HO269 := n4_; clear n0_ n1_ n2_ n3_ n4_; clear ho hb hg hat; obtain ⟨Ao71, co71, eo71⟩ := Kd.R_slice HO269.out; subst eo71; have hcz72_0 : w70.cell? ⟨gb258, 0, none⟩ = some (.int .i64 (wrap64 (Int.tmod a0_0 13))) := (blk_cell BK258.out 0).trans rfl; have hcz72_1 : w70.cell? ⟨gb258, 1, none⟩ = some (u259001) := (blk_cell BK258.out 1).trans rfl; have hfz72_0 := blk_frozen BK258.out 0; have hfz72_1 := blk_frozen BK258.out 1))
                                    go_roundg kj33
                                    case measure => have := HK1.out; have := HJ9.out; have := HJ33.out; omega
                                    case rel => exact ⟨(wrap64 (x5_1 + 2)), (y267), (.slice Ao71 y267.length co71), (by first | rfl | (simp; done) | (simp [*]; done)), H', ⟨by have := HK1.out; have := HJ9.out; have := HJ33.out; omega⟩, ⟨by (with_reducible repeat (first | apply Kd.R_alloc | apply Kd.R_drewN | apply Kd.R_drew)); exact Kd.R_mono (Kd.R_far (p := ⟨gb258, 1, none⟩) (Kd.R_types HO269.out BK258.out (by decide)) (fun _ hk => hk.2) (.slice Ao71 y267.length co71)) (fun _ hk => trivial)⟩, ⟨by (with_reducible repeat (first | refine blk_drewN ?_ _ | refine blk_drew ?_ | refine blk_alloc ?_ _)); refine blk_far ?_ NB256_258.out _; (with_reducible repeat (first | refine blk_drewN ?_ _ | refine blk_drew ?_ | refine blk_alloc ?_ _)); exact BK256.out⟩, ⟨by (with_reducible repeat (first | refine blk_drewN ?_ _ | refine blk_drew ?_ | refine blk_alloc ?_ _)); refine blk_far ?_ NB257_258.out _; (with_reducible repeat (first | refine blk_drewN ?_ _ | refine blk_drew ?_ | refine blk_alloc ?_ _)); exact BK257.out⟩, ⟨by (with_reducible repeat (first | refine blk_drewN ?_ _ | refine blk_drew ?_ | refine blk_alloc ?_ _)); refine blk_put (cs := #[.int .i64 (wrap64 (Int.tmod a0_0 13)), u259001]) ?_ 1 _ rfl; (with_reducible repeat (first | refine blk_drewN ?_ _ | refine blk_drew ?_ | refine blk_alloc ?_ _)); exact BK258.out⟩, ⟨by repeat (first | (with_reducible first | exact HB.out | apply below_alloc | apply pw_below_drewN | apply below_drew1 | refine below_set ?_ GE256.out | refine below_set ?_ GE257.out | refine below_set ?_ GE258.out) | exact HB.out)⟩⟩
                                  · rw [if_neg c64] at H
                                    exact absurd H (by simp)
                      · rw [if_neg c29] at H
                        have c29b0 : ((Int.tmod a0_1 2) == 0) = false := beq_eq_false_iff_ne.mpr c29
                        have c29b1 : ((Int.tmod a0_1 2) != 0) = true := bne_iff_ne.mpr c29
                        by_cases c73 : x259001_1.length < 8796093022208
                        · rw [if_pos c73] at H
                          have LMc73 := Aside0.mk c73
                          clear c73
                          obtain ⟨y270, hy270⟩ : ∃ y_ : List (S55), y_ = (x259001_1 ++ [(⟨Int.tmod (wrap64 (rd l0_2 x5_1)) (wrap64 (Int.tmod a0_0 13)), Int.tmod (wrap64 (rd l0_2 (ji26))) (wrap64 (Int.tmod a0_0 13))⟩ : S55)]) := ⟨_, rfl⟩
                          replace H : (wireloomref05_Made.l0 kj9 (wrap64 (Int.tmod a0_0 13)) (wrap64 (x5_1 + 2)) a0_0 a0_1 l0_2 (wrap64 (Int.tmod a0_0 13)) y270) = some (r1, r2) := by first | (rw [hy270]; with_reducible exact H) | (have H2_ := (Option.bind_some _ _).symm.trans H; rw [hy270]; with_reducible exact H2_) | (have H2_ := (Option.bind_some _ _).symm.trans H; with_reducible exact H2_) | with_reducible exact H | (rw [hy270]; exact H) | exact H
                          have Ny270 := Aside0.mk hy270
                          clear hy270
                          have H' := Aside0.mk H
                          clear H
                          have hnb74 := NB256_257.out
                          have hnc74 := NB257_256.out
                          have hnb75 := NB256_258.out
                          have hnc75 := NB258_256.out
                          have hcz76_0 : wc.cell? ⟨gb256, 0, none⟩ = some (.int .u8 a0_0) := (blk_cell BK256.out 0).trans rfl
                          have hcz76_1 : wc.cell? ⟨gb256, 1, none⟩ = some (.int .u8 a0_1) := (blk_cell BK256.out 1).trans rfl
                          have hcz76_2 : wc.cell? ⟨gb256, 2, none⟩ = some (.slice A0_2 l0_2.length c0_2) := (blk_cell BK256.out 2).trans rfl
                          have hfz76_0 := blk_frozen BK256.out 0
                          have hfz76_1 := blk_frozen BK256.out 1
                          have hfz76_2 := blk_frozen BK256.out 2
                          have p259 : 0 ≤ (x5_1 : Int) := of_decide_eq_true (by first | (with_reducible assumption) | assumption)
                          have q259 : x5_1 < (l0_2.length : Int) := of_decide_eq_true (by first | (with_reducible assumption) | assumption)
                          obtain ⟨ad259, e259, hx259_0⟩ := Kd.at_int HR0_2.out x5_1 p259 q259
                          cases e259
                          (try (replace hx259_0 := (HB.out.cell (World.block_lt_of_cell? w _ hx259_0)).trans hx259_0))
                          replace p259 := eq_true p259
                          replace q259 := eq_true q259
                          have p260 : 0 ≤ ((ji26) : Int) := of_decide_eq_true (by first | (with_reducible assumption) | assumption)
                          have q260 : (ji26) < (l0_2.length : Int) := of_decide_eq_true (by first | (with_reducible assumption) | assumption)
                          obtain ⟨ad260, e260, hx260_0⟩ := Kd.at_int HR0_2.out (ji26) p260 q260
                          obtain rfl : ad259 = ad260 := (by injection e260)
                          (try (replace hx260_0 := (HB.out.cell (World.block_lt_of_cell? w _ hx260_0)).trans hx260_0))
                          replace p260 := eq_true p260
                          replace q260 := eq_true q260
                          have hnb77 := NB258_257.out
                          have hnc77 := NB257_258.out
                          have hcz78_0 : wc.cell? ⟨gb258, 0, none⟩ = some (.int .i64 (wrap64 (Int.tmod a0_0 13))) := (blk_cell BK258.out 0).trans rfl
                          have hcz78_1 : wc.cell? ⟨gb258, 1, none⟩ = some (u259001) := (blk_cell BK258.out 1).trans rfl
                          have hfz78_0 := blk_frozen BK258.out 0
                          have hfz78_1 := blk_frozen BK258.out 1
                          go_wp2_with (first | ((with_reducible refine gate_builtin (b := .append) (xs := #[.tmp 83, .tmp 87]) rfl ?_); at_builtin; refine Kd.R_append k55 (w0 := w) w.heap.size rfl (.tmp 83) (.tmp 87) 25 55 (.agg #[(.int .i64 0), (.int .i64 0)]) 16 rfl Try.underlying25 info55 rfl (by decide) (by omega) u259001 x259001_1 (⟨Int.tmod (wrap64 (rd l0_2 x5_1)) (wrap64 (Int.tmod a0_0 13)), Int.tmod (wrap64 (rd l0_2 (ji26))) (wrap64 (Int.tmod a0_0 13))⟩ : S55) [.int .i64 (Int.tmod (wrap64 (rd l0_2 x5_1)) (wrap64 (Int.tmod a0_0 13))), .int .i64 (Int.tmod (wrap64 (rd l0_2 (ji26))) (wrap64 (Int.tmod a0_0 13)))] (fun _ => True) (fun _ => False) rfl rfl ?aP (fun _ hk => hk.elim) ?aF ?aO ?aB ?aS ?aL ?_; (case aP => exact k55_mkM _ _ _ (⟨Int.tmod (wrap64 (rd l0_2 x5_1)) (wrap64 (Int.tmod a0_0 13)), Int.tmod (wrap64 (rd l0_2 (ji26))) (wrap64 (Int.tmod a0_0 13))⟩ : S55)); (case aB => exact (by repeat (first | (with_reducible first | exact HB.out | apply below_alloc | apply pw_below_drewN | apply below_drew1 | refine below_set ?_ GE256.out | refine below_set ?_ GE257.out | refine below_set ?_ GE258.out) | exact HB.out))); (case aF => exact (fun _ _ => trivial)); (case aO => exact (by (with_reducible repeat (first | apply Kd.R_alloc | apply Kd.R_drewN | apply Kd.R_drew)); exact HO_259001.out)); (case aS => exact (below_size (by repeat (first | (with_reducible first | exact HB.out | apply below_alloc | apply pw_below_drewN | apply below_drew1 | refine below_set ?_ GE256.out | refine below_set ?_ GE257.out | refine below_set ?_ GE258.out) | exact HB.out)))); (case aL => have := LMc73.out; omega); intro v271 w79 ho hb hg hat; rw [← Ny270.out] at ho; have n0_ := Aside0.mk (blk_grown (g := gb256) (o := .cells #[.int .u8 a0_0, .int .u8 a0_1, .slice (some ad259) l0_2.length c0_2] 24 (0, 0)) (by (with_reducible repeat (first | refine blk_drewN ?_ _ | refine blk_drew ?_ | refine blk_alloc ?_ _)); exact BK256.out) hg (Kd.R_ne HO_259001.out BK256.out (by decide))); have n1_ := Aside0.mk (blk_grown (g := gb257) (o := .cells #[.int .i64 0, .slice none 0 0] 31 (0, 0)) (by (with_reducible repeat (first | refine blk_drewN ?_ _ | refine blk_drew ?_ | refine blk_alloc ?_ _)); exact BK257.out) hg (Kd.R_ne HO_259001.out BK257.out (by decide))); have n2_ := Aside0.mk (blk_grown (g := gb258) (o := .cells #[.int .i64 (wrap64 (Int.tmod a0_0 13)), u259001] 31 (0, 0)) (by (with_reducible repeat (first | refine blk_drewN ?_ _ | refine blk_drew ?_ | refine blk_alloc ?_ _)); exact BK258.out) hg (Kd.R_ne HO_259001.out BK258.out (by decide))); have n3_ := Aside0.mk (hb); have n4_ := Aside0.mk (ho); clear BK256; clear BK257; clear BK258; clear HB; clear HO_259001; have BK256 := n0_; have BK257 := n1_; have BK258 := n2_; have HB := n3_; have HO272 := n4_; clear n0_ n1_ n2_ n3_ n4_; clear ho hb hg hat; obtain ⟨Ao80, co80, eo80⟩ := Kd.R_slice HO272.out; subst eo80; have hcz81_0 : w79.cell? ⟨gb258, 0, none⟩ = some (.int .i64 (wrap64 (Int.tmod a0_0 13))) := (blk_cell BK258.out 0).trans rfl; have hcz81_1 : w79.cell? ⟨gb258, 1, none⟩ = some (u259001) := (blk_cell BK258.out 1).trans rfl; have hfz81_0 := blk_frozen BK258.out 0; have hfz81_1 := blk_frozen BK258.out 1))
                          go_roundg kj9
                          case measure => have := HK1.out; have := HJ9.out; omega
                          case rel => exact ⟨(wrap64 (x5_1 + 2)), (y270), (.slice Ao80 y270.length co80), (by first | rfl | (simp; done) | (simp [*]; done)), H', ⟨by have := HK1.out; have := HJ9.out; omega⟩, ⟨by (with_reducible repeat (first | apply Kd.R_alloc | apply Kd.R_drewN | apply Kd.R_drew)); exact Kd.R_mono (Kd.R_far (p := ⟨gb258, 1, none⟩) (Kd.R_types HO272.out BK258.out (by decide)) (fun _ hk => hk.2) (.slice Ao80 y270.length co80)) (fun _ hk => trivial)⟩, ⟨by (with_reducible repeat (first | refine blk_drewN ?_ _ | refine blk_drew ?_ | refine blk_alloc ?_ _)); refine blk_far ?_ NB256_258.out _; (with_reducible repeat (first | refine blk_drewN ?_ _ | refine blk_drew ?_ | refine blk_alloc ?_ _)); exact BK256.out⟩, ⟨by (with_reducible repeat (first | refine blk_drewN ?_ _ | refine blk_drew ?_ | refine blk_alloc ?_ _)); refine blk_far ?_ NB257_258.out _; (with_reducible repeat (first | refine blk_drewN ?_ _ | refine blk_drew ?_ | refine blk_alloc ?_ _)); exact BK257.out⟩, ⟨by (with_reducible repeat (first | refine blk_drewN ?_ _ | refine blk_drew ?_ | refine blk_alloc ?_ _)); refine blk_put (cs := #[.int .i64 (wrap64 (Int.tmod a0_0 13)), u259001]) ?_ 1 _ rfl; (with_reducible repeat (first | refine blk_drewN ?_ _ | refine blk_drew ?_ | refine blk_alloc ?_ _)); exact BK258.out⟩, ⟨by repeat (first | (with_reducible first | exact HB.out | apply below_alloc | apply pw_below_drewN | apply below_drew1 | refine below_set ?_ GE256.out | refine below_set ?_ GE257.out | refine below_set ?_ GE258.out) | exact HB.out)⟩⟩
                        · rw [if_neg c73] at H
                          exact absurd H (by simp)
                    · rw [if_neg c28] at H
                      exact absurd H (by simp)
                  · rw [if_neg c27] at H
                    exact absurd H (by simp)
              · rw [if_neg c24] at H
                exact absurd H (by simp)
            · rw [if_neg c23] at H
              exact absurd H (by simp)
          · replace c22 := Bool.eq_false_iff.mpr c22
            subst c22
            have H1 : (some ((wrap64 (Int.tmod a0_0 13)), x259001_1)) = some (r1, r2) := by rw [if_neg (show ¬ (false = true) by decide)] at H; exact H
            clear H
            have H := H1
            clear H1
            simp only [Option.some.injEq, Prod.mk.injEq] at H
            obtain ⟨rfl, rfl⟩ := H
            have hnb82 := NB258_256.out
            have hnc82 := NB256_258.out
            have hnb83 := NB258_257.out
            have hnc83 := NB257_258.out
            have hcz84_0 : wc.cell? ⟨gb258, 0, none⟩ = some (.int .i64 (wrap64 (Int.tmod a0_0 13))) := (blk_cell BK258.out 0).trans rfl
            have hcz84_1 : wc.cell? ⟨gb258, 1, none⟩ = some (u259001) := (blk_cell BK258.out 1).trans rfl
            have hfz84_0 := blk_frozen BK258.out 0
            have hfz84_1 := blk_frozen BK258.out 1
            have hnb85 := NB257_256.out
            have hnc85 := NB256_257.out
            have hcz86_0 : wc.cell? ⟨gb257, 0, none⟩ = some (.int .i64 0) := (blk_cell BK257.out 0).trans rfl
            have hcz86_1 : wc.cell? ⟨gb257, 1, none⟩ = some (.slice none 0 0) := (blk_cell BK257.out 1).trans rfl
            have hfz86_0 := blk_frozen BK257.out 0
            have hfz86_1 := blk_frozen BK257.out 1
            obtain ⟨Ao87, co87, eo87⟩ := Kd.R_slice HO_259001.out
            subst eo87
            go_wp2
            refine bodyPost_ret (results_cell_row rfl _ _ gb257 31 #[.int .i64 (wrap64 (Int.tmod a0_0 13)), .slice Ao87 x259001_1.length co87] (0, 0) _ rfl (by (with_reducible repeat (first | refine blk_drewN ?_ _ | refine blk_drew ?_ | refine blk_alloc ?_ _)); refine blk_put (cs := #[.int .i64 (wrap64 (Int.tmod a0_0 13)), .slice none 0 0]) ?_ 1 _ rfl; (with_reducible repeat (first | refine blk_drewN ?_ _ | refine blk_drew ?_ | refine blk_alloc ?_ _)); refine blk_put (cs := #[.int .i64 0, .slice none 0 0]) ?_ 0 _ rfl; (with_reducible repeat (first | refine blk_drewN ?_ _ | refine blk_drew ?_ | refine blk_alloc ?_ _)); exact BK257.out) Try.underlying31 rfl (by kernel_rfl)) rfl ?_
            exact ⟨_, by first | rfl | (simp [errW_none, errW_some] <;> rfl) | (simp [*, errW_none, errW_some] <;> rfl), by (with_reducible repeat (first | apply Kd.R_alloc | apply Kd.R_drewN | apply Kd.R_drew)); exact Kd.R_mono (Kd.R_far (p := ⟨gb257, 1, none⟩) (Kd.R_far (p := ⟨gb257, 0, none⟩) (Kd.R_types HO_259001.out BK257.out (by decide)) (fun _ hk => hk.2) (.int .i64 (wrap64 (Int.tmod a0_0 13)))) (fun _ hk => hk.2) (.slice Ao87 x259001_1.length co87)) (fun _ hk => trivial), by repeat (first | (with_reducible first | exact HB.out | apply below_alloc | apply pw_below_drewN | apply below_drew1 | refine below_set ?_ GE256.out | refine below_set ?_ GE257.out | refine below_set ?_ GE258.out) | exact HB.out)⟩
end Go.Proofs.Ytlldjinejckbaaa.PD

end
section
namespace Go.Proofs.Ytlldjinejckbaaa.PD
open Go.RowKit Go.Proofs.YtlldjinejckbaaaW.PrintWords Go.Proofs.YtlldjinejckbaaaW.PrintLast Go.Proofs.YtlldjinejckbaaaW.PrintMore
attribute [local go_sem] max2_int min2_int max_two min_two max_three min_three max_four min_four
set_option linter.unusedVariables false
set_option linter.unusedSimpArgs false
def wireloomlaw05_edge.l0 : Nat → List (S55) → Int → Int → Int → Option (Bool)
  | 0, _, _, _, _ => none
  | k + 1, x0, x1, x2, x7 => if x7 < (x0.length : Int) then (if 0 ≤ x7 then (if ((rd_T55 x0 x7).f0) = x1 then (if ((rd_T55 x0 x7).f1) = x2 then (some true) else (wireloomlaw05_edge.l0 k x0 x1 x2 (wrap64 (x7 + 1)))) else (wireloomlaw05_edge.l0 k x0 x1 x2 (wrap64 (x7 + 1)))) else (none)) else (some false)
def wireloomlaw05_edge.f (k : Nat) (l0 : List (S55)) (a1 : Int) (a2 : Int) : Option (Bool) := wireloomlaw05_edge.l0 k l0 a1 a2 0
theorem wireloomlaw05_edge.mono_l : ∀ k, (∀ y0 y1 y2 y3, LeO (wireloomlaw05_edge.l0 k y0 y1 y2 y3) (wireloomlaw05_edge.l0 (k + 1) y0 y1 y2 y3))
  | 0 => fun _ _ _ _ r h => by simp [wireloomlaw05_edge.l0] at h
  | k + 1 => by
    have ih0 := wireloomlaw05_edge.mono_l k
    · intro y0 y1 y2 y3
      unfold wireloomlaw05_edge.l0
      repeat' first
      | (with_reducible exact ih0 _ _ _ _)
      | (with_reducible exact LeO.refl _)
      | (with_reducible exact LeO.none _)
      | (with_reducible refine LeO.ite ?_ ?_)
      | (with_reducible refine LeO.bind ?_ (fun _ => ?_))
      | exact ih0 _ _ _ _
      | exact LeO.none _
      | refine LeO.ite ?_ ?_
      | refine LeO.bind ?_ (fun _ => ?_)
theorem wireloomlaw05_edge.mono : ∀ a0 a1 a2 k, LeO (wireloomlaw05_edge.f k a0 a1 a2) (wireloomlaw05_edge.f (k + 1) a0 a1 a2) := by
  intro a0 a1 a2 k
  have ih0 := wireloomlaw05_edge.mono_l k
  unfold wireloomlaw05_edge.f
  repeat' first
      | (with_reducible exact ih0 _ _ _ _)
      | (with_reducible exact LeO.refl _)
      | (with_reducible exact LeO.none _)
      | (with_reducible refine LeO.ite ?_ ?_)
      | (with_reducible refine LeO.bind ?_ (fun _ => ?_))
      | exact ih0 _ _ _ _
      | exact LeO.none _
      | refine LeO.ite ?_ ?_
      | refine LeO.bind ?_ (fun _ => ?_)
set_option maxHeartbeats 8000000 in
set_option maxRecDepth 100000 in
theorem wireloomlaw05_edge.calls (k : Nat) (A0 : Option Addr) (c0 : Nat) (l0 : List (S55)) (a1 : Int) (a2 : Int) (r : Bool) (w : World) (hr0 : Kd.C k55 w A0 l0.length l0) (hc0 : l0.length ≤ c0) (h : wireloomlaw05_edge.f k l0 a1 a2 = some r) :
    Calls Try.prog 29 #[.slice A0 l0.length c0, .int .i64 a1, .int .i64 a2] w fun e w' => e = .returned (.bool r) ∧ Drawn0 w w' := by
  have HR0 := Aside0.mk hr0
  have HC0 := Aside0.mk hc0
  clear hr0 hc0
  have H : (wireloomlaw05_edge.l0 k l0 a1 a2 0) = some r := h
  clear h
  have H' := Aside0.mk H
  clear H
  go_enter Try.func29, Try.ntmps29
  go_wp2
  go_loopg [7] k (fun kq v7 w' => ∃ (x7_1 : Int), v7 = .int .i64 x7_1 ∧ Aside0 (wireloomlaw05_edge.l0 kq l0 a1 a2 x7_1 = some r) ∧ Aside0 (kq ≤ k) ∧ Drawn0 w w')
  case atStart => exact ⟨(0), (by first | rfl | (simp; done) | (simp [*]; done)), H', ⟨Nat.le_refl _⟩, by repeat (first | exact Drawn0.refl _ | apply Drawn0.step)⟩
  case round =>
    clear H'
    try clear c2
    try clear p2
    obtain ⟨x7_1, rfl, HA, HK1, ⟨m1, rfl⟩⟩ := hrel
    cases gk with
    | zero => exact absurd HA.out (by simp [wireloomlaw05_edge.l0])
    | succ k1 =>
      have H := HA.out
      clear HA
      simp only [wireloomlaw05_edge.l0] at H
      by_cases c4 : x7_1 < (l0.length : Int)
      · rw [if_pos c4] at H
        have c4b0 : decide (x7_1 < (l0.length : Int)) = true := decide_eq_true c4
        clear c4
        by_cases c5 : 0 ≤ x7_1
        · rw [if_pos c5] at H
          have c5b0 : decide (0 ≤ x7_1) = true := decide_eq_true c5
          clear c5
          by_cases c6 : ((rd_T55 l0 x7_1).f0) = a1
          · rw [if_pos c6] at H
            have c6b0 : (((rd_T55 l0 x7_1).f0) == a1) = true := beq_iff_eq.mpr c6
            have c6b1 : (((rd_T55 l0 x7_1).f0) != a1) = false := bne_eq_false_iff_eq.mpr c6
            clear c6
            by_cases c7 : ((rd_T55 l0 x7_1).f1) = a2
            · rw [if_pos c7] at H
              have c7b0 : (((rd_T55 l0 x7_1).f1) == a2) = true := beq_iff_eq.mpr c7
              have c7b1 : (((rd_T55 l0 x7_1).f1) != a2) = false := bne_eq_false_iff_eq.mpr c7
              clear c7
              obtain rfl := Option.some.inj H
              have p455 : 0 ≤ (x7_1 : Int) := of_decide_eq_true (by first | (with_reducible assumption) | assumption)
              have q455 : x7_1 < (l0.length : Int) := of_decide_eq_true (by first | (with_reducible assumption) | assumption)
              obtain ⟨ad455, e455, hx455_0, hx455_1⟩ := at_T55 HR0.out x7_1 p455 q455
              cases e455
              replace p455 := eq_true p455
              replace q455 := eq_true q455
              have p456 : 0 ≤ (x7_1 : Int) := of_decide_eq_true (by first | (with_reducible assumption) | assumption)
              have q456 : x7_1 < (l0.length : Int) := of_decide_eq_true (by first | (with_reducible assumption) | assumption)
              obtain ⟨ad456, e456, hx456_0, hx456_1⟩ := at_T55 HR0.out x7_1 p456 q456
              obtain rfl : ad455 = ad456 := (by injection e456)
              replace p456 := eq_true p456
              replace q456 := eq_true q456
              go_wp2
              go_ret
              exact ⟨by first | rfl | (simp; done) | (simp [*]; done), by repeat (first | exact Drawn0.refl _ | apply Drawn0.step)⟩
            · rw [if_neg c7] at H
              have c7b0 : (((rd_T55 l0 x7_1).f1) == a2) = false := beq_eq_false_iff_ne.mpr c7
              have c7b1 : (((rd_T55 l0 x7_1).f1) != a2) = true := bne_iff_ne.mpr c7
              have H' := Aside0.mk H
              clear H
              have p455 : 0 ≤ (x7_1 : Int) := of_decide_eq_true (by first | (with_reducible assumption) | assumption)
              have q455 : x7_1 < (l0.length : Int) := of_decide_eq_true (by first | (with_reducible assumption) | assumption)
              obtain ⟨ad455, e455, hx455_0, hx455_1⟩ := at_T55 HR0.out x7_1 p455 q455
              cases e455
              replace p455 := eq_true p455
              replace q455 := eq_true q455
              have p456 : 0 ≤ (x7_1 : Int) := of_decide_eq_true (by first | (with_reducible assumption) | assumption)
              have q456 : x7_1 < (l0.length : Int) := of_decide_eq_true (by first | (with_reducible assumption) | assumption)
              obtain ⟨ad456, e456, hx456_0, hx456_1⟩ := at_T55 HR0.out x7_1 p456 q456
              obtain rfl : ad455 = ad456 := (by injection e456)
              replace p456 := eq_true p456
              replace q456 := eq_true q456
              go_wp2
              go_roundg k1
              case measure => have := HK1.out; omega
              case rel => exact ⟨(wrap64 (x7_1 + 1)), (by first | rfl | (simp; done) | (simp [*]; done)), H', ⟨by have := HK1.out; omega⟩, by repeat (first | exact Drawn0.refl _ | apply Drawn0.step)⟩
          · rw [if_neg c6] at H
            have c6b0 : (((rd_T55 l0 x7_1).f0) == a1) = false := beq_eq_false_iff_ne.mpr c6
            have c6b1 : (((rd_T55 l0 x7_1).f0) != a1) = true := bne_iff_ne.mpr c6
            have H' := Aside0.mk H
            clear H
            have p455 : 0 ≤ (x7_1 : Int) := of_decide_eq_true (by first | (with_reducible assumption) | assumption)
            have q455 : x7_1 < (l0.length : Int) := of_decide_eq_true (by first | (with_reducible assumption) | assumption)
            obtain ⟨ad455, e455, hx455_0, hx455_1⟩ := at_T55 HR0.out x7_1 p455 q455
            cases e455
            replace p455 := eq_true p455
            replace q455 := eq_true q455
            go_wp2
            go_roundg k1
            case measure => have := HK1.out; omega
            case rel => exact ⟨(wrap64 (x7_1 + 1)), (by first | rfl | (simp; done) | (simp [*]; done)), H', ⟨by have := HK1.out; omega⟩, by repeat (first | exact Drawn0.refl _ | apply Drawn0.step)⟩
        · rw [if_neg c5] at H
          exact absurd H (by simp)
      · rw [if_neg c4] at H
        have c4b0 : decide (x7_1 < (l0.length : Int)) = false := decide_eq_false c4
        clear c4
        obtain rfl := Option.some.inj H
        go_wp2
        go_ret
        exact ⟨by first | rfl | (simp; done) | (simp [*]; done), by repeat (first | exact Drawn0.refl _ | apply Drawn0.step)⟩
end Go.Proofs.Ytlldjinejckbaaa.PD

end
section
namespace Go.Proofs.Ytlldjinejckbaaa.PD
open Go.RowKit Go.Proofs.YtlldjinejckbaaaW.PrintWords Go.Proofs.YtlldjinejckbaaaW.PrintLast Go.Proofs.YtlldjinejckbaaaW.PrintMore
attribute [local go_sem] max2_int min2_int max_two min_two max_three min_three max_four min_four
set_option linter.unusedVariables false
set_option linter.unusedSimpArgs false
def wireloomlaw05_walk.l0 : Nat → List Bool → List Bool → Int → Int → List (S55) → Option (List Bool)
  | 0, _, _, _, _, _ => none
  | k + 1, x1, x5, x6, x500000, x500001 => if x6 < (x500001.length : Int) then (if 0 ≤ x6 then (if 0 ≤ ((rd_T55 x500001 x6).f0) then (if ((rd_T55 x500001 x6).f0) < (x1.length : Int) then (if rdOf false x1 ((rd_T55 x500001 x6).f0) = true then (if 0 ≤ ((rd_T55 x500001 x6).f1) then (if ((rd_T55 x500001 x6).f1) < (x5.length : Int) then (wireloomlaw05_walk.l0 k x1 (x5.set (((rd_T55 x500001 x6).f1) : Int).toNat true) (wrap64 (x6 + 1)) x500000 x500001) else (none)) else (none)) else (wireloomlaw05_walk.l0 k x1 x5 (wrap64 (x6 + 1)) x500000 x500001)) else (none)) else (none)) else (none)) else (some x5)
def wireloomlaw05_walk.f (k : Nat) (a0_0 : Int) (l0_1 : List (S55)) (l1 : List Bool) : Option (List Bool) := if 0 ≤ a0_0 then (if (a0_0 : Int).toNat ≤ 281474976710656 then (wireloomlaw05_walk.l0 k l1 (List.replicate (a0_0 : Int).toNat false) 0 a0_0 l0_1) else (none)) else (none)
theorem wireloomlaw05_walk.mono_l : ∀ k, (∀ y0 y1 y2 y3 y4, LeO (wireloomlaw05_walk.l0 k y0 y1 y2 y3 y4) (wireloomlaw05_walk.l0 (k + 1) y0 y1 y2 y3 y4))
  | 0 => fun _ _ _ _ _ r h => by simp [wireloomlaw05_walk.l0] at h
  | k + 1 => by
    have ih0 := wireloomlaw05_walk.mono_l k
    · intro y0 y1 y2 y3 y4
      unfold wireloomlaw05_walk.l0
      repeat' first
      | (with_reducible exact ih0 _ _ _ _ _)
      | (with_reducible exact LeO.refl _)
      | (with_reducible exact LeO.none _)
      | (with_reducible refine LeO.ite ?_ ?_)
      | (with_reducible refine LeO.bind ?_ (fun _ => ?_))
      | exact ih0 _ _ _ _ _
      | exact LeO.none _
      | refine LeO.ite ?_ ?_
      | refine LeO.bind ?_ (fun _ => ?_)
theorem wireloomlaw05_walk.mono : ∀ a0 a1 a2 k, LeO (wireloomlaw05_walk.f k a0 a1 a2) (wireloomlaw05_walk.f (k + 1) a0 a1 a2) := by
  intro a0 a1 a2 k
  have ih0 := wireloomlaw05_walk.mono_l k
  unfold wireloomlaw05_walk.f
  repeat' first
      | (with_reducible exact ih0 _ _ _ _ _)
      | (with_reducible exact LeO.refl _)
      | (with_reducible exact LeO.none _)
      | (with_reducible refine LeO.ite ?_ ?_)
      | (with_reducible refine LeO.bind ?_ (fun _ => ?_))
      | exact ih0 _ _ _ _ _
      | exact LeO.none _
      | refine LeO.ite ?_ ?_
      | refine LeO.bind ?_ (fun _ => ?_)
set_option maxHeartbeats 8000000 in
set_option maxRecDepth 100000 in
theorem wireloomlaw05_walk.calls (k : Nat) (a0_0 : Int) (A0_1 : Option Addr) (c0_1 : Nat) (l0_1 : List (S55)) (A1 : Option Addr) (c1 : Nat) (l1 : List Bool) (r : List Bool) (w : World) (hr0_1 : Kd.C k55 w A0_1 l0_1.length l0_1) (hc0_1 : l0_1.length ≤ c0_1) (hr1 : Kd.C Kd.bool w A1 l1.length l1) (hc1 : l1.length ≤ c1) (h : wireloomlaw05_walk.f k a0_0 l0_1 l1 = some r) :
    Calls Try.prog 30 #[.agg #[.int .i64 a0_0, .slice A0_1 l0_1.length c0_1], .slice A1 l1.length c1] w fun e w' => ∃ v0_ : Value, e = .returned (v0_) ∧ Kd.R Kd.bool 4 w' w.heap.size (fun _ => True) v0_ r ∧ Below w.heap.size w w' := by
  have hu31 := Try.underlying31
  have HR0_1 := Aside0.mk hr0_1
  have HC0_1 := Aside0.mk hc0_1
  clear hr0_1 hc0_1
  have HR1 := Aside0.mk hr1
  have HC1 := Aside0.mk hc1
  clear hr1 hc1
  have HB := Aside0.mk (Below.refl w.heap.size w)
  have H : (if 0 ≤ a0_0 then (if (a0_0 : Int).toNat ≤ 281474976710656 then (wireloomlaw05_walk.l0 k l1 (List.replicate (a0_0 : Int).toNat false) 0 a0_0 l0_1) else (none)) else (none)) = some r := h
  clear h
  by_cases c3 : 0 ≤ a0_0
  · rw [if_pos c3] at H
    have c3b0 := eq_true c3
    have c3b1 : decide (0 ≤ a0_0) = true := decide_eq_true c3
    clear c3
    by_cases c4 : (a0_0 : Int).toNat ≤ 281474976710656
    · rw [if_pos c4] at H
      have c4b0 := eq_true c4
      have c4b1 : decide ((a0_0 : Int).toNat ≤ 281474976710656) = true := decide_eq_true c4
      clear c4
      obtain ⟨y500, hy500⟩ : ∃ y_ : List Bool, y_ = (List.replicate (a0_0 : Int).toNat false) := ⟨_, rfl⟩
      replace H : (wireloomlaw05_walk.l0 k l1 y500 0 a0_0 l0_1) = some r := by first | (rw [hy500]; with_reducible exact H) | (have H2_ := (Option.bind_some _ _).symm.trans H; rw [hy500]; with_reducible exact H2_) | (have H2_ := (Option.bind_some _ _).symm.trans H; with_reducible exact H2_) | with_reducible exact H | (rw [hy500]; exact H) | exact H
      have Ny500 := Aside0.mk hy500
      clear hy500
      have H' := Aside0.mk H
      clear H
      go_enter Try.func30, Try.ntmps30
      go_wp2_with (first | ((with_reducible refine gate_dst (N := 2) rfl ?_); refine box_event ?hg (N := 2) ?hd (cs := #[.int .i64 a0_0, .slice A0_1 l0_1.length c0_1]) (t := 31) ?hr ?_; (case hd => rfl); (case hg => rfl); (case hr => first | (go_simp; done) | (go_simp; rfl)); intro gb499 hg w5 hbox hb; have n0_ := Aside0.mk (below_step (by repeat (first | (with_reducible first | exact HB.out | apply below_alloc | apply pw_below_drewN | apply below_drew1) | exact HB.out)) hb); have n1_ := Aside0.mk (hbox); have n2_ := Aside0.mk ((by rw [hg]; exact (below_size (by repeat (first | (with_reducible first | exact HB.out | apply below_alloc | apply pw_below_drewN | apply below_drew1) | exact HB.out))) : w.heap.size ≤ gb499)); have n3_ := Aside0.mk ((by rw [hg]; exact (below_size (by repeat (first | (with_reducible first | exact HB.out | apply below_alloc | apply pw_below_drewN | apply below_drew1) | exact HB.out))) : w.heap.size ≤ gb499)); clear HB; have HB := n0_; have BK499 := n1_; have GW499 := n2_; have GE499 := n3_; clear n0_ n1_ n2_ n3_; clear hb hbox hg; have hcz6_0 : w5.cell? ⟨gb499, 0, none⟩ = some (.int .i64 a0_0) := (blk_cell BK499.out 0).trans rfl; have hcz6_1 : w5.cell? ⟨gb499, 1, none⟩ = some (.slice A0_1 l0_1.length c0_1) := (blk_cell BK499.out 1).trans rfl; have hfz6_0 := blk_frozen BK499.out 0; have hfz6_1 := blk_frozen BK499.out 1) | ((with_reducible refine gate_dst (N := 9) rfl ?_); refine Kd.R_make Kd.bool _ 4 rfl (N := 9) rfl 49 _ _ rfl a0_0 rfl rfl Try.underlying49 (.bool false) 1 info4 rfl (by decide) (by omega) false (ok := fun _ => True) (okp := fun _ => True) rfl (fun _ hk => hk) trivial (of_decide_eq_true (by first | (with_reducible assumption) | assumption)) (Nat.le_trans (Nat.mul_le_mul_right _ (of_decide_eq_true (by first | (with_reducible assumption) | assumption) : a0_0.toNat ≤ 281474976710656)) (by omega)) (Below.refl _ _) (Nat.le_refl _) ?_; intro v501 w7 ho8 hb hg_ hnew_; clear hg_ hnew_; (first | rw [← Ny500.out] at ho8 | (simp only [Int.reduceToNat] at ho8; rw [← Ny500.out] at ho8)); have n0_ := Aside0.mk (Kd.R_lower ho8 (below_size (by repeat (first | (with_reducible first | exact HB.out | apply below_alloc | apply pw_below_drewN | apply below_drew1 | refine below_set ?_ GE499.out) | exact HB.out)))); have n1_ := Aside0.mk (blk_below (g := gb499) (o := .cells #[.int .i64 a0_0, .slice A0_1 l0_1.length c0_1] 31 (0, 0)) (by (with_reducible repeat (first | refine blk_drewN ?_ _ | refine blk_drew ?_ | refine blk_alloc ?_ _)); exact BK499.out) hb); have n2_ := Aside0.mk (below_step (by repeat (first | (with_reducible first | exact HB.out | apply below_alloc | apply pw_below_drewN | apply below_drew1 | refine below_set ?_ GE499.out) | exact HB.out)) hb); clear BK499; clear HB; have HO502 := n0_; have BK499 := n1_; have HB := n2_; clear n0_ n1_ n2_; clear hb ho8))
      go_loopg [6] k (fun kq v6 w' => ∃ (x5_1 : List Bool) (x6_1 : Int), v6 = .int .i64 x6_1 ∧ Aside0 (wireloomlaw05_walk.l0 kq l1 x5_1 x6_1 a0_0 l0_1 = some r) ∧ Aside0 (kq ≤ k) ∧ Aside0 (Kd.R Kd.bool 4 w' w.heap.size (fun _ => True) v501 x5_1) ∧ Aside0 (w'.heap[gb499]? = some (.cells #[.int .i64 a0_0, (.slice A0_1 l0_1.length c0_1)] 31 (0, 0))) ∧ Aside0 (Below w.heap.size w w'))
      case atStart => exact ⟨(y500), (0), (by first | rfl | (simp; done) | (simp [*]; done)), H', ⟨Nat.le_refl _⟩, ⟨by (with_reducible repeat (first | apply Kd.R_alloc | apply Kd.R_drewN | apply Kd.R_drew)); exact HO502.out⟩, ⟨by (with_reducible repeat (first | refine blk_drewN ?_ _ | refine blk_drew ?_ | refine blk_alloc ?_ _)); exact BK499.out⟩, ⟨by repeat (first | (with_reducible first | exact HB.out | apply below_alloc | apply pw_below_drewN | apply below_drew1 | refine below_set ?_ GE499.out) | exact HB.out)⟩⟩
      case round =>
        clear H'
        try clear c1
        try clear p2
        try clear c3
        try clear c3b0
        try clear c3b1
        try clear c4
        try clear c4b0
        try clear c4b1
        try clear hcz6_0
        try clear hcz6_1
        try clear hfz6_0
        try clear hfz6_1
        obtain ⟨x5_1, x6_1, rfl, HA, HK1, HO_5, BK499, HB⟩ := hrel
        cases gk with
        | zero => exact absurd HA.out (by simp [wireloomlaw05_walk.l0])
        | succ k1 =>
          have H := HA.out
          clear HA
          simp only [wireloomlaw05_walk.l0] at H
          by_cases c9 : x6_1 < (l0_1.length : Int)
          · rw [if_pos c9] at H
            have c9b0 : decide (x6_1 < (l0_1.length : Int)) = true := decide_eq_true c9
            clear c9
            by_cases c10 : 0 ≤ x6_1
            · rw [if_pos c10] at H
              have c10b0 : decide (0 ≤ x6_1) = true := decide_eq_true c10
              clear c10
              by_cases c11 : 0 ≤ ((rd_T55 l0_1 x6_1).f0)
              · rw [if_pos c11] at H
                have c11b0 : decide (0 ≤ ((rd_T55 l0_1 x6_1).f0)) = true := decide_eq_true c11
                clear c11
                by_cases c12 : ((rd_T55 l0_1 x6_1).f0) < (l1.length : Int)
                · rw [if_pos c12] at H
                  have c12b0 : decide (((rd_T55 l0_1 x6_1).f0) < (l1.length : Int)) = true := decide_eq_true c12
                  clear c12
                  obtain ⟨bq13, hbq13⟩ : ∃ b_ : Bool, b_ = (rdOf false l1 ((rd_T55 l0_1 x6_1).f0)) := ⟨_, rfl⟩
                  replace H : (if bq13 = true then (if 0 ≤ ((rd_T55 l0_1 x6_1).f1) then (if ((rd_T55 l0_1 x6_1).f1) < (x5_1.length : Int) then (wireloomlaw05_walk.l0 k1 l1 (x5_1.set (((rd_T55 l0_1 x6_1).f1) : Int).toNat true) (wrap64 (x6_1 + 1)) a0_0 l0_1) else (none)) else (none)) else (wireloomlaw05_walk.l0 k1 l1 x5_1 (wrap64 (x6_1 + 1)) a0_0 l0_1)) = some r := by rw [← hbq13] at H; exact H
                  have Nbq13 := Aside0.mk hbq13
                  clear hbq13
                  by_cases c14 : bq13 = true
                  · subst c14
                    have H1 : (if 0 ≤ ((rd_T55 l0_1 x6_1).f1) then (if ((rd_T55 l0_1 x6_1).f1) < (x5_1.length : Int) then (wireloomlaw05_walk.l0 k1 l1 (x5_1.set (((rd_T55 l0_1 x6_1).f1) : Int).toNat true) (wrap64 (x6_1 + 1)) a0_0 l0_1) else (none)) else (none)) = some r := by rw [if_pos rfl] at H; exact H
                    clear H
                    have H := H1
                    clear H1
                    by_cases c15 : 0 ≤ ((rd_T55 l0_1 x6_1).f1)
                    · rw [if_pos c15] at H
                      have c15b0 : decide (0 ≤ ((rd_T55 l0_1 x6_1).f1)) = true := decide_eq_true c15
                      clear c15
                      by_cases c16 : ((rd_T55 l0_1 x6_1).f1) < (x5_1.length : Int)
                      · rw [if_pos c16] at H
                        have c16b0 : decide (((rd_T55 l0_1 x6_1).f1) < (x5_1.length : Int)) = true := decide_eq_true c16
                        clear c16
                        obtain ⟨y506, hy506⟩ : ∃ y_ : List Bool, y_ = (x5_1.set (((rd_T55 l0_1 x6_1).f1) : Int).toNat true) := ⟨_, rfl⟩
                        replace H : (wireloomlaw05_walk.l0 k1 l1 y506 (wrap64 (x6_1 + 1)) a0_0 l0_1) = some r := by first | (rw [hy506]; with_reducible exact H) | (have H2_ := (Option.bind_some _ _).symm.trans H; rw [hy506]; with_reducible exact H2_) | (have H2_ := (Option.bind_some _ _).symm.trans H; with_reducible exact H2_) | with_reducible exact H | (rw [hy506]; exact H) | exact H
                        have Ny506 := Aside0.mk hy506
                        clear hy506
                        have H' := Aside0.mk H
                        clear H
                        have hcz18_0 : wr.cell? ⟨gb499, 0, none⟩ = some (.int .i64 a0_0) := (blk_cell BK499.out 0).trans rfl
                        have hcz18_1 : wr.cell? ⟨gb499, 1, none⟩ = some (.slice A0_1 l0_1.length c0_1) := (blk_cell BK499.out 1).trans rfl
                        have hfz18_0 := blk_frozen BK499.out 0
                        have hfz18_1 := blk_frozen BK499.out 1
                        have p503 : 0 ≤ (x6_1 : Int) := of_decide_eq_true (by first | (with_reducible assumption) | assumption)
                        have q503 : x6_1 < (l0_1.length : Int) := of_decide_eq_true (by first | (with_reducible assumption) | assumption)
                        obtain ⟨ad503, e503, hx503_0, hx503_1⟩ := at_T55 HR0_1.out x6_1 p503 q503
                        cases e503
                        (try (replace hx503_0 := (HB.out.cell (World.block_lt_of_cell? w _ hx503_0)).trans hx503_0))
                        (try (replace hx503_1 := (HB.out.cell (World.block_lt_of_cell? w _ hx503_1)).trans hx503_1))
                        replace p503 := eq_true p503
                        replace q503 := eq_true q503
                        have p504 : 0 ≤ (((rd_T55 l0_1 x6_1).f0) : Int) := of_decide_eq_true (by first | (with_reducible assumption) | assumption)
                        have q504 : ((rd_T55 l0_1 x6_1).f0) < (l1.length : Int) := of_decide_eq_true (by first | (with_reducible assumption) | assumption)
                        obtain ⟨ad504, e504, hx504_0⟩ := Kd.at_bool HR1.out ((rd_T55 l0_1 x6_1).f0) p504 q504
                        (try rw [← Nbq13.out] at hx504_0)
                        cases e504
                        (try (replace hx504_0 := (HB.out.cell (World.block_lt_of_cell? w _ hx504_0)).trans hx504_0))
                        replace p504 := eq_true p504
                        replace q504 := eq_true q504
                        have p505 : 0 ≤ (x6_1 : Int) := of_decide_eq_true (by first | (with_reducible assumption) | assumption)
                        have q505 : x6_1 < (l0_1.length : Int) := of_decide_eq_true (by first | (with_reducible assumption) | assumption)
                        obtain ⟨ad505, e505, hx505_0, hx505_1⟩ := at_T55 HR0_1.out x6_1 p505 q505
                        obtain rfl : ad503 = ad505 := (by injection e505)
                        (try (replace hx505_0 := (HB.out.cell (World.block_lt_of_cell? w _ hx505_0)).trans hx505_0))
                        (try (replace hx505_1 := (HB.out.cell (World.block_lt_of_cell? w _ hx505_1)).trans hx505_1))
                        replace p505 := eq_true p505
                        replace q505 := eq_true q505
                        have p17 : 0 ≤ (((rd_T55 l0_1 x6_1).f1) : Int) := of_decide_eq_true (by first | (with_reducible assumption) | assumption)
                        have q17 : (((rd_T55 l0_1 x6_1).f1) : Int) < ((x5_1.length : Int) : Int) := of_decide_eq_true (by first | (with_reducible assumption) | assumption)
                        obtain ⟨go17, co17, eo17, gb17, gl17, cl17, HG17⟩ := Kd.R_form HO_5.out (by omega)
                        (first | cases eo17 | (injection eo17 with ea_ en_ ec_; (first | subst ea_ | (injection ea_ with ea_; subst ea_)); subst ec_; clear en_))
                        have GB17 := Aside0.mk gb17
                        have GG17 := Aside0.mk HG17
                        clear gb17 gl17 HG17
                        obtain ⟨hx17_0, hf17_0⟩ := Kd.R_celln false HO_5.out (((rd_T55 l0_1 x6_1).f1) : Int) p17 q17
                        replace p17 := eq_true p17
                        replace q17 := eq_true q17
                        have HP19 := Kd.R_putg HO_5.out (((rd_T55 l0_1 x6_1).f1) : Int) true
                        go_wp2_with (first | ((with_reducible refine gate_store (t := 4) (p := 33) rfl ?_); refine store_event (t := 4) (p := 33) (v := ?vo_w20) (w1 := (wr.setCell ⟨go17, (((rd_T55 l0_1 x6_1).f1) : Int).toNat, none⟩ (.bool true))) ?hg ?ho ?hn ?hr ?_; (case ho => rfl); (case hg => rfl); (case hn => rfl); (case hr => first | (go_simp; done) | (go_simp; rfl)); intro w20 hw; have hg : wr.grownBy w20 (some go17) := (by rw [hw]; exact HP19.2); have hp_ : Kd.R Kd.bool 4 w20 w.heap.size (fun _ => True) (.slice (some ⟨go17, 0, none⟩) x5_1.length co17) y506 := (by rw [hw, Ny506.out]; exact HP19.1); clear HP19; have n0_ := Aside0.mk (hp_); have n1_ := Aside0.mk (blk_grown (g := gb499) (o := .cells #[.int .i64 a0_0, .slice (some ad503) l0_1.length c0_1] 31 (0, 0)) (by (with_reducible repeat (first | refine blk_drewN ?_ _ | refine blk_drew ?_ | refine blk_alloc ?_ _)); exact BK499.out) hg (Kd.R_ne HO_5.out BK499.out (by decide))); have n2_ := Aside0.mk ((by rw [hw]; exact below_set (HB.out) GB17.out : Below w.heap.size w w20)); clear HO_5; clear BK499; clear HB; have HO_5 := n0_; have BK499 := n1_; have HB := n2_; clear n0_ n1_ n2_; clear hg hw hp_))
                        go_roundg k1
                        case measure => have := HK1.out; omega
                        case rel => exact ⟨(y506), (wrap64 (x6_1 + 1)), (by first | rfl | (simp; done) | (simp [*]; done)), H', ⟨by have := HK1.out; omega⟩, ⟨by (with_reducible repeat (first | apply Kd.R_alloc | apply Kd.R_drewN | apply Kd.R_drew)); exact HO_5.out⟩, ⟨by (with_reducible repeat (first | refine blk_drewN ?_ _ | refine blk_drew ?_ | refine blk_alloc ?_ _)); exact BK499.out⟩, ⟨by repeat (first | (with_reducible first | exact HB.out | apply below_alloc | apply pw_below_drewN | apply below_drew1 | refine below_set ?_ GE499.out) | exact HB.out)⟩⟩
                      · rw [if_neg c16] at H
                        exact absurd H (by simp)
                    · rw [if_neg c15] at H
                      exact absurd H (by simp)
                  · replace c14 := Bool.eq_false_iff.mpr c14
                    subst c14
                    have H1 : (wireloomlaw05_walk.l0 k1 l1 x5_1 (wrap64 (x6_1 + 1)) a0_0 l0_1) = some r := by rw [if_neg (show ¬ (false = true) by decide)] at H; exact H
                    clear H
                    have H := H1
                    clear H1
                    have H' := Aside0.mk H
                    clear H
                    have hcz21_0 : wr.cell? ⟨gb499, 0, none⟩ = some (.int .i64 a0_0) := (blk_cell BK499.out 0).trans rfl
                    have hcz21_1 : wr.cell? ⟨gb499, 1, none⟩ = some (.slice A0_1 l0_1.length c0_1) := (blk_cell BK499.out 1).trans rfl
                    have hfz21_0 := blk_frozen BK499.out 0
                    have hfz21_1 := blk_frozen BK499.out 1
                    have p503 : 0 ≤ (x6_1 : Int) := of_decide_eq_true (by first | (with_reducible assumption) | assumption)
                    have q503 : x6_1 < (l0_1.length : Int) := of_decide_eq_true (by first | (with_reducible assumption) | assumption)
                    obtain ⟨ad503, e503, hx503_0, hx503_1⟩ := at_T55 HR0_1.out x6_1 p503 q503
                    cases e503
                    (try (replace hx503_0 := (HB.out.cell (World.block_lt_of_cell? w _ hx503_0)).trans hx503_0))
                    (try (replace hx503_1 := (HB.out.cell (World.block_lt_of_cell? w _ hx503_1)).trans hx503_1))
                    replace p503 := eq_true p503
                    replace q503 := eq_true q503
                    have p504 : 0 ≤ (((rd_T55 l0_1 x6_1).f0) : Int) := of_decide_eq_true (by first | (with_reducible assumption) | assumption)
                    have q504 : ((rd_T55 l0_1 x6_1).f0) < (l1.length : Int) := of_decide_eq_true (by first | (with_reducible assumption) | assumption)
                    obtain ⟨ad504, e504, hx504_0⟩ := Kd.at_bool HR1.out ((rd_T55 l0_1 x6_1).f0) p504 q504
                    (try rw [← Nbq13.out] at hx504_0)
                    cases e504
                    (try (replace hx504_0 := (HB.out.cell (World.block_lt_of_cell? w _ hx504_0)).trans hx504_0))
                    replace p504 := eq_true p504
                    replace q504 := eq_true q504
                    go_wp2
                    go_roundg k1
                    case measure => have := HK1.out; omega
                    case rel => exact ⟨(x5_1), (wrap64 (x6_1 + 1)), (by first | rfl | (simp; done) | (simp [*]; done)), H', ⟨by have := HK1.out; omega⟩, ⟨by (with_reducible repeat (first | apply Kd.R_alloc | apply Kd.R_drewN | apply Kd.R_drew)); exact HO_5.out⟩, ⟨by (with_reducible repeat (first | refine blk_drewN ?_ _ | refine blk_drew ?_ | refine blk_alloc ?_ _)); exact BK499.out⟩, ⟨by repeat (first | (with_reducible first | exact HB.out | apply below_alloc | apply pw_below_drewN | apply below_drew1 | refine below_set ?_ GE499.out) | exact HB.out)⟩⟩
                · rw [if_neg c12] at H
                  exact absurd H (by simp)
              · rw [if_neg c11] at H
                exact absurd H (by simp)
            · rw [if_neg c10] at H
              exact absurd H (by simp)
          · rw [if_neg c9] at H
            have c9b0 : decide (x6_1 < (l0_1.length : Int)) = false := decide_eq_false c9
            clear c9
            obtain rfl := Option.some.inj H
            have hcz22_0 : wr.cell? ⟨gb499, 0, none⟩ = some (.int .i64 a0_0) := (blk_cell BK499.out 0).trans rfl
            have hcz22_1 : wr.cell? ⟨gb499, 1, none⟩ = some (.slice A0_1 l0_1.length c0_1) := (blk_cell BK499.out 1).trans rfl
            have hfz22_0 := blk_frozen BK499.out 0
            have hfz22_1 := blk_frozen BK499.out 1
            go_wp2
            go_ret
            exact ⟨_, by first | rfl | (simp [errW_none, errW_some] <;> rfl) | (simp [*, errW_none, errW_some] <;> rfl), by (with_reducible repeat (first | apply Kd.R_alloc | apply Kd.R_drewN | apply Kd.R_drew)); exact HO_5.out, by repeat (first | (with_reducible first | exact HB.out | apply below_alloc | apply pw_below_drewN | apply below_drew1 | refine below_set ?_ GE499.out) | exact HB.out)⟩
    · rw [if_neg c4] at H
      exact absurd H (by simp)
  · rw [if_neg c3] at H
    exact absurd H (by simp)
end Go.Proofs.Ytlldjinejckbaaa.PD

end
section
namespace Go.Proofs.Ytlldjinejckbaaa.PD
open Go.RowKit Go.Proofs.YtlldjinejckbaaaW.PrintWords Go.Proofs.YtlldjinejckbaaaW.PrintLast Go.Proofs.YtlldjinejckbaaaW.PrintMore
attribute [local go_sem] max2_int min2_int max_two min_two max_three min_three max_four min_four
set_option linter.unusedVariables false
set_option linter.unusedSimpArgs false
mutual
def wireloomlaw05_DigraphCycles.j0 : Nat → Bool → Int → Int → List (S55) → List Int → Int → Option (Bool)
  | 0, _, _, _, _, _, _ => none
  | k + 1, x3, x6, x514000, x514001, x519000, x519001 => if x519001 = 0 then (if x6 < 1 then (none) else (wireloomlaw05_DigraphCycles.j1 k x3 x6 (decide (x6 > x514000)) x514000 x514001 x519000 x519001)) else (wireloomlaw05_DigraphCycles.j1 k x3 x6 false x514000 x514001 x519000 x519001)
def wireloomlaw05_DigraphCycles.j1 : Nat → Bool → Int → Bool → Int → List (S55) → List Int → Int → Option (Bool)
  | 0, _, _, _, _, _, _, _ => none
  | k + 1, x3, x6, x40, x514000, x514001, x519000, x519001 => if x40 = true then (none) else (wireloomlaw05_DigraphCycles.l0 k x3 x6 0 x514000 x514001 x519000 x519001)
def wireloomlaw05_DigraphCycles.l0 : Nat → Bool → Int → Int → Int → List (S55) → List Int → Int → Option (Bool)
  | 0, _, _, _, _, _, _, _ => none
  | k + 1, x3, x6, x7, x514000, x514001, x519000, x519001 => if x7 < x514000 then (if 0 ≤ x514000 then (if (x514000 : Int).toNat ≤ 281474976710656 then ((some (List.replicate (x514000 : Int).toNat false : List Bool)).bind fun y519 => (if 0 ≤ x7 then (if x7 < (y519.length : Int) then (wireloomlaw05_DigraphCycles.l1 k x3 x6 x7 (y519.set (x7 : Int).toNat true) 1 x514000 x514001 x519000 x519001) else (none)) else (none))) else (none)) else (none)) else (wireloomlaw05_DigraphCycles.l2 k x3 0 x514000 x514001 x519000 x519001)
def wireloomlaw05_DigraphCycles.l1 : Nat → Bool → Int → Int → List Bool → Int → Int → List (S55) → List Int → Int → Option (Bool)
  | 0, _, _, _, _, _, _, _, _, _ => none
  | k + 1, x3, x6, x7, x8, x9, x514000, x514001, x519000, x519001 => if x9 < x6 then ((wireloomlaw05_walk.f k x514000 x514001 x8).bind fun t523 => (if 0 ≤ x7 then (if x7 < (t523.length : Int) then (if rdOf false t523 x7 = true then (none) else (wireloomlaw05_DigraphCycles.l1 k x3 x6 x7 t523 (wrap64 (x9 + 1)) x514000 x514001 x519000 x519001)) else (none)) else (none))) else (wireloomlaw05_DigraphCycles.l0 k x3 x6 (wrap64 (x7 + 1)) x514000 x514001 x519000 x519001)
def wireloomlaw05_DigraphCycles.l2 : Nat → Bool → Int → Int → List (S55) → List Int → Int → Option (Bool)
  | 0, _, _, _, _, _, _ => none
  | k + 1, x3, x10, x514000, x514001, x519000, x519001 => if x10 < (x519000.length : Int) then (if 0 ≤ x10 then (if 0 < (x519000.length : Int) then (if (rd x519000 x10) < (rd x519000 0) then (none) else (if (x519000.length : Int) = 0 then (none) else (if 0 ≤ (Int.tmod (wrap64 (x10 + 1)) (x519000.length : Int)) then (if (Int.tmod (wrap64 (x10 + 1)) (x519000.length : Int)) < (x519000.length : Int) then ((wireloomlaw05_edge.f k x514001 (rd x519000 x10) (rd x519000 (Int.tmod (wrap64 (x10 + 1)) (x519000.length : Int)))).bind fun t531 => (if t531 = true then (wireloomlaw05_DigraphCycles.l3 k x3 x10 0 x514000 x514001 x519000 x519001) else (none))) else (none)) else (none)))) else (none)) else (none)) else (some x3)
def wireloomlaw05_DigraphCycles.l3 : Nat → Bool → Int → Int → Int → List (S55) → List Int → Int → Option (Bool)
  | 0, _, _, _, _, _, _, _ => none
  | k + 1, x3, x10, x11, x514000, x514001, x519000, x519001 => if x11 < x10 then (if 0 ≤ x11 then (if x11 < (x519000.length : Int) then (if 0 ≤ x10 then (if x10 < (x519000.length : Int) then (if (rd x519000 x11) = (rd x519000 x10) then (none) else (wireloomlaw05_DigraphCycles.l3 k x3 x10 (wrap64 (x11 + 1)) x514000 x514001 x519000 x519001)) else (none)) else (none)) else (none)) else (none)) else (wireloomlaw05_DigraphCycles.l2 k x3 (wrap64 (x10 + 1)) x514000 x514001 x519000 x519001)
end
def wireloomlaw05_DigraphCycles.f (k : Nat) (a0_0 : Int) (a0_1 : Int) (l0_2 : List Int) : Option (Bool) := (wireloomlaw05_examples.f k).bind fun t508 => (if t508 = true then ((wireloomref05_Made.f k a0_0 a0_1 l0_2).bind fun bt509 => ((wireloomlaw05_cycle.f bt509.1 bt509.2).bind fun bt514 => (if bt514.2 = 0 then (wireloomlaw05_DigraphCycles.j0 k t508 (bt514.1.length : Int) bt509.1 bt509.2 bt514.1 bt514.2) else (wireloomlaw05_DigraphCycles.j0 k t508 (wrap64 (bt509.1 + 1)) bt509.1 bt509.2 bt514.1 bt514.2)))) else (none))
theorem wireloomlaw05_DigraphCycles.mono_l : ∀ k, (∀ y0 y1 y2 y3 y4 y5, LeO (wireloomlaw05_DigraphCycles.j0 k y0 y1 y2 y3 y4 y5) (wireloomlaw05_DigraphCycles.j0 (k + 1) y0 y1 y2 y3 y4 y5)) ∧ (∀ y0 y1 y2 y3 y4 y5 y6, LeO (wireloomlaw05_DigraphCycles.j1 k y0 y1 y2 y3 y4 y5 y6) (wireloomlaw05_DigraphCycles.j1 (k + 1) y0 y1 y2 y3 y4 y5 y6)) ∧ (∀ y0 y1 y2 y3 y4 y5 y6, LeO (wireloomlaw05_DigraphCycles.l0 k y0 y1 y2 y3 y4 y5 y6) (wireloomlaw05_DigraphCycles.l0 (k + 1) y0 y1 y2 y3 y4 y5 y6)) ∧ (∀ y0 y1 y2 y3 y4 y5 y6 y7 y8, LeO (wireloomlaw05_DigraphCycles.l1 k y0 y1 y2 y3 y4 y5 y6 y7 y8) (wireloomlaw05_DigraphCycles.l1 (k + 1) y0 y1 y2 y3 y4 y5 y6 y7 y8)) ∧ (∀ y0 y1 y2 y3 y4 y5, LeO (wireloomlaw05_DigraphCycles.l2 k y0 y1 y2 y3 y4 y5) (wireloomlaw05_DigraphCycles.l2 (k + 1) y0 y1 y2 y3 y4 y5)) ∧ (∀ y0 y1 y2 y3 y4 y5 y6, LeO (wireloomlaw05_DigraphCycles.l3 k y0 y1 y2 y3 y4 y5 y6) (wireloomlaw05_DigraphCycles.l3 (k + 1) y0 y1 y2 y3 y4 y5 y6))
  | 0 => ⟨fun _ _ _ _ _ _ r h => by simp [wireloomlaw05_DigraphCycles.j0] at h, fun _ _ _ _ _ _ _ r h => by simp [wireloomlaw05_DigraphCycles.j1] at h, fun _ _ _ _ _ _ _ r h => by simp [wireloomlaw05_DigraphCycles.l0] at h, fun _ _ _ _ _ _ _ _ _ r h => by simp [wireloomlaw05_DigraphCycles.l1] at h, fun _ _ _ _ _ _ r h => by simp [wireloomlaw05_DigraphCycles.l2] at h, fun _ _ _ _ _ _ _ r h => by simp [wireloomlaw05_DigraphCycles.l3] at h⟩
  | k + 1 => by
    obtain ⟨ih0, ih1, ih2, ih3, ih4, ih5⟩ := wireloomlaw05_DigraphCycles.mono_l k
    refine ⟨?_, ?_, ?_, ?_, ?_, ?_⟩
    · intro y0 y1 y2 y3 y4 y5
      unfold wireloomlaw05_DigraphCycles.j0
      repeat' first
      | (with_reducible exact ih0 _ _ _ _ _ _)
      | (with_reducible exact ih1 _ _ _ _ _ _ _)
      | (with_reducible exact ih2 _ _ _ _ _ _ _)
      | (with_reducible exact ih3 _ _ _ _ _ _ _ _ _)
      | (with_reducible exact ih4 _ _ _ _ _ _)
      | (with_reducible exact ih5 _ _ _ _ _ _ _)
      | (with_reducible exact wireloomlaw05_edge.mono _ _ _ _)
      | (with_reducible exact wireloomlaw05_examples.mono _)
      | (with_reducible exact wireloomlaw05_walk.mono _ _ _ _)
      | (with_reducible exact wireloomref05_Made.mono _ _ _ _)
      | (with_reducible exact LeO.refl _)
      | (with_reducible exact LeO.none _)
      | (with_reducible refine LeO.ite ?_ ?_)
      | (with_reducible refine LeO.bind ?_ (fun _ => ?_))
      | exact ih0 _ _ _ _ _ _
      | exact ih1 _ _ _ _ _ _ _
      | exact ih2 _ _ _ _ _ _ _
      | exact ih3 _ _ _ _ _ _ _ _ _
      | exact ih4 _ _ _ _ _ _
      | exact ih5 _ _ _ _ _ _ _
      | exact wireloomlaw05_edge.mono _ _ _ _
      | exact wireloomlaw05_examples.mono _
      | exact wireloomlaw05_walk.mono _ _ _ _
      | exact wireloomref05_Made.mono _ _ _ _
      | exact LeO.none _
      | refine LeO.ite ?_ ?_
      | refine LeO.bind ?_ (fun _ => ?_)
    · intro y0 y1 y2 y3 y4 y5 y6
      unfold wireloomlaw05_DigraphCycles.j1
      repeat' first
      | (with_reducible exact ih0 _ _ _ _ _ _)
      | (with_reducible exact ih1 _ _ _ _ _ _ _)
      | (with_reducible exact ih2 _ _ _ _ _ _ _)
      | (with_reducible exact ih3 _ _ _ _ _ _ _ _ _)
      | (with_reducible exact ih4 _ _ _ _ _ _)
      | (with_reducible exact ih5 _ _ _ _ _ _ _)
      | (with_reducible exact wireloomlaw05_edge.mono _ _ _ _)
      | (with_reducible exact wireloomlaw05_examples.mono _)
      | (with_reducible exact wireloomlaw05_walk.mono _ _ _ _)
      | (with_reducible exact wireloomref05_Made.mono _ _ _ _)
      | (with_reducible exact LeO.refl _)
      | (with_reducible exact LeO.none _)
      | (with_reducible refine LeO.ite ?_ ?_)
      | (with_reducible refine LeO.bind ?_ (fun _ => ?_))
      | exact ih0 _ _ _ _ _ _
      | exact ih1 _ _ _ _ _ _ _
      | exact ih2 _ _ _ _ _ _ _
      | exact ih3 _ _ _ _ _ _ _ _ _
      | exact ih4 _ _ _ _ _ _
      | exact ih5 _ _ _ _ _ _ _
      | exact wireloomlaw05_edge.mono _ _ _ _
      | exact wireloomlaw05_examples.mono _
      | exact wireloomlaw05_walk.mono _ _ _ _
      | exact wireloomref05_Made.mono _ _ _ _
      | exact LeO.none _
      | refine LeO.ite ?_ ?_
      | refine LeO.bind ?_ (fun _ => ?_)
    · intro y0 y1 y2 y3 y4 y5 y6
      unfold wireloomlaw05_DigraphCycles.l0
      repeat' first
      | (with_reducible exact ih0 _ _ _ _ _ _)
      | (with_reducible exact ih1 _ _ _ _ _ _ _)
      | (with_reducible exact ih2 _ _ _ _ _ _ _)
      | (with_reducible exact ih3 _ _ _ _ _ _ _ _ _)
      | (with_reducible exact ih4 _ _ _ _ _ _)
      | (with_reducible exact ih5 _ _ _ _ _ _ _)
      | (with_reducible exact wireloomlaw05_edge.mono _ _ _ _)
      | (with_reducible exact wireloomlaw05_examples.mono _)
      | (with_reducible exact wireloomlaw05_walk.mono _ _ _ _)
      | (with_reducible exact wireloomref05_Made.mono _ _ _ _)
      | (with_reducible exact LeO.refl _)
      | (with_reducible exact LeO.none _)
      | (with_reducible refine LeO.ite ?_ ?_)
      | (with_reducible refine LeO.bind ?_ (fun _ => ?_))
      | exact ih0 _ _ _ _ _ _
      | exact ih1 _ _ _ _ _ _ _
      | exact ih2 _ _ _ _ _ _ _
      | exact ih3 _ _ _ _ _ _ _ _ _
      | exact ih4 _ _ _ _ _ _
      | exact ih5 _ _ _ _ _ _ _
      | exact wireloomlaw05_edge.mono _ _ _ _
      | exact wireloomlaw05_examples.mono _
      | exact wireloomlaw05_walk.mono _ _ _ _
      | exact wireloomref05_Made.mono _ _ _ _
      | exact LeO.none _
      | refine LeO.ite ?_ ?_
      | refine LeO.bind ?_ (fun _ => ?_)
    · intro y0 y1 y2 y3 y4 y5 y6 y7 y8
      unfold wireloomlaw05_DigraphCycles.l1
      repeat' first
      | (with_reducible exact ih0 _ _ _ _ _ _)
      | (with_reducible exact ih1 _ _ _ _ _ _ _)
      | (with_reducible exact ih2 _ _ _ _ _ _ _)
      | (with_reducible exact ih3 _ _ _ _ _ _ _ _ _)
      | (with_reducible exact ih4 _ _ _ _ _ _)
      | (with_reducible exact ih5 _ _ _ _ _ _ _)
      | (with_reducible exact wireloomlaw05_edge.mono _ _ _ _)
      | (with_reducible exact wireloomlaw05_examples.mono _)
      | (with_reducible exact wireloomlaw05_walk.mono _ _ _ _)
      | (with_reducible exact wireloomref05_Made.mono _ _ _ _)
      | (with_reducible exact LeO.refl _)
      | (with_reducible exact LeO.none _)
      | (with_reducible refine LeO.ite ?_ ?_)
      | (with_reducible refine LeO.bind ?_ (fun _ => ?_))
      | exact ih0 _ _ _ _ _ _
      | exact ih1 _ _ _ _ _ _ _
      | exact ih2 _ _ _ _ _ _ _
      | exact ih3 _ _ _ _ _ _ _ _ _
      | exact ih4 _ _ _ _ _ _
      | exact ih5 _ _ _ _ _ _ _
      | exact wireloomlaw05_edge.mono _ _ _ _
      | exact wireloomlaw05_examples.mono _
      | exact wireloomlaw05_walk.mono _ _ _ _
      | exact wireloomref05_Made.mono _ _ _ _
      | exact LeO.none _
      | refine LeO.ite ?_ ?_
      | refine LeO.bind ?_ (fun _ => ?_)
    · intro y0 y1 y2 y3 y4 y5
      unfold wireloomlaw05_DigraphCycles.l2
      repeat' first
      | (with_reducible exact ih0 _ _ _ _ _ _)
      | (with_reducible exact ih1 _ _ _ _ _ _ _)
      | (with_reducible exact ih2 _ _ _ _ _ _ _)
      | (with_reducible exact ih3 _ _ _ _ _ _ _ _ _)
      | (with_reducible exact ih4 _ _ _ _ _ _)
      | (with_reducible exact ih5 _ _ _ _ _ _ _)
      | (with_reducible exact wireloomlaw05_edge.mono _ _ _ _)
      | (with_reducible exact wireloomlaw05_examples.mono _)
      | (with_reducible exact wireloomlaw05_walk.mono _ _ _ _)
      | (with_reducible exact wireloomref05_Made.mono _ _ _ _)
      | (with_reducible exact LeO.refl _)
      | (with_reducible exact LeO.none _)
      | (with_reducible refine LeO.ite ?_ ?_)
      | (with_reducible refine LeO.bind ?_ (fun _ => ?_))
      | exact ih0 _ _ _ _ _ _
      | exact ih1 _ _ _ _ _ _ _
      | exact ih2 _ _ _ _ _ _ _
      | exact ih3 _ _ _ _ _ _ _ _ _
      | exact ih4 _ _ _ _ _ _
      | exact ih5 _ _ _ _ _ _ _
      | exact wireloomlaw05_edge.mono _ _ _ _
      | exact wireloomlaw05_examples.mono _
      | exact wireloomlaw05_walk.mono _ _ _ _
      | exact wireloomref05_Made.mono _ _ _ _
      | exact LeO.none _
      | refine LeO.ite ?_ ?_
      | refine LeO.bind ?_ (fun _ => ?_)
    · intro y0 y1 y2 y3 y4 y5 y6
      unfold wireloomlaw05_DigraphCycles.l3
      repeat' first
      | (with_reducible exact ih0 _ _ _ _ _ _)
      | (with_reducible exact ih1 _ _ _ _ _ _ _)
      | (with_reducible exact ih2 _ _ _ _ _ _ _)
      | (with_reducible exact ih3 _ _ _ _ _ _ _ _ _)
      | (with_reducible exact ih4 _ _ _ _ _ _)
      | (with_reducible exact ih5 _ _ _ _ _ _ _)
      | (with_reducible exact wireloomlaw05_edge.mono _ _ _ _)
      | (with_reducible exact wireloomlaw05_examples.mono _)
      | (with_reducible exact wireloomlaw05_walk.mono _ _ _ _)
      | (with_reducible exact wireloomref05_Made.mono _ _ _ _)
      | (with_reducible exact LeO.refl _)
      | (with_reducible exact LeO.none _)
      | (with_reducible refine LeO.ite ?_ ?_)
      | (with_reducible refine LeO.bind ?_ (fun _ => ?_))
      | exact ih0 _ _ _ _ _ _
      | exact ih1 _ _ _ _ _ _ _
      | exact ih2 _ _ _ _ _ _ _
      | exact ih3 _ _ _ _ _ _ _ _ _
      | exact ih4 _ _ _ _ _ _
      | exact ih5 _ _ _ _ _ _ _
      | exact wireloomlaw05_edge.mono _ _ _ _
      | exact wireloomlaw05_examples.mono _
      | exact wireloomlaw05_walk.mono _ _ _ _
      | exact wireloomref05_Made.mono _ _ _ _
      | exact LeO.none _
      | refine LeO.ite ?_ ?_
      | refine LeO.bind ?_ (fun _ => ?_)
theorem wireloomlaw05_DigraphCycles.mono : ∀ a0 a1 a2 k, LeO (wireloomlaw05_DigraphCycles.f k a0 a1 a2) (wireloomlaw05_DigraphCycles.f (k + 1) a0 a1 a2) := by
  intro a0 a1 a2 k
  obtain ⟨ih0, ih1, ih2, ih3, ih4, ih5⟩ := wireloomlaw05_DigraphCycles.mono_l k
  unfold wireloomlaw05_DigraphCycles.f
  repeat' first
      | (with_reducible exact ih0 _ _ _ _ _ _)
      | (with_reducible exact ih1 _ _ _ _ _ _ _)
      | (with_reducible exact ih2 _ _ _ _ _ _ _)
      | (with_reducible exact ih3 _ _ _ _ _ _ _ _ _)
      | (with_reducible exact ih4 _ _ _ _ _ _)
      | (with_reducible exact ih5 _ _ _ _ _ _ _)
      | (with_reducible exact wireloomlaw05_edge.mono _ _ _ _)
      | (with_reducible exact wireloomlaw05_examples.mono _)
      | (with_reducible exact wireloomlaw05_walk.mono _ _ _ _)
      | (with_reducible exact wireloomref05_Made.mono _ _ _ _)
      | (with_reducible exact LeO.refl _)
      | (with_reducible exact LeO.none _)
      | (with_reducible refine LeO.ite ?_ ?_)
      | (with_reducible refine LeO.bind ?_ (fun _ => ?_))
      | exact ih0 _ _ _ _ _ _
      | exact ih1 _ _ _ _ _ _ _
      | exact ih2 _ _ _ _ _ _ _
      | exact ih3 _ _ _ _ _ _ _ _ _
      | exact ih4 _ _ _ _ _ _
      | exact ih5 _ _ _ _ _ _ _
      | exact wireloomlaw05_edge.mono _ _ _ _
      | exact wireloomlaw05_examples.mono _
      | exact wireloomlaw05_walk.mono _ _ _ _
      | exact wireloomref05_Made.mono _ _ _ _
      | exact LeO.none _
      | refine LeO.ite ?_ ?_
      | refine LeO.bind ?_ (fun _ => ?_)
def wireloomlaw05_DigraphCycles.T25 : Bool × List (List Nat × List Nat) := (true, [([], []), ([0], [0]), ([], []), ([1, 2], [1, 2]), ([3], [3]), ([], []), ([5], [5]), ([6], [6]), ([7], [7]), ([4, 8], [4, 8]), ([9], [9]), ([10], [10]), ([11, 10], [10, 11]), ([10], [10]), ([13, 10], [10, 13]), ([10], [10]), ([14, 15, 10], [10, 14, 15]), ([16, 10], [10, 16]), ([10], [10]), ([18, 10], [10, 18]), ([10], [10]), ([20, 10], [10, 20]), ([10], [10]), ([22, 10], [10, 22]), ([23, 10], [10, 23]), ([21, 24, 10], [10, 21, 24]), ([19, 25, 10], [10, 19, 25]), ([26, 10], [10, 26]), ([12, 17, 27, 10, 10], [10, 12, 17, 27]), ([28, 10], [10, 28]), ([10, 29], [10, 29])])
def wireloomlaw05_DigraphCycles.B25 : List Nat := [0, 1, 0, 7, 15, 0, 32, 96, 224, 511, 1023, 2047, 4095, 2047, 10239, 2047, 59391, 124927, 2047, 264191, 2047, 1050623, 2047, 4196351, 12584959, 32507903, 66848767, 133957631, 268435455, 536870911, 1073741823]
theorem wireloomlaw05_DigraphCycles.tab25 : rtab .any (opsOf Try.f5 25) = wireloomlaw05_DigraphCycles.T25 := by kernel_rfl
theorem wireloomlaw05_DigraphCycles.bits25 : waitsOk wireloomlaw05_DigraphCycles.T25.2 wireloomlaw05_DigraphCycles.B25 = true := by kernel_rfl
def wireloomlaw05_DigraphCycles.T30 : Bool × List (List Nat × List Nat) := (true, [([], []), ([0], [0]), ([], []), ([1, 2], [1, 2]), ([3], [3]), ([], []), ([5], [5]), ([], []), ([6, 7], [6, 7]), ([8], [8]), ([4, 9], [4, 9])])
def wireloomlaw05_DigraphCycles.B30 : List Nat := [0, 1, 0, 7, 15, 0, 32, 0, 224, 480, 1023]
theorem wireloomlaw05_DigraphCycles.tab30 : rtab .any (opsOf Try.f5 30) = wireloomlaw05_DigraphCycles.T30 := by kernel_rfl
theorem wireloomlaw05_DigraphCycles.bits30 : waitsOk wireloomlaw05_DigraphCycles.T30.2 wireloomlaw05_DigraphCycles.B30 = true := by kernel_rfl
set_option maxHeartbeats 8000000 in
set_option maxRecDepth 100000 in
theorem wireloomlaw05_DigraphCycles.calls (k : Nat) (a0_0 : Int) (a0_1 : Int) (A0_2 : Option Addr) (c0_2 : Nat) (l0_2 : List Int) (r : Bool) (w : World) (hr0_2 : Kd.C (Kd.int .u8) w A0_2 l0_2.length l0_2) (hc0_2 : l0_2.length ≤ c0_2) (h : wireloomlaw05_DigraphCycles.f k a0_0 a0_1 l0_2 = some r) :
    Calls Try.prog 5 #[.agg #[.int .u8 a0_0, .int .u8 a0_1, .slice A0_2 l0_2.length c0_2]] w fun e w' => e = .returned (.bool r) ∧ Below w.heap.size w w' := by
  have hu24 := Try.underlying24
  have hu31 := Try.underlying31
  have hu37 := Try.underlying37
  have HR0_2 := Aside0.mk hr0_2
  have HC0_2 := Aside0.mk hc0_2
  clear hr0_2 hc0_2
  have HB := Aside0.mk (Below.refl w.heap.size w)
  have H : ((wireloomlaw05_examples.f k).bind fun t508 => (if t508 = true then ((wireloomref05_Made.f k a0_0 a0_1 l0_2).bind fun bt509 => ((wireloomlaw05_cycle.f bt509.1 bt509.2).bind fun bt514 => (if bt514.2 = 0 then (wireloomlaw05_DigraphCycles.j0 k t508 (bt514.1.length : Int) bt509.1 bt509.2 bt514.1 bt514.2) else (wireloomlaw05_DigraphCycles.j0 k t508 (wrap64 (bt509.1 + 1)) bt509.1 bt509.2 bt514.1 bt514.2)))) else (none))) = some r := h
  clear h
  replace H := Option.bind_eq_some_iff.mp H
  obtain ⟨t508, A20, H⟩ := H
  replace H : (if t508 = true then ((wireloomref05_Made.f k a0_0 a0_1 l0_2).bind fun bt509 => ((wireloomlaw05_cycle.f bt509.1 bt509.2).bind fun bt514 => (if bt514.2 = 0 then (wireloomlaw05_DigraphCycles.j0 k t508 (bt514.1.length : Int) bt509.1 bt509.2 bt514.1 bt514.2) else (wireloomlaw05_DigraphCycles.j0 k t508 (wrap64 (bt509.1 + 1)) bt509.1 bt509.2 bt514.1 bt514.2)))) else (none)) = some r := H
  have A2 := Aside0.mk A20
  clear A20
  by_cases c3 : t508 = true
  · subst c3
    have H1 : ((wireloomref05_Made.f k a0_0 a0_1 l0_2).bind fun bt509 => ((wireloomlaw05_cycle.f bt509.1 bt509.2).bind fun bt514 => (if bt514.2 = 0 then (wireloomlaw05_DigraphCycles.j0 k true (bt514.1.length : Int) bt509.1 bt509.2 bt514.1 bt514.2) else (wireloomlaw05_DigraphCycles.j0 k true (wrap64 (bt509.1 + 1)) bt509.1 bt509.2 bt514.1 bt514.2)))) = some r := by rw [if_pos rfl] at H; exact H
    clear H
    have H := H1
    clear H1
    replace H := Option.bind_eq_some_iff.mp H
    obtain ⟨⟨t509, t510⟩, A40, H⟩ := H
    replace H : ((wireloomlaw05_cycle.f t509 t510).bind fun bt514 => (if bt514.2 = 0 then (wireloomlaw05_DigraphCycles.j0 k true (bt514.1.length : Int) t509 t510 bt514.1 bt514.2) else (wireloomlaw05_DigraphCycles.j0 k true (wrap64 (t509 + 1)) t509 t510 bt514.1 bt514.2))) = some r := H
    have A4 := Aside0.mk A40
    clear A40
    replace H := Option.bind_eq_some_iff.mp H
    obtain ⟨⟨t514, t517⟩, A50, H⟩ := H
    replace H : (if t517 = 0 then (wireloomlaw05_DigraphCycles.j0 k true (t514.length : Int) t509 t510 t514 t517) else (wireloomlaw05_DigraphCycles.j0 k true (wrap64 (t509 + 1)) t509 t510 t514 t517)) = some r := H
    have A5 := Aside0.mk A50
    clear A50
    have HC6 := Aside0.mk H
    clear H
    go_enter Try.func5, Try.ntmps5
    go_upto_if 24 with (first | ((with_reducible refine gate_dst (N := 1) rfl ?_); (try (refine gate_guard (by rfl) ?_; dsimp only)); refine box_event ?hg (N := 1) ?hd (cs := #[.int .u8 a0_0, .int .u8 a0_1, .slice A0_2 l0_2.length c0_2]) (t := 24) ?hr ?_; (case hd => rfl); (case hg => rfl); (case hr => first | (go_simp; done) | (go_simp; rfl)); intro gb507 hg w7 hbox hb; have n0_ := Aside0.mk (below_step (by repeat (first | (with_reducible first | exact HB.out | apply below_alloc | apply pw_below_drewN | apply below_drew1) | exact HB.out)) hb); have n1_ := Aside0.mk (hbox); have n2_ := Aside0.mk ((by rw [hg]; exact (below_size (by repeat (first | (with_reducible first | exact HB.out | apply below_alloc | apply pw_below_drewN | apply below_drew1) | exact HB.out))) : w.heap.size ≤ gb507)); have n3_ := Aside0.mk ((by rw [hg]; exact (below_size (by repeat (first | (with_reducible first | exact HB.out | apply below_alloc | apply pw_below_drewN | apply below_drew1) | exact HB.out))) : w.heap.size ≤ gb507)); clear HB; have HB := n0_; have BK507 := n1_; have GW507 := n2_; have GE507 := n3_; clear n0_ n1_ n2_ n3_; clear hb hbox hg) | ((with_reducible refine gate_callee (f := 10) rfl ?_); refine goesL_ (some 12) rfl rfl Try.func10 (by kernel_rfl) rfl #[] rfl (by (try simp only [List.map_toArray, List.map_cons, List.map_nil]); first | done | rfl | (simp only [List.length_drop, List.length_take]; rfl)) ?_; (with_reducible refine (wireloomlaw05_examples.calls k  true _ A2.out).mono ?_); rintro e w8 ⟨rfl, hb⟩; refine ⟨_, rfl, ?_⟩; have n0_ := Aside0.mk (blk_below (g := gb507) (o := .cells #[.int .u8 a0_0, .int .u8 a0_1, .slice A0_2 l0_2.length c0_2] 24 (0, 0)) (by (with_reducible repeat (first | refine blk_drewN ?_ _ | refine blk_drew ?_ | refine blk_alloc ?_ _)); exact BK507.out) hb); have n1_ := Aside0.mk (below_step (by repeat (first | (with_reducible first | exact HB.out | apply below_alloc | apply pw_below_drewN | apply below_drew1 | refine below_set ?_ GE507.out) | exact HB.out)) hb); clear BK507; clear HB; have BK507 := n0_; have HB := n1_; clear n0_ n1_; (try clear hb); (try clear hb2); (try clear hk); (try clear hi); have hcz9_0 : w8.cell? ⟨gb507, 0, none⟩ = some (.int .u8 a0_0) := (blk_cell BK507.out 0).trans rfl; have hcz9_1 : w8.cell? ⟨gb507, 1, none⟩ = some (.int .u8 a0_1) := (blk_cell BK507.out 1).trans rfl; have hcz9_2 : w8.cell? ⟨gb507, 2, none⟩ = some (.slice A0_2 l0_2.length c0_2) := (blk_cell BK507.out 2).trans rfl; have hfz9_0 := blk_frozen BK507.out 0; have hfz9_1 := blk_frozen BK507.out 1; have hfz9_2 := blk_frozen BK507.out 2) | ((with_reducible refine gate_callee (f := 11) rfl ?_); refine goesL_ (some 16) rfl rfl Try.func11 (by kernel_rfl) rfl #[.agg #[.int .u8 a0_0, .int .u8 a0_1, .slice A0_2 l0_2.length c0_2]] rfl (by (try simp only [List.map_toArray, List.map_cons, List.map_nil]); first | done | rfl | (simp only [List.length_drop, List.length_take]; rfl)) ?_; (with_reducible refine (wireloomref05_Made.calls k a0_0 a0_1 _ _ l0_2 t509 t510 _ ?side1 ?side2 A4.out).mono ?_); (case side1 => repeat (first | exact (Kd.C_below HR0_2.out HB.out) | (with_reducible refine Kd.C_alloc ?_ _) | (with_reducible refine Kd.C_drewN ?_ _) | (with_reducible refine Kd.C_drew ?_))); (case side2 => exact HC0_2.out); rintro e w10 ⟨v511, rfl, ho0, hb⟩; refine ⟨_, rfl, ?_⟩; have n0_ := Aside0.mk (Kd.R_lower ho0 (below_size (by repeat (first | (with_reducible first | exact HB.out | apply below_alloc | apply pw_below_drewN | apply below_drew1 | refine below_set ?_ GE507.out) | exact HB.out)))); have n1_ := Aside0.mk (blk_below (g := gb507) (o := .cells #[.int .u8 a0_0, .int .u8 a0_1, .slice A0_2 l0_2.length c0_2] 24 (0, 0)) (by (with_reducible repeat (first | refine blk_drewN ?_ _ | refine blk_drew ?_ | refine blk_alloc ?_ _)); exact BK507.out) hb); have n2_ := Aside0.mk (below_step (by repeat (first | (with_reducible first | exact HB.out | apply below_alloc | apply pw_below_drewN | apply below_drew1 | refine below_set ?_ GE507.out) | exact HB.out)) hb); clear BK507; clear HB; have HO512 := n0_; have BK507 := n1_; have HB := n2_; clear n0_ n1_ n2_; (try clear hb); (try clear hb2); (try clear hk); (try clear hi); (try clear ho0)) | ((with_reducible refine gate_dst (N := 4) rfl ?_); (try (refine gate_guard (by rfl) ?_; dsimp only)); refine box_event ?hg (N := 4) ?hd (cs := #[.int .i64 0, .slice none 0 0]) (t := 31) ?hr ?_; (case hd => rfl); (case hg => rfl); (case hr => first | (go_simp; done) | (go_simp; rfl)); intro gb513 hg w11 hbox hb; have n0_ := Aside0.mk (Kd.R_below (by (with_reducible repeat (first | apply Kd.R_alloc | apply Kd.R_drewN | apply Kd.R_drew)); exact HO512.out) hb); have n1_ := Aside0.mk (blk_below (g := gb507) (o := .cells #[.int .u8 a0_0, .int .u8 a0_1, .slice A0_2 l0_2.length c0_2] 24 (0, 0)) (by (with_reducible repeat (first | refine blk_drewN ?_ _ | refine blk_drew ?_ | refine blk_alloc ?_ _)); exact BK507.out) hb); have n2_ := Aside0.mk (below_step (by repeat (first | (with_reducible first | exact HB.out | apply below_alloc | apply pw_below_drewN | apply below_drew1 | refine below_set ?_ GE507.out) | exact HB.out)) hb); have n3_ := Aside0.mk (hbox); have n4_ := Aside0.mk ((by rw [hg]; exact (below_size (by repeat (first | (with_reducible first | exact HB.out | apply below_alloc | apply pw_below_drewN | apply below_drew1 | refine below_set ?_ GE507.out) | exact HB.out))) : w.heap.size ≤ gb513)); have n5_ := Aside0.mk ((by rw [hg]; exact (below_size (by repeat (first | (with_reducible first | exact HB.out | apply below_alloc | apply pw_below_drewN | apply below_drew1 | refine below_set ?_ GE507.out) | exact HB.out))) : w.heap.size ≤ gb513)); have n6_ := Aside0.mk ((by rw [hg]; exact Nat.ne_of_lt (blk_lt (g := gb507) (o := .cells #[.int .u8 a0_0, .int .u8 a0_1, .slice A0_2 l0_2.length c0_2] 24 (0, 0)) (by (with_reducible repeat (first | refine blk_drewN ?_ _ | refine blk_drew ?_ | refine blk_alloc ?_ _)); exact BK507.out)) : gb507 ≠ gb513)); have n7_ := Aside0.mk ((by rw [hg]; exact Nat.ne_of_gt (blk_lt (g := gb507) (o := .cells #[.int .u8 a0_0, .int .u8 a0_1, .slice A0_2 l0_2.length c0_2] 24 (0, 0)) (by (with_reducible repeat (first | refine blk_drewN ?_ _ | refine blk_drew ?_ | refine blk_alloc ?_ _)); exact BK507.out)) : gb513 ≠ gb507)); clear HO512; clear BK507; clear HB; have HO512 := n0_; have BK507 := n1_; have HB := n2_; have BK513 := n3_; have GW513 := n4_; have GE513 := n5_; have NB507_513 := n6_; have NB513_507 := n7_; clear n0_ n1_ n2_ n3_ n4_ n5_ n6_ n7_; clear hb hbox hg; have hnb12 := NB513_507.out; have hnc12 := NB507_513.out; have hcz13_0 : w11.cell? ⟨gb513, 0, none⟩ = some (.int .i64 0) := (blk_cell BK513.out 0).trans rfl; have hcz13_1 : w11.cell? ⟨gb513, 1, none⟩ = some (.slice none 0 0) := (blk_cell BK513.out 1).trans rfl; have hfz13_0 := blk_frozen BK513.out 0; have hfz13_1 := blk_frozen BK513.out 1; obtain ⟨Ao14, co14, eo14⟩ := Kd.R_slice HO512.out; subst eo14) | ((with_reducible refine gate_callee (f := 17) rfl ?_); refine goesL_ (some 18) rfl rfl Try.func17 (by kernel_rfl) rfl #[.agg #[.int .i64 t509, .slice Ao14 t510.length co14]] rfl (by (try simp only [List.map_toArray, List.map_cons, List.map_nil]); first | done | rfl | (simp only [List.length_drop, List.length_take]; rfl)) ?_; (with_reducible refine (wireloomlaw05_cycle.calls t509 _ _ t510 t514 t517 _ ?side1 ?side2 A5.out).mono ?_); (case side1 => refine (Kd.R_reads' (e := 55) (base := w.heap.size) (ok := fun k_ => True) (n := t510.length) (c := co14) ?_).2.2; exact (by (with_reducible repeat (first | apply Kd.R_alloc | apply Kd.R_drewN | apply Kd.R_drew)); exact (Kd.R_mono (Kd.R_far (p := ⟨gb513, 1, none⟩) (Kd.R_far (p := ⟨gb513, 0, none⟩) (Kd.R_types HO512.out BK513.out (by decide)) (fun _ hk => hk.2) (.int .i64 t509)) (fun _ hk => hk.2) (.slice Ao14 t510.length co14)) (fun _ h_ => h_.1)))); (case side2 => exact (Kd.R_reads' HO512.out).2.1); rintro e w15 ⟨v515, rfl, ho0, hb⟩; refine ⟨_, rfl, ?_⟩; have n0_ := Aside0.mk (Kd.R_below (by (with_reducible repeat (first | apply Kd.R_alloc | apply Kd.R_drewN | apply Kd.R_drew)); exact (Kd.R_mono (Kd.R_far (p := ⟨gb513, 1, none⟩) (Kd.R_far (p := ⟨gb513, 0, none⟩) (Kd.R_types HO512.out BK513.out (by decide)) (fun _ hk => hk.2) (.int .i64 t509)) (fun _ hk => hk.2) (.slice Ao14 t510.length co14)) (fun _ h_ => h_.1))) hb); have n1_ := Aside0.mk (Kd.R_lower ho0 (below_size (by repeat (first | (with_reducible first | exact HB.out | apply below_alloc | apply pw_below_drewN | apply below_drew1 | refine below_set ?_ GE507.out | refine below_set ?_ GE513.out) | exact HB.out)))); have n2_ := Aside0.mk (blk_below (g := gb507) (o := .cells #[.int .u8 a0_0, .int .u8 a0_1, .slice A0_2 l0_2.length c0_2] 24 (0, 0)) (by (with_reducible repeat (first | refine blk_drewN ?_ _ | refine blk_drew ?_ | refine blk_alloc ?_ _)); refine blk_far ?_ NB507_513.out _; (with_reducible repeat (first | refine blk_drewN ?_ _ | refine blk_drew ?_ | refine blk_alloc ?_ _)); refine blk_far ?_ NB507_513.out _; (with_reducible repeat (first | refine blk_drewN ?_ _ | refine blk_drew ?_ | refine blk_alloc ?_ _)); exact BK507.out) hb); have n3_ := Aside0.mk (blk_below (g := gb513) (o := .cells #[.int .i64 t509, .slice Ao14 t510.length co14] 31 (0, 0)) (by (with_reducible repeat (first | refine blk_drewN ?_ _ | refine blk_drew ?_ | refine blk_alloc ?_ _)); refine blk_put (cs := #[.int .i64 t509, .slice none 0 0]) ?_ 1 _ rfl; (with_reducible repeat (first | refine blk_drewN ?_ _ | refine blk_drew ?_ | refine blk_alloc ?_ _)); refine blk_put (cs := #[.int .i64 0, .slice none 0 0]) ?_ 0 _ rfl; (with_reducible repeat (first | refine blk_drewN ?_ _ | refine blk_drew ?_ | refine blk_alloc ?_ _)); exact BK513.out) hb); have n4_ := Aside0.mk (below_step (by repeat (first | (with_reducible first | exact HB.out | apply below_alloc | apply pw_below_drewN | apply below_drew1 | refine below_set ?_ GE507.out | refine below_set ?_ GE513.out) | exact HB.out)) hb); clear HO512; clear BK507; clear BK513; clear HB; have HO512 := n0_; have HO516 := n1_; have BK507 := n2_; have BK513 := n3_; have HB := n4_; clear n0_ n1_ n2_ n3_ n4_; (try clear hb); (try clear hb2); (try clear hk); (try clear hi); (try clear ho0)) | ((with_reducible refine gate_dst (N := 5) rfl ?_); (try (refine gate_guard (by rfl) ?_; dsimp only)); refine box_event ?hg (N := 5) ?hd (cs := #[.slice none 0 0, .int .i64 0]) (t := 37) ?hr ?_; (case hd => rfl); (case hg => rfl); (case hr => first | (go_simp; done) | (go_simp; rfl)); intro gb518 hg w16 hbox hb; have n0_ := Aside0.mk (Kd.R_below (by (with_reducible repeat (first | apply Kd.R_alloc | apply Kd.R_drewN | apply Kd.R_drew)); exact HO512.out) hb); have n1_ := Aside0.mk (Kd.R_below (by (with_reducible repeat (first | apply Kd.R_alloc | apply Kd.R_drewN | apply Kd.R_drew)); exact HO516.out) hb); have n2_ := Aside0.mk (blk_below (g := gb507) (o := .cells #[.int .u8 a0_0, .int .u8 a0_1, .slice A0_2 l0_2.length c0_2] 24 (0, 0)) (by (with_reducible repeat (first | refine blk_drewN ?_ _ | refine blk_drew ?_ | refine blk_alloc ?_ _)); exact BK507.out) hb); have n3_ := Aside0.mk (blk_below (g := gb513) (o := .cells #[.int .i64 t509, .slice Ao14 t510.length co14] 31 (0, 0)) (by (with_reducible repeat (first | refine blk_drewN ?_ _ | refine blk_drew ?_ | refine blk_alloc ?_ _)); exact BK513.out) hb); have n4_ := Aside0.mk (below_step (by repeat (first | (with_reducible first | exact HB.out | apply below_alloc | apply pw_below_drewN | apply below_drew1 | refine below_set ?_ GE507.out | refine below_set ?_ GE513.out) | exact HB.out)) hb); have n5_ := Aside0.mk (hbox); have n6_ := Aside0.mk ((by rw [hg]; exact (below_size (by repeat (first | (with_reducible first | exact HB.out | apply below_alloc | apply pw_below_drewN | apply below_drew1 | refine below_set ?_ GE507.out | refine below_set ?_ GE513.out) | exact HB.out))) : w.heap.size ≤ gb518)); have n7_ := Aside0.mk ((by rw [hg]; exact (below_size (by repeat (first | (with_reducible first | exact HB.out | apply below_alloc | apply pw_below_drewN | apply below_drew1 | refine below_set ?_ GE507.out | refine below_set ?_ GE513.out) | exact HB.out))) : w.heap.size ≤ gb518)); have n8_ := Aside0.mk ((by rw [hg]; exact Nat.ne_of_lt (blk_lt (g := gb507) (o := .cells #[.int .u8 a0_0, .int .u8 a0_1, .slice A0_2 l0_2.length c0_2] 24 (0, 0)) (by (with_reducible repeat (first | refine blk_drewN ?_ _ | refine blk_drew ?_ | refine blk_alloc ?_ _)); exact BK507.out)) : gb507 ≠ gb518)); have n9_ := Aside0.mk ((by rw [hg]; exact Nat.ne_of_gt (blk_lt (g := gb507) (o := .cells #[.int .u8 a0_0, .int .u8 a0_1, .slice A0_2 l0_2.length c0_2] 24 (0, 0)) (by (with_reducible repeat (first | refine blk_drewN ?_ _ | refine blk_drew ?_ | refine blk_alloc ?_ _)); exact BK507.out)) : gb518 ≠ gb507)); have n10_ := Aside0.mk ((by rw [hg]; exact Nat.ne_of_lt (blk_lt (g := gb513) (o := .cells #[.int .i64 t509, .slice Ao14 t510.length co14] 31 (0, 0)) (by (with_reducible repeat (first | refine blk_drewN ?_ _ | refine blk_drew ?_ | refine blk_alloc ?_ _)); exact BK513.out)) : gb513 ≠ gb518)); have n11_ := Aside0.mk ((by rw [hg]; exact Nat.ne_of_gt (blk_lt (g := gb513) (o := .cells #[.int .i64 t509, .slice Ao14 t510.length co14] 31 (0, 0)) (by (with_reducible repeat (first | refine blk_drewN ?_ _ | refine blk_drew ?_ | refine blk_alloc ?_ _)); exact BK513.out)) : gb518 ≠ gb513)); clear HO512; clear HO516; clear BK507; clear BK513; clear HB; have HO512 := n0_; have HO516 := n1_; have BK507 := n2_; have BK513 := n3_; have HB := n4_; have BK518 := n5_; have GW518 := n6_; have GE518 := n7_; have NB507_518 := n8_; have NB518_507 := n9_; have NB513_518 := n10_; have NB518_513 := n11_; clear n0_ n1_ n2_ n3_ n4_ n5_ n6_ n7_ n8_ n9_ n10_ n11_; clear hb hbox hg; obtain ⟨Ao17, co17, eo17⟩ := Kd.R_slice HO516.out; subst eo17; have hnb18 := NB518_507.out; have hnc18 := NB507_518.out; have hnb19 := NB518_513.out; have hnc19 := NB513_518.out; have hcz20_0 : w16.cell? ⟨gb518, 0, none⟩ = some (.slice none 0 0) := (blk_cell BK518.out 0).trans rfl; have hcz20_1 : w16.cell? ⟨gb518, 1, none⟩ = some (.int .i64 0) := (blk_cell BK518.out 1).trans rfl; have hfz20_0 := blk_frozen BK518.out 0; have hfz20_1 := blk_frozen BK518.out 1))
    (try simp only [Act.put, List.setIfInBounds_toArray, List.set_cons_zero, List.set_cons_succ])
    go_cut [6] (fun v6 wc => ∃ (kq : Nat) (x6_5 : Int), v6 = .int .i64 x6_5 ∧ Aside0 (wireloomlaw05_DigraphCycles.j0 kq true x6_5 t509 t510 t514 t517 = some r) ∧ Aside0 (kq ≤ k) ∧ Aside0 (Kd.R k55 55 wc w.heap.size (fun _ => True) (.slice Ao14 t510.length co14) t510) ∧ Aside0 (Kd.R (Kd.int .i64) 3 wc w.heap.size (fun _ => True) (.slice Ao17 t514.length co17) t514) ∧ Aside0 (wc.heap[gb507]? = some (.cells #[.int .u8 a0_0, .int .u8 a0_1, (.slice A0_2 l0_2.length c0_2)] 24 (0, 0))) ∧ Aside0 (wc.heap[gb513]? = some (.cells #[.int .i64 t509, (.slice Ao14 t510.length co14)] 31 (0, 0))) ∧ Aside0 (wc.heap[gb518]? = some (.cells #[(.slice Ao17 t514.length co17), .int .i64 t517] 37 (0, 0))) ∧ Aside0 (Below w.heap.size w wc))
    case first =>
      have H := HC6.out
      clear HC6
      by_cases c21 : t517 = 0
      · rw [if_pos c21] at H
        have c21b0 : (t517 == 0) = true := beq_iff_eq.mpr c21
        have c21b1 : (t517 != 0) = false := bne_eq_false_iff_eq.mpr c21
        clear c21
        (first | rw [c21b0] | (simp only [i64_w, i32_w]; rw [c21b0]) | skip)
        have H' := Aside0.mk H
        clear H
        go_wp2
        go_meet
        case rel => exact ⟨_, ((t514.length : Int)), (by first | rfl | (simp; done) | (simp [*]; done)), H', ⟨by first | omega | exact Nat.le_refl _⟩, ⟨by (with_reducible repeat (first | apply Kd.R_alloc | apply Kd.R_drewN | apply Kd.R_drew)); exact Kd.R_mono (Kd.R_far (p := ⟨gb518, 1, none⟩) (Kd.R_far (p := ⟨gb518, 0, none⟩) (Kd.R_types HO512.out BK518.out (by decide)) (fun _ hk => hk.2) (.slice Ao17 t514.length co17)) (fun _ hk => hk.2) (.int .i64 t517)) (fun _ hk => trivial)⟩, ⟨by (with_reducible repeat (first | apply Kd.R_alloc | apply Kd.R_drewN | apply Kd.R_drew)); exact Kd.R_mono (Kd.R_far (p := ⟨gb518, 1, none⟩) (Kd.R_far (p := ⟨gb518, 0, none⟩) (Kd.R_types HO516.out BK518.out (by decide)) (fun _ hk => hk.2) (.slice Ao17 t514.length co17)) (fun _ hk => hk.2) (.int .i64 t517)) (fun _ hk => trivial)⟩, ⟨by (with_reducible repeat (first | refine blk_drewN ?_ _ | refine blk_drew ?_ | refine blk_alloc ?_ _)); refine blk_far ?_ NB507_518.out _; (with_reducible repeat (first | refine blk_drewN ?_ _ | refine blk_drew ?_ | refine blk_alloc ?_ _)); refine blk_far ?_ NB507_518.out _; (with_reducible repeat (first | refine blk_drewN ?_ _ | refine blk_drew ?_ | refine blk_alloc ?_ _)); exact BK507.out⟩, ⟨by (with_reducible repeat (first | refine blk_drewN ?_ _ | refine blk_drew ?_ | refine blk_alloc ?_ _)); refine blk_far ?_ NB513_518.out _; (with_reducible repeat (first | refine blk_drewN ?_ _ | refine blk_drew ?_ | refine blk_alloc ?_ _)); refine blk_far ?_ NB513_518.out _; (with_reducible repeat (first | refine blk_drewN ?_ _ | refine blk_drew ?_ | refine blk_alloc ?_ _)); exact BK513.out⟩, ⟨by (with_reducible repeat (first | refine blk_drewN ?_ _ | refine blk_drew ?_ | refine blk_alloc ?_ _)); refine blk_put (cs := #[.slice Ao17 t514.length co17, .int .i64 0]) ?_ 1 _ rfl; (with_reducible repeat (first | refine blk_drewN ?_ _ | refine blk_drew ?_ | refine blk_alloc ?_ _)); refine blk_put (cs := #[.slice none 0 0, .int .i64 0]) ?_ 0 _ rfl; (with_reducible repeat (first | refine blk_drewN ?_ _ | refine blk_drew ?_ | refine blk_alloc ?_ _)); exact BK518.out⟩, ⟨by repeat (first | (with_reducible first | exact HB.out | apply below_alloc | apply pw_below_drewN | apply below_drew1 | refine below_set ?_ GE507.out | refine below_set ?_ GE513.out | refine below_set ?_ GE518.out) | exact HB.out)⟩⟩
      · rw [if_neg c21] at H
        have c21b0 : (t517 == 0) = false := beq_eq_false_iff_ne.mpr c21
        have c21b1 : (t517 != 0) = true := bne_iff_ne.mpr c21
        (first | rw [c21b0] | (simp only [i64_w, i32_w]; rw [c21b0]) | skip)
        have H' := Aside0.mk H
        clear H
        have hnb22 := NB513_507.out
        have hnc22 := NB507_513.out
        have hnb23 := NB513_518.out
        have hnc23 := NB518_513.out
        have hcz24_0 : w16.cell? ⟨gb513, 0, none⟩ = some (.int .i64 t509) := (blk_cell BK513.out 0).trans rfl
        have hcz24_1 : w16.cell? ⟨gb513, 1, none⟩ = some (.slice Ao14 t510.length co14) := (blk_cell BK513.out 1).trans rfl
        have hfz24_0 := blk_frozen BK513.out 0
        have hfz24_1 := blk_frozen BK513.out 1
        go_wp2
        go_meet
        case rel => exact ⟨_, (wrap64 (t509 + 1)), (by first | rfl | (simp; done) | (simp [*]; done)), H', ⟨by first | omega | exact Nat.le_refl _⟩, ⟨by (with_reducible repeat (first | apply Kd.R_alloc | apply Kd.R_drewN | apply Kd.R_drew)); exact Kd.R_mono (Kd.R_far (p := ⟨gb518, 1, none⟩) (Kd.R_far (p := ⟨gb518, 0, none⟩) (Kd.R_types HO512.out BK518.out (by decide)) (fun _ hk => hk.2) (.slice Ao17 t514.length co17)) (fun _ hk => hk.2) (.int .i64 t517)) (fun _ hk => trivial)⟩, ⟨by (with_reducible repeat (first | apply Kd.R_alloc | apply Kd.R_drewN | apply Kd.R_drew)); exact Kd.R_mono (Kd.R_far (p := ⟨gb518, 1, none⟩) (Kd.R_far (p := ⟨gb518, 0, none⟩) (Kd.R_types HO516.out BK518.out (by decide)) (fun _ hk => hk.2) (.slice Ao17 t514.length co17)) (fun _ hk => hk.2) (.int .i64 t517)) (fun _ hk => trivial)⟩, ⟨by (with_reducible repeat (first | refine blk_drewN ?_ _ | refine blk_drew ?_ | refine blk_alloc ?_ _)); refine blk_far ?_ NB507_518.out _; (with_reducible repeat (first | refine blk_drewN ?_ _ | refine blk_drew ?_ | refine blk_alloc ?_ _)); refine blk_far ?_ NB507_518.out _; (with_reducible repeat (first | refine blk_drewN ?_ _ | refine blk_drew ?_ | refine blk_alloc ?_ _)); exact BK507.out⟩, ⟨by (with_reducible repeat (first | refine blk_drewN ?_ _ | refine blk_drew ?_ | refine blk_alloc ?_ _)); refine blk_far ?_ NB513_518.out _; (with_reducible repeat (first | refine blk_drewN ?_ _ | refine blk_drew ?_ | refine blk_alloc ?_ _)); refine blk_far ?_ NB513_518.out _; (with_reducible repeat (first | refine blk_drewN ?_ _ | refine blk_drew ?_ | refine blk_alloc ?_ _)); exact BK513.out⟩, ⟨by (with_reducible repeat (first | refine blk_drewN ?_ _ | refine blk_drew ?_ | refine blk_alloc ?_ _)); refine blk_put (cs := #[.slice Ao17 t514.length co17, .int .i64 0]) ?_ 1 _ rfl; (with_reducible repeat (first | refine blk_drewN ?_ _ | refine blk_drew ?_ | refine blk_alloc ?_ _)); refine blk_put (cs := #[.slice none 0 0, .int .i64 0]) ?_ 0 _ rfl; (with_reducible repeat (first | refine blk_drewN ?_ _ | refine blk_drew ?_ | refine blk_alloc ?_ _)); exact BK518.out⟩, ⟨by repeat (first | (with_reducible first | exact HB.out | apply below_alloc | apply pw_below_drewN | apply below_drew1 | refine below_set ?_ GE507.out | refine below_set ?_ GE513.out | refine below_set ?_ GE518.out) | exact HB.out)⟩⟩
    case rest =>
      clear HC6
      try clear c1
      try clear c2
      try clear p2
      try clear c3
      try clear c5
      try clear p6
      try clear c10
      try clear c11
      try clear c12
      try clear c17
      try clear c18
      try clear c19
      try clear c21
      try clear c21b0
      try clear c21b1
      try clear c22
      try clear c23
      try clear hcz13_0
      try clear hcz13_1
      try clear hcz20_0
      try clear hcz20_1
      try clear hcz24_0
      try clear hcz24_1
      try clear hcz9_0
      try clear hcz9_1
      try clear hcz9_2
      try clear hfz13_0
      try clear hfz13_1
      try clear hfz20_0
      try clear hfz20_1
      try clear hfz24_0
      try clear hfz24_1
      try clear hfz9_0
      try clear hfz9_1
      try clear hfz9_2
      obtain ⟨kq, x6_5, rfl, HA, HJ5, HO_514001, HO_519000, BK507, BK513, BK518, HB⟩ := hcut
      cases kq with
      | zero => exact absurd HA.out (by simp [wireloomlaw05_DigraphCycles.j0])
      | succ kj5 =>
        have H := HA.out
        clear HA
        simp only [wireloomlaw05_DigraphCycles.j0] at H
        have HC25 := Aside0.mk H
        clear H
        go_upto_region 9 with (fail)
        go_cut [40] (fun v40 wc => ∃ (kq : Nat) (x40_24 : Bool), v40 = .bool x40_24 ∧ Aside0 (wireloomlaw05_DigraphCycles.j1 kq true x6_5 x40_24 t509 t510 t514 t517 = some r) ∧ Aside0 (kq ≤ kj5) ∧ Aside0 (Kd.R k55 55 wc w.heap.size (fun _ => True) (.slice Ao14 t510.length co14) t510) ∧ Aside0 (Kd.R (Kd.int .i64) 3 wc w.heap.size (fun _ => True) (.slice Ao17 t514.length co17) t514) ∧ Aside0 (wc.heap[gb507]? = some (.cells #[.int .u8 a0_0, .int .u8 a0_1, (.slice A0_2 l0_2.length c0_2)] 24 (0, 0))) ∧ Aside0 (wc.heap[gb513]? = some (.cells #[.int .i64 t509, (.slice Ao14 t510.length co14)] 31 (0, 0))) ∧ Aside0 (wc.heap[gb518]? = some (.cells #[(.slice Ao17 t514.length co17), .int .i64 t517] 37 (0, 0))) ∧ Aside0 (Below w.heap.size w wc))
        case first =>
          have H := HC25.out
          clear HC25
          by_cases c26 : t517 = 0
          · rw [if_pos c26] at H
            have c26b0 : (t517 == 0) = true := beq_iff_eq.mpr c26
            have c26b1 : (t517 != 0) = false := bne_eq_false_iff_eq.mpr c26
            clear c26
            (first | rw [c26b0] | (simp only [i64_w, i32_w]; rw [c26b0]) | skip)
            by_cases c27 : x6_5 < 1
            · rw [if_pos c27] at H
              exact absurd H (by simp)
            · rw [if_neg c27] at H
              have c27b0 : decide (x6_5 < 1) = false := decide_eq_false c27
              clear c27
              have H' := Aside0.mk H
              clear H
              have hnb28 := NB518_507.out
              have hnc28 := NB507_518.out
              have hnb29 := NB518_513.out
              have hnc29 := NB513_518.out
              have hcz30_0 : wc.cell? ⟨gb518, 0, none⟩ = some (.slice Ao17 t514.length co17) := (blk_cell BK518.out 0).trans rfl
              have hcz30_1 : wc.cell? ⟨gb518, 1, none⟩ = some (.int .i64 t517) := (blk_cell BK518.out 1).trans rfl
              have hfz30_0 := blk_frozen BK518.out 0
              have hfz30_1 := blk_frozen BK518.out 1
              have hnb31 := NB513_507.out
              have hnc31 := NB507_513.out
              have hcz32_0 : wc.cell? ⟨gb513, 0, none⟩ = some (.int .i64 t509) := (blk_cell BK513.out 0).trans rfl
              have hcz32_1 : wc.cell? ⟨gb513, 1, none⟩ = some (.slice Ao14 t510.length co14) := (blk_cell BK513.out 1).trans rfl
              have hfz32_0 := blk_frozen BK513.out 0
              have hfz32_1 := blk_frozen BK513.out 1
              go_wp2
              go_meet
              case rel => exact ⟨_, (decide (x6_5 > t509)), (by first | rfl | (simp; done) | (simp [*]; done)), H', ⟨by have := HJ5.out; first | omega | exact Nat.le_refl _⟩, ⟨by (with_reducible repeat (first | apply Kd.R_alloc | apply Kd.R_drewN | apply Kd.R_drew)); exact HO_514001.out⟩, ⟨by (with_reducible repeat (first | apply Kd.R_alloc | apply Kd.R_drewN | apply Kd.R_drew)); exact HO_519000.out⟩, ⟨by (with_reducible repeat (first | refine blk_drewN ?_ _ | refine blk_drew ?_ | refine blk_alloc ?_ _)); exact BK507.out⟩, ⟨by (with_reducible repeat (first | refine blk_drewN ?_ _ | refine blk_drew ?_ | refine blk_alloc ?_ _)); exact BK513.out⟩, ⟨by (with_reducible repeat (first | refine blk_drewN ?_ _ | refine blk_drew ?_ | refine blk_alloc ?_ _)); exact BK518.out⟩, ⟨by repeat (first | (with_reducible first | exact HB.out | apply below_alloc | apply pw_below_drewN | apply below_drew1 | refine below_set ?_ GE507.out | refine below_set ?_ GE513.out | refine below_set ?_ GE518.out) | exact HB.out)⟩⟩
          · rw [if_neg c26] at H
            have c26b0 : (t517 == 0) = false := beq_eq_false_iff_ne.mpr c26
            have c26b1 : (t517 != 0) = true := bne_iff_ne.mpr c26
            (first | rw [c26b0] | (simp only [i64_w, i32_w]; rw [c26b0]) | skip)
            have H' := Aside0.mk H
            clear H
            have hnb33 := NB518_507.out
            have hnc33 := NB507_518.out
            have hnb34 := NB518_513.out
            have hnc34 := NB513_518.out
            have hcz35_0 : wc.cell? ⟨gb518, 0, none⟩ = some (.slice Ao17 t514.length co17) := (blk_cell BK518.out 0).trans rfl
            have hcz35_1 : wc.cell? ⟨gb518, 1, none⟩ = some (.int .i64 t517) := (blk_cell BK518.out 1).trans rfl
            have hfz35_0 := blk_frozen BK518.out 0
            have hfz35_1 := blk_frozen BK518.out 1
            go_wp2
            go_meet
            case rel => exact ⟨_, (false), (by first | rfl | (simp; done) | (simp [*]; done)), H', ⟨by have := HJ5.out; first | omega | exact Nat.le_refl _⟩, ⟨by (with_reducible repeat (first | apply Kd.R_alloc | apply Kd.R_drewN | apply Kd.R_drew)); exact HO_514001.out⟩, ⟨by (with_reducible repeat (first | apply Kd.R_alloc | apply Kd.R_drewN | apply Kd.R_drew)); exact HO_519000.out⟩, ⟨by (with_reducible repeat (first | refine blk_drewN ?_ _ | refine blk_drew ?_ | refine blk_alloc ?_ _)); exact BK507.out⟩, ⟨by (with_reducible repeat (first | refine blk_drewN ?_ _ | refine blk_drew ?_ | refine blk_alloc ?_ _)); exact BK513.out⟩, ⟨by (with_reducible repeat (first | refine blk_drewN ?_ _ | refine blk_drew ?_ | refine blk_alloc ?_ _)); exact BK518.out⟩, ⟨by repeat (first | (with_reducible first | exact HB.out | apply below_alloc | apply pw_below_drewN | apply below_drew1 | refine below_set ?_ GE507.out | refine below_set ?_ GE513.out | refine below_set ?_ GE518.out) | exact HB.out)⟩⟩
        case rest =>
          clear HC25
          try clear c1
          try clear c2
          try clear p2
          try clear c3
          try clear c5
          try clear p6
          try clear c10
          try clear c11
          try clear c12
          try clear c17
          try clear c18
          try clear c19
          try clear c21
          try clear c21b0
          try clear c21b1
          try clear c22
          try clear c23
          try clear c26
          try clear c26b0
          try clear c26b1
          try clear c27
          try clear c27b0
          try clear c28
          try clear c29
          try clear c31
          try clear c33
          try clear c34
          try clear hcz13_0
          try clear hcz13_1
          try clear hcz20_0
          try clear hcz20_1
          try clear hcz24_0
          try clear hcz24_1
          try clear hcz30_0
          try clear hcz30_1
          try clear hcz32_0
          try clear hcz32_1
          try clear hcz35_0
          try clear hcz35_1
          try clear hcz9_0
          try clear hcz9_1
          try clear hcz9_2
          try clear hfz13_0
          try clear hfz13_1
          try clear hfz20_0
          try clear hfz20_1
          try clear hfz24_0
          try clear hfz24_1
          try clear hfz30_0
          try clear hfz30_1
          try clear hfz32_0
          try clear hfz32_1
          try clear hfz35_0
          try clear hfz35_1
          try clear hfz9_0
          try clear hfz9_1
          try clear hfz9_2
          try clear p2
          try clear p6
          obtain ⟨kq, x40_24, rfl, HA, HJ24, HO_514001, HO_519000, BK507, BK513, BK518, HB⟩ := hcut
          cases kq with
          | zero => exact absurd HA.out (by simp [wireloomlaw05_DigraphCycles.j1])
          | succ kj24 =>
            have H := HA.out
            clear HA
            simp only [wireloomlaw05_DigraphCycles.j1] at H
            by_cases c36 : x40_24 = true
            · subst c36
              have H1 : (none) = some r := by rw [if_pos rfl] at H; exact H
              clear H
              have H := H1
              clear H1
              exact absurd H (by simp)
            · replace c36 := Bool.eq_false_iff.mpr c36
              subst c36
              have H1 : (wireloomlaw05_DigraphCycles.l0 kj24 true x6_5 0 t509 t510 t514 t517) = some r := by rw [if_neg (show ¬ (false = true) by decide)] at H; exact H
              clear H
              have H := H1
              clear H1
              have H' := Aside0.mk H
              clear H
              go_wp2
              go_loopg [7] kj24 (fun kq v7 w' => ∃ (x7_3 : Int), v7 = .int .i64 x7_3 ∧ Aside0 (wireloomlaw05_DigraphCycles.l0 kq true x6_5 x7_3 t509 t510 t514 t517 = some r) ∧ Aside0 (kq ≤ kj24) ∧ Aside0 (Kd.R k55 55 w' w.heap.size (fun _ => True) (.slice Ao14 t510.length co14) t510) ∧ Aside0 (Kd.R (Kd.int .i64) 3 w' w.heap.size (fun _ => True) (.slice Ao17 t514.length co17) t514) ∧ Aside0 (w'.heap[gb507]? = some (.cells #[.int .u8 a0_0, .int .u8 a0_1, (.slice A0_2 l0_2.length c0_2)] 24 (0, 0))) ∧ Aside0 (w'.heap[gb513]? = some (.cells #[.int .i64 t509, (.slice Ao14 t510.length co14)] 31 (0, 0))) ∧ Aside0 (w'.heap[gb518]? = some (.cells #[(.slice Ao17 t514.length co17), .int .i64 t517] 37 (0, 0))) ∧ Aside0 (Below w.heap.size w w'))
              case atStart => exact ⟨(0), (by first | rfl | (simp; done) | (simp [*]; done)), H', ⟨Nat.le_refl _⟩, ⟨by (with_reducible repeat (first | apply Kd.R_alloc | apply Kd.R_drewN | apply Kd.R_drew)); exact HO_514001.out⟩, ⟨by (with_reducible repeat (first | apply Kd.R_alloc | apply Kd.R_drewN | apply Kd.R_drew)); exact HO_519000.out⟩, ⟨by (with_reducible repeat (first | refine blk_drewN ?_ _ | refine blk_drew ?_ | refine blk_alloc ?_ _)); exact BK507.out⟩, ⟨by (with_reducible repeat (first | refine blk_drewN ?_ _ | refine blk_drew ?_ | refine blk_alloc ?_ _)); exact BK513.out⟩, ⟨by (with_reducible repeat (first | refine blk_drewN ?_ _ | refine blk_drew ?_ | refine blk_alloc ?_ _)); exact BK518.out⟩, ⟨by repeat (first | (with_reducible first | exact HB.out | apply below_alloc | apply pw_below_drewN | apply below_drew1 | refine below_set ?_ GE507.out | refine below_set ?_ GE513.out | refine below_set ?_ GE518.out) | exact HB.out)⟩⟩
              case round =>
                clear H'
                try clear c1
                try clear c2
                try clear p2
                try clear c3
                try clear c5
                try clear p6
                try clear c10
                try clear c11
                try clear c12
                try clear c17
                try clear c18
                try clear c19
                try clear c21
                try clear c21b0
                try clear c21b1
                try clear c22
                try clear c23
                try clear c26
                try clear c26b0
                try clear c26b1
                try clear c27
                try clear c27b0
                try clear c28
                try clear c29
                try clear c31
                try clear c33
                try clear c34
                try clear c36
                try clear hcz13_0
                try clear hcz13_1
                try clear hcz20_0
                try clear hcz20_1
                try clear hcz24_0
                try clear hcz24_1
                try clear hcz30_0
                try clear hcz30_1
                try clear hcz32_0
                try clear hcz32_1
                try clear hcz35_0
                try clear hcz35_1
                try clear hcz9_0
                try clear hcz9_1
                try clear hcz9_2
                try clear hfz13_0
                try clear hfz13_1
                try clear hfz20_0
                try clear hfz20_1
                try clear hfz24_0
                try clear hfz24_1
                try clear hfz30_0
                try clear hfz30_1
                try clear hfz32_0
                try clear hfz32_1
                try clear hfz35_0
                try clear hfz35_1
                try clear hfz9_0
                try clear hfz9_1
                try clear hfz9_2
                try clear p2
                try clear p6
                obtain ⟨x7_3, rfl, HA, HK3, HO_514001, HO_519000, BK507, BK513, BK518, HB⟩ := hrel
                cases gk with
                | zero => exact absurd HA.out (by simp [wireloomlaw05_DigraphCycles.l0])
                | succ k3 =>
                  have H := HA.out
                  clear HA
                  simp only [wireloomlaw05_DigraphCycles.l0] at H
                  by_cases c37 : x7_3 < t509
                  · rw [if_pos c37] at H
                    have c37b0 : decide (x7_3 < t509) = true := decide_eq_true c37
                    clear c37
                    by_cases c38 : 0 ≤ t509
                    · rw [if_pos c38] at H
                      have c38b0 := eq_true c38
                      have c38b1 : decide (0 ≤ t509) = true := decide_eq_true c38
                      clear c38
                      by_cases c39 : (t509 : Int).toNat ≤ 281474976710656
                      · rw [if_pos c39] at H
                        have c39b0 := eq_true c39
                        have c39b1 : decide ((t509 : Int).toNat ≤ 281474976710656) = true := decide_eq_true c39
                        clear c39
                        obtain ⟨y519, hy519⟩ : ∃ y_ : List Bool, y_ = (List.replicate (t509 : Int).toNat false) := ⟨_, rfl⟩
                        replace H : (if 0 ≤ x7_3 then (if x7_3 < (y519.length : Int) then (wireloomlaw05_DigraphCycles.l1 k3 true x6_5 x7_3 (y519.set (x7_3 : Int).toNat true) 1 t509 t510 t514 t517) else (none)) else (none)) = some r := by first | (rw [hy519]; with_reducible exact H) | (have H2_ := (Option.bind_some _ _).symm.trans H; rw [hy519]; with_reducible exact H2_) | (have H2_ := (Option.bind_some _ _).symm.trans H; with_reducible exact H2_) | with_reducible exact H | (rw [hy519]; exact H) | exact H
                        have Ny519 := Aside0.mk hy519
                        clear hy519
                        by_cases c40 : 0 ≤ x7_3
                        · rw [if_pos c40] at H
                          have c40b0 : decide (0 ≤ x7_3) = true := decide_eq_true c40
                          clear c40
                          by_cases c41 : x7_3 < (y519.length : Int)
                          · rw [if_pos c41] at H
                            have c41b0 : decide (x7_3 < (y519.length : Int)) = true := decide_eq_true c41
                            clear c41
                            obtain ⟨y522, hy522⟩ : ∃ y_ : List Bool, y_ = (y519.set (x7_3 : Int).toNat true) := ⟨_, rfl⟩
                            replace H : (wireloomlaw05_DigraphCycles.l1 k3 true x6_5 x7_3 y522 1 t509 t510 t514 t517) = some r := by first | (rw [hy522]; with_reducible exact H) | (have H2_ := (Option.bind_some _ _).symm.trans H; rw [hy522]; with_reducible exact H2_) | (have H2_ := (Option.bind_some _ _).symm.trans H; with_reducible exact H2_) | with_reducible exact H | (rw [hy522]; exact H) | exact H
                            have Ny522 := Aside0.mk hy522
                            clear hy522
                            have H' := Aside0.mk H
                            clear H
                            have hnb43 := NB513_507.out
                            have hnc43 := NB507_513.out
                            have hnb44 := NB513_518.out
                            have hnc44 := NB518_513.out
                            have hcz45_0 : wr.cell? ⟨gb513, 0, none⟩ = some (.int .i64 t509) := (blk_cell BK513.out 0).trans rfl
                            have hcz45_1 : wr.cell? ⟨gb513, 1, none⟩ = some (.slice Ao14 t510.length co14) := (blk_cell BK513.out 1).trans rfl
                            have hfz45_0 := blk_frozen BK513.out 0
                            have hfz45_1 := blk_frozen BK513.out 1
                            go_wp2_with (first | ((with_reducible refine gate_dst (N := 49) rfl ?_); (try (refine gate_guard (by rfl) ?_; dsimp only)); refine Kd.R_make Kd.bool _ 4 rfl (N := 49) rfl 49 _ _ rfl t509 rfl rfl Try.underlying49 (.bool false) 1 info4 rfl (by decide) (by omega) false (ok := fun _ => True) (okp := fun _ => True) rfl (fun _ hk => hk) trivial (of_decide_eq_true (by first | (with_reducible assumption) | assumption)) (Nat.le_trans (Nat.mul_le_mul_right _ (of_decide_eq_true (by first | (with_reducible assumption) | assumption) : t509.toNat ≤ 281474976710656)) (by omega)) (Below.refl _ _) (Nat.le_refl _) ?_; intro v520 w46 ho47 hb hg_ hnew_; clear hg_ hnew_; (first | rw [← Ny519.out] at ho47 | (simp only [Int.reduceToNat] at ho47; rw [← Ny519.out] at ho47)); have n0_ := Aside0.mk (Kd.R_below (by (with_reducible repeat (first | apply Kd.R_alloc | apply Kd.R_drewN | apply Kd.R_drew)); exact HO_514001.out) hb); have n1_ := Aside0.mk (Kd.R_below (by (with_reducible repeat (first | apply Kd.R_alloc | apply Kd.R_drewN | apply Kd.R_drew)); exact HO_519000.out) hb); have n2_ := Aside0.mk (Kd.R_lower ho47 (below_size (by repeat (first | (with_reducible first | exact HB.out | apply below_alloc | apply pw_below_drewN | apply below_drew1 | refine below_set ?_ GE507.out | refine below_set ?_ GE513.out | refine below_set ?_ GE518.out) | exact HB.out)))); have n3_ := Aside0.mk (blk_below (g := gb507) (o := .cells #[.int .u8 a0_0, .int .u8 a0_1, .slice A0_2 l0_2.length c0_2] 24 (0, 0)) (by (with_reducible repeat (first | refine blk_drewN ?_ _ | refine blk_drew ?_ | refine blk_alloc ?_ _)); exact BK507.out) hb); have n4_ := Aside0.mk (blk_below (g := gb513) (o := .cells #[.int .i64 t509, .slice Ao14 t510.length co14] 31 (0, 0)) (by (with_reducible repeat (first | refine blk_drewN ?_ _ | refine blk_drew ?_ | refine blk_alloc ?_ _)); exact BK513.out) hb); have n5_ := Aside0.mk (blk_below (g := gb518) (o := .cells #[.slice Ao17 t514.length co17, .int .i64 t517] 37 (0, 0)) (by (with_reducible repeat (first | refine blk_drewN ?_ _ | refine blk_drew ?_ | refine blk_alloc ?_ _)); exact BK518.out) hb); have n6_ := Aside0.mk (below_step (by repeat (first | (with_reducible first | exact HB.out | apply below_alloc | apply pw_below_drewN | apply below_drew1 | refine below_set ?_ GE507.out | refine below_set ?_ GE513.out | refine below_set ?_ GE518.out) | exact HB.out)) hb); clear HO_514001; clear HO_519000; clear BK507; clear BK513; clear BK518; clear HB; have HO_514001 := n0_; have HO_519000 := n1_; have HO521 := n2_; have BK507 := n3_; have BK513 := n4_; have BK518 := n5_; have HB := n6_; clear n0_ n1_ n2_ n3_ n4_ n5_ n6_; clear hb ho47; have p42 : 0 ≤ (x7_3 : Int) := of_decide_eq_true (by first | (with_reducible assumption) | assumption); have q42 : (x7_3 : Int) < ((y519.length : Int) : Int) := of_decide_eq_true (by first | (with_reducible assumption) | assumption); obtain ⟨go42, co42, eo42, gb42, gl42, cl42, HG42⟩ := Kd.R_form HO521.out (by omega); (first | cases eo42 | (injection eo42 with ea_ en_ ec_; (first | subst ea_ | (injection ea_ with ea_; subst ea_)); subst ec_; clear en_)); have GB42 := Aside0.mk gb42; have GG42 := Aside0.mk HG42; clear gb42 gl42 HG42; obtain ⟨hx42_0, hf42_0⟩ := Kd.R_celln false HO521.out (x7_3 : Int) p42 q42; replace p42 := eq_true p42; replace q42 := eq_true q42; obtain ⟨hy48_, hz48_⟩ := Kd.R_celln false HO521.out (x7_3 : Int) (of_decide_eq_true (by first | (with_reducible assumption) | assumption)) (of_decide_eq_true (by first | (with_reducible assumption) | assumption)); have HP48 := Kd.R_putg HO521.out (x7_3 : Int) true) | ((with_reducible refine gate_store (t := 4) (p := 52) rfl ?_); refine store_event (t := 4) (p := 52) (v := ?vo_w49) (w1 := (w46.setCell ⟨go42, (x7_3 : Int).toNat, none⟩ (.bool true))) ?hg ?ho ?hn ?hr ?_; (case ho => rfl); (case hg => rfl); (case hn => rfl); (case hr => first | (go_simp; done) | (go_simp; rfl)); intro w49 hw; have hg : w46.grownBy w49 (some go42) := (by rw [hw]; exact HP48.2); have hp_ : Kd.R Kd.bool 4 w49 w.heap.size (fun _ => True) (.slice (some ⟨go42, 0, none⟩) y519.length co42) y522 := (by rw [hw, Ny522.out]; exact HP48.1); clear HP48; have n0_ := Aside0.mk (Kd.R_over' (v := (.slice (some ⟨go42, 0, none⟩) y519.length co42)) (by (with_reducible repeat (first | apply Kd.R_alloc | apply Kd.R_drewN | apply Kd.R_drew)); exact HO_514001.out) (Kd.R_typed HO521.out) (by decide) hg); have n1_ := Aside0.mk (Kd.R_over' (v := (.slice (some ⟨go42, 0, none⟩) y519.length co42)) (by (with_reducible repeat (first | apply Kd.R_alloc | apply Kd.R_drewN | apply Kd.R_drew)); exact HO_519000.out) (Kd.R_typed HO521.out) (by decide) hg); have n2_ := Aside0.mk (blk_grown (g := gb507) (o := .cells #[.int .u8 a0_0, .int .u8 a0_1, .slice A0_2 l0_2.length c0_2] 24 (0, 0)) (by (with_reducible repeat (first | refine blk_drewN ?_ _ | refine blk_drew ?_ | refine blk_alloc ?_ _)); exact BK507.out) hg (Kd.R_ne HO521.out BK507.out (by decide))); have n3_ := Aside0.mk (blk_grown (g := gb513) (o := .cells #[.int .i64 t509, .slice Ao14 t510.length co14] 31 (0, 0)) (by (with_reducible repeat (first | refine blk_drewN ?_ _ | refine blk_drew ?_ | refine blk_alloc ?_ _)); exact BK513.out) hg (Kd.R_ne HO521.out BK513.out (by decide))); have n4_ := Aside0.mk (blk_grown (g := gb518) (o := .cells #[.slice Ao17 t514.length co17, .int .i64 t517] 37 (0, 0)) (by (with_reducible repeat (first | refine blk_drewN ?_ _ | refine blk_drew ?_ | refine blk_alloc ?_ _)); exact BK518.out) hg (Kd.R_ne HO521.out BK518.out (by decide))); have n5_ := Aside0.mk (hp_); have n6_ := Aside0.mk ((by rw [hw]; exact below_set (HB.out) GB42.out : Below w.heap.size w w49)); clear HO_514001; clear HO_519000; clear BK507; clear BK513; clear BK518; clear HO521; clear HB; have HO_514001 := n0_; have HO_519000 := n1_; have BK507 := n2_; have BK513 := n3_; have BK518 := n4_; have HO521 := n5_; have HB := n6_; clear n0_ n1_ n2_ n3_ n4_ n5_ n6_; clear hg hw hp_))
                            go_loopg [8, 9] k3 (fun kq v8 v9 w' => ∃ (x8_4 : List Bool) (x9_4 : Int), v9 = .int .i64 x9_4 ∧ Aside0 (wireloomlaw05_DigraphCycles.l1 kq true x6_5 x7_3 x8_4 x9_4 t509 t510 t514 t517 = some r) ∧ Aside0 (kq ≤ k3) ∧ Aside0 (Kd.R Kd.bool 4 w' w.heap.size (fun _ => True) v8 x8_4) ∧ Aside0 (Kd.R k55 55 w' w.heap.size (fun _ => True) (.slice Ao14 t510.length co14) t510) ∧ Aside0 (Kd.R (Kd.int .i64) 3 w' w.heap.size (fun _ => True) (.slice Ao17 t514.length co17) t514) ∧ Aside0 (w'.heap[gb507]? = some (.cells #[.int .u8 a0_0, .int .u8 a0_1, (.slice A0_2 l0_2.length c0_2)] 24 (0, 0))) ∧ Aside0 (w'.heap[gb513]? = some (.cells #[.int .i64 t509, (.slice Ao14 t510.length co14)] 31 (0, 0))) ∧ Aside0 (w'.heap[gb518]? = some (.cells #[(.slice Ao17 t514.length co17), .int .i64 t517] 37 (0, 0))) ∧ Aside0 (Below w.heap.size w w'))
                            case atStart => exact ⟨(y522), (1), (by first | rfl | (simp; done) | (simp [*]; done)), H', ⟨Nat.le_refl _⟩, ⟨by (with_reducible repeat (first | apply Kd.R_alloc | apply Kd.R_drewN | apply Kd.R_drew)); exact HO521.out⟩, ⟨by (with_reducible repeat (first | apply Kd.R_alloc | apply Kd.R_drewN | apply Kd.R_drew)); exact HO_514001.out⟩, ⟨by (with_reducible repeat (first | apply Kd.R_alloc | apply Kd.R_drewN | apply Kd.R_drew)); exact HO_519000.out⟩, ⟨by (with_reducible repeat (first | refine blk_drewN ?_ _ | refine blk_drew ?_ | refine blk_alloc ?_ _)); exact BK507.out⟩, ⟨by (with_reducible repeat (first | refine blk_drewN ?_ _ | refine blk_drew ?_ | refine blk_alloc ?_ _)); exact BK513.out⟩, ⟨by (with_reducible repeat (first | refine blk_drewN ?_ _ | refine blk_drew ?_ | refine blk_alloc ?_ _)); exact BK518.out⟩, ⟨by repeat (first | (with_reducible first | exact HB.out | apply below_alloc | apply pw_below_drewN | apply below_drew1 | refine below_set ?_ GE507.out | refine below_set ?_ GE513.out | refine below_set ?_ GE518.out) | exact HB.out)⟩⟩
                            case round =>
                              clear H'
                              try clear c1
                              try clear c2
                              try clear p2
                              try clear c3
                              try clear c4
                              try clear p4
                              try clear q4
                              try clear hx4
                              try clear hf4
                              try clear c5
                              try clear p6
                              try clear c10
                              try clear c11
                              try clear c12
                              try clear c17
                              try clear c18
                              try clear c19
                              try clear c21
                              try clear c21b0
                              try clear c21b1
                              try clear c22
                              try clear c23
                              try clear c26
                              try clear c26b0
                              try clear c26b1
                              try clear c27
                              try clear c27b0
                              try clear c28
                              try clear c29
                              try clear c31
                              try clear c33
                              try clear c34
                              try clear c36
                              try clear c37
                              try clear c37b0
                              try clear c38
                              try clear c38b0
                              try clear c38b1
                              try clear c39
                              try clear c39b0
                              try clear c39b1
                              try clear c40
                              try clear c40b0
                              try clear c41
                              try clear c41b0
                              try clear p42
                              try clear q42
                              try clear hx42
                              try clear hf42
                              try clear c43
                              try clear c44
                              try clear hcz13_0
                              try clear hcz13_1
                              try clear hcz20_0
                              try clear hcz20_1
                              try clear hcz24_0
                              try clear hcz24_1
                              try clear hcz30_0
                              try clear hcz30_1
                              try clear hcz32_0
                              try clear hcz32_1
                              try clear hcz35_0
                              try clear hcz35_1
                              try clear hcz45_0
                              try clear hcz45_1
                              try clear hcz9_0
                              try clear hcz9_1
                              try clear hcz9_2
                              try clear hfz13_0
                              try clear hfz13_1
                              try clear hfz20_0
                              try clear hfz20_1
                              try clear hfz24_0
                              try clear hfz24_1
                              try clear hfz30_0
                              try clear hfz30_1
                              try clear hfz32_0
                              try clear hfz32_1
                              try clear hfz35_0
                              try clear hfz35_1
                              try clear hfz45_0
                              try clear hfz45_1
                              try clear hfz9_0
                              try clear hfz9_1
                              try clear hfz9_2
                              try clear hx42_0
                              try clear p2
                              try clear p42
                              try clear p6
                              try clear q42
                              obtain ⟨x8_4, x9_4, rfl, HA, HK4, HO_8, HO_514001, HO_519000, BK507, BK513, BK518, HB⟩ := hrel
                              cases gk with
                              | zero => exact absurd HA.out (by simp [wireloomlaw05_DigraphCycles.l1])
                              | succ k4 =>
                                have H := HA.out
                                clear HA
                                simp only [wireloomlaw05_DigraphCycles.l1] at H
                                by_cases c50 : x9_4 < x6_5
                                · rw [if_pos c50] at H
                                  have c50b0 : decide (x9_4 < x6_5) = true := decide_eq_true c50
                                  clear c50
                                  replace H := Option.bind_eq_some_iff.mp H
                                  obtain ⟨t523, A510, H⟩ := H
                                  replace H : (if 0 ≤ x7_3 then (if x7_3 < (t523.length : Int) then (if rdOf false t523 x7_3 = true then (none) else (wireloomlaw05_DigraphCycles.l1 k4 true x6_5 x7_3 t523 (wrap64 (x9_4 + 1)) t509 t510 t514 t517)) else (none)) else (none)) = some r := H
                                  have A51 := Aside0.mk A510
                                  clear A510
                                  by_cases c52 : 0 ≤ x7_3
                                  · rw [if_pos c52] at H
                                    have c52b0 : decide (0 ≤ x7_3) = true := decide_eq_true c52
                                    clear c52
                                    by_cases c53 : x7_3 < (t523.length : Int)
                                    · rw [if_pos c53] at H
                                      have c53b0 : decide (x7_3 < (t523.length : Int)) = true := decide_eq_true c53
                                      clear c53
                                      obtain ⟨bq54, hbq54⟩ : ∃ b_ : Bool, b_ = (rdOf false t523 x7_3) := ⟨_, rfl⟩
                                      replace H : (if bq54 = true then (none) else (wireloomlaw05_DigraphCycles.l1 k4 true x6_5 x7_3 t523 (wrap64 (x9_4 + 1)) t509 t510 t514 t517)) = some r := by rw [← hbq54] at H; exact H
                                      have Nbq54 := Aside0.mk hbq54
                                      clear hbq54
                                      by_cases c55 : bq54 = true
                                      · subst c55
                                        have H1 : (none) = some r := by rw [if_pos rfl] at H; exact H
                                        clear H
                                        have H := H1
                                        clear H1
                                        exact absurd H (by simp)
                                      · replace c55 := Bool.eq_false_iff.mpr c55
                                        subst c55
                                        have H1 : (wireloomlaw05_DigraphCycles.l1 k4 true x6_5 x7_3 t523 (wrap64 (x9_4 + 1)) t509 t510 t514 t517) = some r := by rw [if_neg (show ¬ (false = true) by decide)] at H; exact H
                                        clear H
                                        have H := H1
                                        clear H1
                                        have H' := Aside0.mk H
                                        clear H
                                        have hnb56 := NB513_507.out
                                        have hnc56 := NB507_513.out
                                        have hnb57 := NB513_518.out
                                        have hnc57 := NB518_513.out
                                        have hcz58_0 : wr.cell? ⟨gb513, 0, none⟩ = some (.int .i64 t509) := (blk_cell BK513.out 0).trans rfl
                                        have hcz58_1 : wr.cell? ⟨gb513, 1, none⟩ = some (.slice Ao14 t510.length co14) := (blk_cell BK513.out 1).trans rfl
                                        have hfz58_0 := blk_frozen BK513.out 0
                                        have hfz58_1 := blk_frozen BK513.out 1
                                        obtain ⟨Ao59, co59, eo59⟩ := Kd.R_slice HO_8.out
                                        subst eo59
                                        go_wp2_with (first | ((with_reducible refine gate_callee (f := 30) rfl ?_); refine goesL_ (some 60) rfl rfl Try.func30 (by kernel_rfl) rfl #[.agg #[.int .i64 t509, .slice Ao14 t510.length co14], .slice Ao59 x8_4.length co59] rfl (by (try simp only [List.map_toArray, List.map_cons, List.map_nil]); first | done | rfl | (simp only [List.length_drop, List.length_take]; rfl)) ?_; (with_reducible refine (wireloomlaw05_walk.calls k4 t509 _ _ t510 _ _ x8_4 t523 _ ?side1 ?side2 ?side3 ?side4 A51.out).mono ?_); (case side1 => repeat (first | exact (Kd.R_reads' HO_514001.out).2.2 | (with_reducible refine Kd.C_alloc ?_ _) | (with_reducible refine Kd.C_drewN ?_ _) | (with_reducible refine Kd.C_drew ?_))); (case side2 => exact (Kd.R_reads' HO_514001.out).2.1); (case side3 => repeat (first | exact (Kd.R_reads' HO_8.out).2.2 | (with_reducible refine Kd.C_alloc ?_ _) | (with_reducible refine Kd.C_drewN ?_ _) | (with_reducible refine Kd.C_drew ?_))); (case side4 => exact (Kd.R_reads' HO_8.out).2.1); rintro e w60 ⟨v524, rfl, ho0, hb⟩; refine ⟨_, rfl, ?_⟩; have n0_ := Aside0.mk (Kd.R_elder' (by (with_reducible repeat (first | apply Kd.R_alloc | apply Kd.R_drewN | apply Kd.R_drew)); exact HO_8.out) (Kd.R_base ho0) hb); have n1_ := Aside0.mk (Kd.R_below (by (with_reducible repeat (first | apply Kd.R_alloc | apply Kd.R_drewN | apply Kd.R_drew)); exact HO_514001.out) hb); have n2_ := Aside0.mk (Kd.R_below (by (with_reducible repeat (first | apply Kd.R_alloc | apply Kd.R_drewN | apply Kd.R_drew)); exact HO_519000.out) hb); have n3_ := Aside0.mk (Kd.R_lower (Kd.R_new' ho0 (Kd.R_lt (by (with_reducible repeat (first | apply Kd.R_alloc | apply Kd.R_drewN | apply Kd.R_drew)); exact HO_8.out))) (below_size (by repeat (first | (with_reducible first | exact HB.out | apply below_alloc | apply pw_below_drewN | apply below_drew1 | refine below_set ?_ GE507.out | refine below_set ?_ GE513.out | refine below_set ?_ GE518.out) | exact HB.out)))); have n4_ := Aside0.mk (blk_below (g := gb507) (o := .cells #[.int .u8 a0_0, .int .u8 a0_1, .slice A0_2 l0_2.length c0_2] 24 (0, 0)) (by (with_reducible repeat (first | refine blk_drewN ?_ _ | refine blk_drew ?_ | refine blk_alloc ?_ _)); exact BK507.out) hb); have n5_ := Aside0.mk (blk_below (g := gb513) (o := .cells #[.int .i64 t509, .slice Ao14 t510.length co14] 31 (0, 0)) (by (with_reducible repeat (first | refine blk_drewN ?_ _ | refine blk_drew ?_ | refine blk_alloc ?_ _)); exact BK513.out) hb); have n6_ := Aside0.mk (blk_below (g := gb518) (o := .cells #[.slice Ao17 t514.length co17, .int .i64 t517] 37 (0, 0)) (by (with_reducible repeat (first | refine blk_drewN ?_ _ | refine blk_drew ?_ | refine blk_alloc ?_ _)); exact BK518.out) hb); have n7_ := Aside0.mk (below_step (by repeat (first | (with_reducible first | exact HB.out | apply below_alloc | apply pw_below_drewN | apply below_drew1 | refine below_set ?_ GE507.out | refine below_set ?_ GE513.out | refine below_set ?_ GE518.out) | exact HB.out)) hb); clear HO_8; clear HO_514001; clear HO_519000; clear BK507; clear BK513; clear BK518; clear HB; have HO_8 := n0_; have HO_514001 := n1_; have HO_519000 := n2_; have HO525 := n3_; have BK507 := n4_; have BK513 := n5_; have BK518 := n6_; have HB := n7_; clear n0_ n1_ n2_ n3_ n4_ n5_ n6_ n7_; (try clear hb); (try clear hb2); (try clear hk); (try clear hi); (try clear ho0); obtain ⟨Ao61, co61, eo61⟩ := Kd.R_slice HO525.out; subst eo61; have p526 : 0 ≤ (x7_3 : Int) := of_decide_eq_true (by first | (with_reducible assumption) | assumption); have q526 : x7_3 < (t523.length : Int) := of_decide_eq_true (by first | (with_reducible assumption) | assumption); obtain ⟨ad526, e526, hx526_0⟩ := Kd.at_bool (Kd.R_reads' HO525.out).2.2 x7_3 p526 q526; (try rw [← Nbq54.out] at hx526_0); cases e526; replace p526 := eq_true p526; replace q526 := eq_true q526))
                                        go_roundg k4
                                        case measure => have := HJ5.out; have := HJ24.out; have := HK3.out; have := HK4.out; omega
                                        case rel => exact ⟨(t523), (wrap64 (x9_4 + 1)), (by first | rfl | (simp; done) | (simp [*]; done)), H', ⟨by have := HJ5.out; have := HJ24.out; have := HK3.out; have := HK4.out; omega⟩, ⟨by (with_reducible repeat (first | apply Kd.R_alloc | apply Kd.R_drewN | apply Kd.R_drew)); exact Kd.R_mono HO525.out (fun _ hk => trivial)⟩, ⟨by (with_reducible repeat (first | apply Kd.R_alloc | apply Kd.R_drewN | apply Kd.R_drew)); exact HO_514001.out⟩, ⟨by (with_reducible repeat (first | apply Kd.R_alloc | apply Kd.R_drewN | apply Kd.R_drew)); exact HO_519000.out⟩, ⟨by (with_reducible repeat (first | refine blk_drewN ?_ _ | refine blk_drew ?_ | refine blk_alloc ?_ _)); exact BK507.out⟩, ⟨by (with_reducible repeat (first | refine blk_drewN ?_ _ | refine blk_drew ?_ | refine blk_alloc ?_ _)); exact BK513.out⟩, ⟨by (with_reducible repeat (first | refine blk_drewN ?_ _ | refine blk_drew ?_ | refine blk_alloc ?_ _)); exact BK518.out⟩, ⟨by repeat (first | (with_reducible first | exact HB.out | apply below_alloc | apply pw_below_drewN | apply below_drew1 | refine below_set ?_ GE507.out | refine below_set ?_ GE513.out | refine below_set ?_ GE518.out) | exact HB.out)⟩⟩
                                    · rw [if_neg c53] at H
                                      exact absurd H (by simp)
                                  · rw [if_neg c52] at H
                                    exact absurd H (by simp)
                                · rw [if_neg c50] at H
                                  have c50b0 : decide (x9_4 < x6_5) = false := decide_eq_false c50
                                  clear c50
                                  have H' := Aside0.mk H
                                  clear H
                                  go_wp2
                                  go_roundg k4
                                  case measure => have := HJ5.out; have := HJ24.out; have := HK3.out; have := HK4.out; omega
                                  case rel => exact ⟨(wrap64 (x7_3 + 1)), (by first | rfl | (simp; done) | (simp [*]; done)), H', ⟨by have := HJ5.out; have := HJ24.out; have := HK3.out; have := HK4.out; omega⟩, ⟨by (with_reducible repeat (first | apply Kd.R_alloc | apply Kd.R_drewN | apply Kd.R_drew)); exact HO_514001.out⟩, ⟨by (with_reducible repeat (first | apply Kd.R_alloc | apply Kd.R_drewN | apply Kd.R_drew)); exact HO_519000.out⟩, ⟨by (with_reducible repeat (first | refine blk_drewN ?_ _ | refine blk_drew ?_ | refine blk_alloc ?_ _)); exact BK507.out⟩, ⟨by (with_reducible repeat (first | refine blk_drewN ?_ _ | refine blk_drew ?_ | refine blk_alloc ?_ _)); exact BK513.out⟩, ⟨by (with_reducible repeat (first | refine blk_drewN ?_ _ | refine blk_drew ?_ | refine blk_alloc ?_ _)); exact BK518.out⟩, ⟨by repeat (first | (with_reducible first | exact HB.out | apply below_alloc | apply pw_below_drewN | apply below_drew1 | refine below_set ?_ GE507.out | refine below_set ?_ GE513.out | refine below_set ?_ GE518.out) | exact HB.out)⟩⟩
                          · rw [if_neg c41] at H
                            exact absurd H (by simp)
                        · rw [if_neg c40] at H
                          exact absurd H (by simp)
                      · rw [if_neg c39] at H
                        exact absurd H (by simp)
                    · rw [if_neg c38] at H
                      exact absurd H (by simp)
                  · rw [if_neg c37] at H
                    have c37b0 : decide (x7_3 < t509) = false := decide_eq_false c37
                    clear c37
                    have H' := Aside0.mk H
                    clear H
                    have hnb62 := NB513_507.out
                    have hnc62 := NB507_513.out
                    have hnb63 := NB513_518.out
                    have hnc63 := NB518_513.out
                    have hcz64_0 : wr.cell? ⟨gb513, 0, none⟩ = some (.int .i64 t509) := (blk_cell BK513.out 0).trans rfl
                    have hcz64_1 : wr.cell? ⟨gb513, 1, none⟩ = some (.slice Ao14 t510.length co14) := (blk_cell BK513.out 1).trans rfl
                    have hfz64_0 := blk_frozen BK513.out 0
                    have hfz64_1 := blk_frozen BK513.out 1
                    go_wp2
                    go_loopg [10] k3 (fun kq v10 w' => ∃ (x10_4 : Int), v10 = .int .i64 x10_4 ∧ Aside0 (wireloomlaw05_DigraphCycles.l2 kq true x10_4 t509 t510 t514 t517 = some r) ∧ Aside0 (kq ≤ k3) ∧ Aside0 (Kd.R k55 55 w' w.heap.size (fun _ => True) (.slice Ao14 t510.length co14) t510) ∧ Aside0 (Kd.R (Kd.int .i64) 3 w' w.heap.size (fun _ => True) (.slice Ao17 t514.length co17) t514) ∧ Aside0 (w'.heap[gb507]? = some (.cells #[.int .u8 a0_0, .int .u8 a0_1, (.slice A0_2 l0_2.length c0_2)] 24 (0, 0))) ∧ Aside0 (w'.heap[gb513]? = some (.cells #[.int .i64 t509, (.slice Ao14 t510.length co14)] 31 (0, 0))) ∧ Aside0 (w'.heap[gb518]? = some (.cells #[(.slice Ao17 t514.length co17), .int .i64 t517] 37 (0, 0))) ∧ Aside0 (Below w.heap.size w w'))
                    case atStart => exact ⟨(0), (by first | rfl | (simp; done) | (simp [*]; done)), H', ⟨Nat.le_refl _⟩, ⟨by (with_reducible repeat (first | apply Kd.R_alloc | apply Kd.R_drewN | apply Kd.R_drew)); exact HO_514001.out⟩, ⟨by (with_reducible repeat (first | apply Kd.R_alloc | apply Kd.R_drewN | apply Kd.R_drew)); exact HO_519000.out⟩, ⟨by (with_reducible repeat (first | refine blk_drewN ?_ _ | refine blk_drew ?_ | refine blk_alloc ?_ _)); exact BK507.out⟩, ⟨by (with_reducible repeat (first | refine blk_drewN ?_ _ | refine blk_drew ?_ | refine blk_alloc ?_ _)); exact BK513.out⟩, ⟨by (with_reducible repeat (first | refine blk_drewN ?_ _ | refine blk_drew ?_ | refine blk_alloc ?_ _)); exact BK518.out⟩, ⟨by repeat (first | (with_reducible first | exact HB.out | apply below_alloc | apply pw_below_drewN | apply below_drew1 | refine below_set ?_ GE507.out | refine below_set ?_ GE513.out | refine below_set ?_ GE518.out) | exact HB.out)⟩⟩
                    case round =>
                      clear H'
                      try clear c1
                      try clear c2
                      try clear p2
                      try clear c3
                      try clear c4
                      try clear p4
                      try clear q4
                      try clear hx4
                      try clear hf4
                      try clear c5
                      try clear p5
                      try clear q5
                      try clear hx5
                      try clear c6
                      try clear p6
                      try clear c10
                      try clear c11
                      try clear c12
                      try clear c17
                      try clear c18
                      try clear c19
                      try clear c21
                      try clear c21b0
                      try clear c21b1
                      try clear c22
                      try clear c23
                      try clear c26
                      try clear c26b0
                      try clear c26b1
                      try clear c27
                      try clear c27b0
                      try clear c28
                      try clear c29
                      try clear c30
                      try clear c31
                      try clear c33
                      try clear c34
                      try clear c36
                      try clear c37
                      try clear c37b0
                      try clear c38
                      try clear c38b0
                      try clear c38b1
                      try clear c39
                      try clear c39b0
                      try clear c39b1
                      try clear c40
                      try clear c40b0
                      try clear c41
                      try clear c41b0
                      try clear p42
                      try clear q42
                      try clear hx42
                      try clear hf42
                      try clear c43
                      try clear c44
                      try clear c50
                      try clear c50b0
                      try clear c52
                      try clear c52b0
                      try clear p52
                      try clear q52
                      try clear hx52
                      try clear c53
                      try clear c53b0
                      try clear q54
                      try clear c55
                      try clear c56
                      try clear c57
                      try clear c62
                      try clear c63
                      try clear p64
                      try clear hcz13_0
                      try clear hcz13_1
                      try clear hcz20_0
                      try clear hcz20_1
                      try clear hcz24_0
                      try clear hcz24_1
                      try clear hcz30_0
                      try clear hcz30_1
                      try clear hcz32_0
                      try clear hcz32_1
                      try clear hcz35_0
                      try clear hcz35_1
                      try clear hcz45_0
                      try clear hcz45_1
                      try clear hcz58_0
                      try clear hcz58_1
                      try clear hcz64_0
                      try clear hcz64_1
                      try clear hcz9_0
                      try clear hcz9_1
                      try clear hcz9_2
                      try clear hfz13_0
                      try clear hfz13_1
                      try clear hfz20_0
                      try clear hfz20_1
                      try clear hfz24_0
                      try clear hfz24_1
                      try clear hfz30_0
                      try clear hfz30_1
                      try clear hfz32_0
                      try clear hfz32_1
                      try clear hfz35_0
                      try clear hfz35_1
                      try clear hfz45_0
                      try clear hfz45_1
                      try clear hfz58_0
                      try clear hfz58_1
                      try clear hfz64_0
                      try clear hfz64_1
                      try clear hfz9_0
                      try clear hfz9_1
                      try clear hfz9_2
                      try clear hx42_0
                      try clear hx526_0
                      try clear p2
                      try clear p4
                      try clear p42
                      try clear p526
                      try clear p6
                      try clear q4
                      try clear q42
                      try clear q526
                      obtain ⟨x10_4, rfl, HA, HK4, HO_514001, HO_519000, BK507, BK513, BK518, HB⟩ := hrel
                      cases gk with
                      | zero => exact absurd HA.out (by simp [wireloomlaw05_DigraphCycles.l2])
                      | succ k4 =>
                        have H := HA.out
                        clear HA
                        simp only [wireloomlaw05_DigraphCycles.l2] at H
                        by_cases c65 : x10_4 < (t514.length : Int)
                        · rw [if_pos c65] at H
                          have c65b0 : decide (x10_4 < (t514.length : Int)) = true := decide_eq_true c65
                          clear c65
                          by_cases c66 : 0 ≤ x10_4
                          · rw [if_pos c66] at H
                            have c66b0 : decide (0 ≤ x10_4) = true := decide_eq_true c66
                            clear c66
                            by_cases c67 : 0 < (t514.length : Int)
                            · rw [if_pos c67] at H
                              have c67b0 : decide (0 < (t514.length : Int)) = true := decide_eq_true c67
                              have c67b1 : decide (0 < t514.length) = true := decide_eq_true (by omega)
                              clear c67
                              by_cases c68 : (rd t514 x10_4) < (rd t514 0)
                              · rw [if_pos c68] at H
                                exact absurd H (by simp)
                              · rw [if_neg c68] at H
                                have c68b0 : decide ((rd t514 x10_4) < (rd t514 0)) = false := decide_eq_false c68
                                clear c68
                                by_cases c69 : (t514.length : Int) = 0
                                · rw [if_pos c69] at H
                                  exact absurd H (by simp)
                                · rw [if_neg c69] at H
                                  have c69b0 : ((t514.length : Int) == 0) = false := beq_eq_false_iff_ne.mpr c69
                                  have c69b1 : ((t514.length : Int) != 0) = true := bne_iff_ne.mpr c69
                                  have c69b2 : ¬ (t514 = []) := fun h_ => c69 (by rw [h_]; rfl)
                                  obtain ⟨ji70, hji70⟩ : ∃ j_ : Int, (Int.tmod (wrap64 (x10_4 + 1)) (t514.length : Int)) = j_ := ⟨_, rfl⟩
                                  replace H : (if 0 ≤ (ji70) then (if (ji70) < (t514.length : Int) then ((wireloomlaw05_edge.f k4 t510 (rd t514 x10_4) (rd t514 (ji70))).bind fun t531 => (if t531 = true then (wireloomlaw05_DigraphCycles.l3 k4 true x10_4 0 t509 t510 t514 t517) else (none))) else (none)) else (none)) = some r := by first | (rw [hji70] at H; exact H) | (simp only [hji70] at H ⊢; exact H)
                                  by_cases c71 : 0 ≤ (ji70)
                                  · rw [if_pos c71] at H
                                    have c71b0 : decide (0 ≤ (ji70)) = true := decide_eq_true c71
                                    clear c71
                                    by_cases c72 : (ji70) < (t514.length : Int)
                                    · rw [if_pos c72] at H
                                      have c72b0 : decide ((ji70) < (t514.length : Int)) = true := decide_eq_true c72
                                      clear c72
                                      replace H := Option.bind_eq_some_iff.mp H
                                      obtain ⟨t531, A730, H⟩ := H
                                      replace H : (if t531 = true then (wireloomlaw05_DigraphCycles.l3 k4 true x10_4 0 t509 t510 t514 t517) else (none)) = some r := H
                                      have A73 := Aside0.mk A730
                                      clear A730
                                      by_cases c74 : t531 = true
                                      · subst c74
                                        have H1 : (wireloomlaw05_DigraphCycles.l3 k4 true x10_4 0 t509 t510 t514 t517) = some r := by rw [if_pos rfl] at H; exact H
                                        clear H
                                        have H := H1
                                        clear H1
                                        have H' := Aside0.mk H
                                        clear H
                                        have hnb75 := NB518_507.out
                                        have hnc75 := NB507_518.out
                                        have hnb76 := NB518_513.out
                                        have hnc76 := NB513_518.out
                                        have hcz77_0 : wr.cell? ⟨gb518, 0, none⟩ = some (.slice Ao17 t514.length co17) := (blk_cell BK518.out 0).trans rfl
                                        have hcz77_1 : wr.cell? ⟨gb518, 1, none⟩ = some (.int .i64 t517) := (blk_cell BK518.out 1).trans rfl
                                        have hfz77_0 := blk_frozen BK518.out 0
                                        have hfz77_1 := blk_frozen BK518.out 1
                                        try go_wp2
                                        have n0_ := Aside0.mk (Kd.R_drew HO_514001.out)
                                        have n1_ := Aside0.mk (Kd.R_drew HO_519000.out)
                                        have n2_ := Aside0.mk (blk_drew BK507.out)
                                        have n3_ := Aside0.mk (blk_drew BK513.out)
                                        have n4_ := Aside0.mk (blk_drew BK518.out)
                                        have n5_ := Aside0.mk (below_drew1 HB.out)
                                        clear HO_514001
                                        clear HO_519000
                                        clear BK507
                                        clear BK513
                                        clear BK518
                                        clear HB
                                        have HO_514001 := n0_
                                        have HO_519000 := n1_
                                        have BK507 := n2_
                                        have BK513 := n3_
                                        have BK518 := n4_
                                        have HB := n5_
                                        clear n0_ n1_ n2_ n3_ n4_ n5_
                                        have p527 : 0 ≤ (x10_4 : Int) := of_decide_eq_true (by first | (with_reducible assumption) | assumption)
                                        have q527 : x10_4 < (t514.length : Int) := of_decide_eq_true (by first | (with_reducible assumption) | assumption)
                                        obtain ⟨ad527, e527, hx527_0⟩ := Kd.at_int (Kd.R_reads' HO_519000.out).2.2 x10_4 p527 q527
                                        cases e527
                                        replace p527 := eq_true p527
                                        replace q527 := eq_true q527
                                        have p528 : 0 ≤ (0 : Int) := (by omega)
                                        have q528 : 0 < (t514.length : Int) := of_decide_eq_true (by first | (with_reducible assumption) | assumption)
                                        obtain ⟨ad528, e528, hx528_0⟩ := Kd.at_int (Kd.R_reads' HO_519000.out).2.2 0 p528 q528
                                        obtain rfl : ad527 = ad528 := (by injection e528)
                                        have qi528 : (0 < t514.length) = True := eq_true (by omega)
                                        (try rw [show ((0 : Int)).toNat = 0 from rfl] at hx528_0)
                                        (try rw [Addr.add_zero'] at hx528_0)
                                        replace p528 := eq_true p528
                                        replace q528 := eq_true q528
                                        have p529 : 0 ≤ (x10_4 : Int) := of_decide_eq_true (by first | (with_reducible assumption) | assumption)
                                        have q529 : x10_4 < (t514.length : Int) := of_decide_eq_true (by first | (with_reducible assumption) | assumption)
                                        obtain ⟨ad529, e529, hx529_0⟩ := Kd.at_int (Kd.R_reads' HO_519000.out).2.2 x10_4 p529 q529
                                        obtain rfl : ad527 = ad529 := (by injection e529)
                                        replace p529 := eq_true p529
                                        replace q529 := eq_true q529
                                        have p530 : 0 ≤ ((ji70) : Int) := of_decide_eq_true (by first | (with_reducible assumption) | assumption)
                                        have q530 : (ji70) < (t514.length : Int) := of_decide_eq_true (by first | (with_reducible assumption) | assumption)
                                        obtain ⟨ad530, e530, hx530_0⟩ := Kd.at_int (Kd.R_reads' HO_519000.out).2.2 (ji70) p530 q530
                                        obtain rfl : ad527 = ad530 := (by injection e530)
                                        replace p530 := eq_true p530
                                        replace q530 := eq_true q530
                                        refine start_ (n := 31) (S := fun w' => w'.cell? ⟨gb518, 0, none⟩ = some (.slice (some ad527) t514.length co17) ∧ w'.cell? ⟨gb518, 1, none⟩ = some (.int .i64 t517) ∧ w'.cell? ⟨gb513, 0, none⟩ = some (.int .i64 t509) ∧ w'.cell? ⟨gb513, 1, none⟩ = some (.slice Ao14 t510.length co14) ∧ w'.cell? (ad527.add (x10_4).toNat) = some (.int .i64 (rd t514 x10_4)) ∧ w'.cell? ad527 = some (.int .i64 (rd t514 0)) ∧ w'.cell? (ad527.add (x10_4).toNat) = some (.int .i64 (rd t514 x10_4)) ∧ w'.cell? (ad527.add ((ji70)).toNat) = some (.int .i64 (rd t514 (ji70)))) (ds := []) #[false, false, false, false, false, false, false, false, false, false, false, false, false, false, false, false, false, false, false, false, false, false, false, false, false, false, false, false, false, false, false] (by kernel_rfl) rfl rfl ⟨(blk_cell BK518.out 0).trans rfl, (blk_cell BK518.out 1).trans rfl, (blk_cell BK513.out 0).trans rfl, (blk_cell BK513.out 1).trans rfl, hx527_0, hx528_0, hx529_0, hx530_0⟩ (fun hHeld => ?_); refine with_tabW wireloomlaw05_DigraphCycles.tab25 wireloomlaw05_DigraphCycles.bits25 (fun HT_ HW_ => ?_)
                                        generalize wr.drew = w78 at HO_514001 HO_519000 BK507 BK513 BK518 HB hx527_0 hx528_0 hx529_0 hx530_0 hHeld ⊢
                                        refine pure_ (i := 0) (N := some 72) (v := ?_) (a' := ?_) #[true, false, false, false, false, false, false, false, false, false, false, false, false, false, false, false, false, false, false, false, false, false, false, false, false, false, false, false, false, false, false] rfl rfl (any_of HT_.out (by kernel_rfl)) (fun _ _ _ h => h) (Or.inl ⟨by rfl, ?_⟩) ?_ ?_
                                        rotate_left
                                        · intro w'
                                          go_simp
                                          with_reducible rfl
                                        rotate_left
                                        · simp only [Act.put, List.setIfInBounds_toArray, List.set_cons_zero, List.set_cons_succ, i64_w, i32_w]
                                          rfl
                                        refine pure_ (i := 2) (N := some 74) (v := ?_) (a' := ?_) #[true, false, true, false, false, false, false, false, false, false, false, false, false, false, false, false, false, false, false, false, false, false, false, false, false, false, false, false, false, false, false] rfl rfl (any_of HT_.out (by kernel_rfl)) (fun _ _ _ h => h) (Or.inl ⟨by rfl, ?_⟩) ?_ ?_
                                        rotate_left
                                        · intro w'
                                          go_simp
                                          with_reducible rfl
                                        rotate_left
                                        · simp only [Act.put, List.setIfInBounds_toArray, List.set_cons_zero, List.set_cons_succ, i64_w, i32_w]
                                          rfl
                                        refine pure_ (i := 5) (N := some 77) (v := ?_) (a' := ?_) #[true, false, true, false, false, true, false, false, false, false, false, false, false, false, false, false, false, false, false, false, false, false, false, false, false, false, false, false, false, false, false] rfl rfl (any_of HT_.out (by kernel_rfl)) (fun _ _ _ h => h) (Or.inl ⟨by rfl, ?_⟩) ?_ ?_
                                        rotate_left
                                        · intro w'
                                          go_simp
                                          with_reducible rfl
                                        rotate_left
                                        · simp only [Act.put, List.setIfInBounds_toArray, List.set_cons_zero, List.set_cons_succ, i64_w, i32_w]
                                          rfl
                                        refine take_ (i := 1) (N := some 73) (v := ?_) (a' := ?_) #[true, true, true, false, false, true, false, false, false, false, false, false, false, false, false, false, false, false, false, false, false, false, false, false, false, false, false, false, false, false, false] rfl rfl (take_ofW HT_.out HW_.out (by kernel_rfl)) (fun _ _ _ h => h) (Or.inl ⟨by rfl, ?_⟩) hHeld ?_ ?_
                                        rotate_left
                                        · rintro w' ⟨s0, s1, s2, s3, s4, s5, s6, s7⟩
                                          go_simp
                                          with_reducible rfl
                                        rotate_left
                                        · simp only [Act.put, List.setIfInBounds_toArray, List.set_cons_zero, List.set_cons_succ, i64_w, i32_w]
                                          rfl
                                        refine pure_ (i := 3) (N := some 75) (v := ?_) (a' := ?_) #[true, true, true, true, false, true, false, false, false, false, false, false, false, false, false, false, false, false, false, false, false, false, false, false, false, false, false, false, false, false, false] rfl rfl (any_of HT_.out (by kernel_rfl)) (fun _ _ _ h => h) (Or.inl ⟨by rfl, ?_⟩) ?_ ?_
                                        rotate_left
                                        · intro w'
                                          go_simp
                                          with_reducible rfl
                                        rotate_left
                                        · simp only [Act.put, List.setIfInBounds_toArray, List.set_cons_zero, List.set_cons_succ, i64_w, i32_w]
                                          rfl
                                        refine take_ (i := 4) (N := some 76) (v := ?_) (a' := ?_) #[true, true, true, true, true, true, false, false, false, false, false, false, false, false, false, false, false, false, false, false, false, false, false, false, false, false, false, false, false, false, false] rfl rfl (take_ofW HT_.out HW_.out (by kernel_rfl)) (fun _ _ _ h => h) (Or.inl ⟨by rfl, ?_⟩) hHeld ?_ ?_
                                        rotate_left
                                        · rintro w' ⟨s0, s1, s2, s3, s4, s5, s6, s7⟩
                                          go_simp
                                          with_reducible rfl
                                        rotate_left
                                        · simp only [Act.put, List.setIfInBounds_toArray, List.set_cons_zero, List.set_cons_succ, i64_w, i32_w]
                                          rfl
                                        refine take_ (i := 6) (N := some 78) (v := ?_) (a' := ?_) #[true, true, true, true, true, true, true, false, false, false, false, false, false, false, false, false, false, false, false, false, false, false, false, false, false, false, false, false, false, false, false] rfl rfl (take_ofW HT_.out HW_.out (by kernel_rfl)) (fun _ _ _ h => h) (Or.inl ⟨by rfl, ?_⟩) hHeld ?_ ?_
                                        rotate_left
                                        · rintro w' ⟨s0, s1, s2, s3, s4, s5, s6, s7⟩
                                          go_simp
                                          with_reducible rfl
                                        rotate_left
                                        · simp only [Act.put, List.setIfInBounds_toArray, List.set_cons_zero, List.set_cons_succ, i64_w, i32_w]
                                          rfl
                                        refine pure_ (i := 7) (N := some 79) (v := ?_) (a' := ?_) #[true, true, true, true, true, true, true, true, false, false, false, false, false, false, false, false, false, false, false, false, false, false, false, false, false, false, false, false, false, false, false] rfl rfl (any_of HT_.out (by kernel_rfl)) (fun _ _ _ h => h) (Or.inl ⟨by rfl, ?_⟩) ?_ ?_
                                        rotate_left
                                        · intro w'
                                          go_simp
                                          with_reducible rfl
                                        rotate_left
                                        · simp only [Act.put, List.setIfInBounds_toArray, List.set_cons_zero, List.set_cons_succ, i64_w, i32_w]
                                          rfl
                                        refine take_ (i := 8) (N := some 80) (v := ?_) (a' := ?_) #[true, true, true, true, true, true, true, true, true, false, false, false, false, false, false, false, false, false, false, false, false, false, false, false, false, false, false, false, false, false, false] rfl rfl (take_ofW HT_.out HW_.out (by kernel_rfl)) (fun _ _ _ h => h) (Or.inl ⟨by rfl, ?_⟩) hHeld ?_ ?_
                                        rotate_left
                                        · rintro w' ⟨s0, s1, s2, s3, s4, s5, s6, s7⟩
                                          go_simp
                                          with_reducible rfl
                                        rotate_left
                                        · simp only [Act.put, List.setIfInBounds_toArray, List.set_cons_zero, List.set_cons_succ, i64_w, i32_w]
                                          rfl
                                        refine pure_ (i := 9) (N := some 81) (v := ?_) (a' := ?_) #[true, true, true, true, true, true, true, true, true, true, false, false, false, false, false, false, false, false, false, false, false, false, false, false, false, false, false, false, false, false, false] rfl rfl (any_of HT_.out (by kernel_rfl)) (fun _ _ _ h => h) (Or.inl ⟨by rfl, ?_⟩) ?_ ?_
                                        rotate_left
                                        · intro w'
                                          go_simp
                                          with_reducible rfl
                                        rotate_left
                                        · simp only [Act.put, List.setIfInBounds_toArray, List.set_cons_zero, List.set_cons_succ, i64_w, i32_w]
                                          rfl
                                        refine pure_ (i := 10) (N := some 82) (v := ?_) (a' := ?_) #[true, true, true, true, true, true, true, true, true, true, true, false, false, false, false, false, false, false, false, false, false, false, false, false, false, false, false, false, false, false, false] rfl rfl (any_of HT_.out (by kernel_rfl)) (fun _ _ _ h => h) (Or.inl ⟨by rfl, ?_⟩) ?_ ?_
                                        rotate_left
                                        · intro w'
                                          go_simp
                                          with_reducible rfl
                                        rotate_left
                                        · simp only [Act.put, List.setIfInBounds_toArray, List.set_cons_zero, List.set_cons_succ, i64_w, i32_w]
                                          rfl
                                        refine pure_ (i := 11) (N := some 83) (v := ?_) (a' := ?_) #[true, true, true, true, true, true, true, true, true, true, true, true, false, false, false, false, false, false, false, false, false, false, false, false, false, false, false, false, false, false, false] rfl rfl (any_of HT_.out (by kernel_rfl)) (fun _ _ _ h => h) (Or.inl ⟨by rfl, ?_⟩) ?_ ?_
                                        rotate_left
                                        · intro w'
                                          go_simp
                                          with_reducible rfl
                                        rotate_left
                                        · simp only [Act.put, List.setIfInBounds_toArray, List.set_cons_zero, List.set_cons_succ, i64_w, i32_w]
                                          rfl
                                        refine pure_ (i := 13) (N := some 85) (v := ?_) (a' := ?_) #[true, true, true, true, true, true, true, true, true, true, true, true, false, true, false, false, false, false, false, false, false, false, false, false, false, false, false, false, false, false, false] rfl rfl (any_of HT_.out (by kernel_rfl)) (fun _ _ _ h => h) (Or.inl ⟨by rfl, ?_⟩) ?_ ?_
                                        rotate_left
                                        · intro w'
                                          go_simp
                                          with_reducible rfl
                                        rotate_left
                                        · simp only [Act.put, List.setIfInBounds_toArray, List.set_cons_zero, List.set_cons_succ, i64_w, i32_w]
                                          rfl
                                        refine pure_ (i := 15) (N := some 87) (v := ?_) (a' := ?_) #[true, true, true, true, true, true, true, true, true, true, true, true, false, true, false, true, false, false, false, false, false, false, false, false, false, false, false, false, false, false, false] rfl rfl (any_of HT_.out (by kernel_rfl)) (fun _ _ _ h => h) (Or.inl ⟨by rfl, ?_⟩) ?_ ?_
                                        rotate_left
                                        · intro w'
                                          go_simp
                                          with_reducible rfl
                                        rotate_left
                                        · simp only [Act.put, List.setIfInBounds_toArray, List.set_cons_zero, List.set_cons_succ, i64_w, i32_w]
                                          rfl
                                        refine pure_ (i := 18) (N := some 90) (v := ?_) (a' := ?_) #[true, true, true, true, true, true, true, true, true, true, true, true, false, true, false, true, false, false, true, false, false, false, false, false, false, false, false, false, false, false, false] rfl rfl (any_of HT_.out (by kernel_rfl)) (fun _ _ _ h => h) (Or.inl ⟨by rfl, ?_⟩) ?_ ?_
                                        rotate_left
                                        · intro w'
                                          go_simp
                                          with_reducible rfl
                                        rotate_left
                                        · simp only [Act.put, List.setIfInBounds_toArray, List.set_cons_zero, List.set_cons_succ, i64_w, i32_w]
                                          rfl
                                        refine pure_ (i := 20) (N := some 92) (v := ?_) (a' := ?_) #[true, true, true, true, true, true, true, true, true, true, true, true, false, true, false, true, false, false, true, false, true, false, false, false, false, false, false, false, false, false, false] rfl rfl (any_of HT_.out (by kernel_rfl)) (fun _ _ _ h => h) (Or.inl ⟨by rfl, ?_⟩) ?_ ?_
                                        rotate_left
                                        · intro w'
                                          go_simp
                                          with_reducible rfl
                                        rotate_left
                                        · simp only [Act.put, List.setIfInBounds_toArray, List.set_cons_zero, List.set_cons_succ, i64_w, i32_w]
                                          rfl
                                        refine pure_ (i := 21) (N := some 93) (v := ?_) (a' := ?_) #[true, true, true, true, true, true, true, true, true, true, true, true, false, true, false, true, false, false, true, false, true, true, false, false, false, false, false, false, false, false, false] rfl rfl (any_of HT_.out (by kernel_rfl)) (fun _ _ _ h => h) (Or.inl ⟨by rfl, ?_⟩) ?_ ?_
                                        rotate_left
                                        · intro w'
                                          go_simp
                                          with_reducible rfl
                                        rotate_left
                                        · simp only [Act.put, List.setIfInBounds_toArray, List.set_cons_zero, List.set_cons_succ, i64_w, i32_w]
                                          rfl
                                        refine pure_ (i := 22) (N := some 94) (v := ?_) (a' := ?_) #[true, true, true, true, true, true, true, true, true, true, true, true, false, true, false, true, false, false, true, false, true, true, true, false, false, false, false, false, false, false, false] rfl rfl (any_of HT_.out (by kernel_rfl)) (fun _ _ _ h => h) (Or.inl ⟨by rfl, ?_⟩) ?_ ?_
                                        rotate_left
                                        · intro w'
                                          go_simp
                                          with_reducible rfl
                                        rotate_left
                                        · simp only [Act.put, List.setIfInBounds_toArray, List.set_cons_zero, List.set_cons_succ, i64_w, i32_w]
                                          rfl
                                        refine take_ (i := 12) (N := some 84) (v := ?_) (a' := ?_) #[true, true, true, true, true, true, true, true, true, true, true, true, true, true, false, true, false, false, true, false, true, true, true, false, false, false, false, false, false, false, false] rfl rfl (take_ofW HT_.out HW_.out (by kernel_rfl)) (fun _ _ _ h => h) (Or.inl ⟨by rfl, ?_⟩) hHeld ?_ ?_
                                        rotate_left
                                        · rintro w' ⟨s0, s1, s2, s3, s4, s5, s6, s7⟩
                                          go_simp
                                          with_reducible rfl
                                        rotate_left
                                        · simp only [Act.put, List.setIfInBounds_toArray, List.set_cons_zero, List.set_cons_succ, i64_w, i32_w]
                                          rfl
                                        refine take_ (i := 14) (N := some 86) (v := ?_) (a' := ?_) #[true, true, true, true, true, true, true, true, true, true, true, true, true, true, true, true, false, false, true, false, true, true, true, false, false, false, false, false, false, false, false] rfl rfl (take_ofW HT_.out HW_.out (by kernel_rfl)) (fun _ _ _ h => h) (Or.inl ⟨by rfl, ?_⟩) hHeld ?_ ?_
                                        rotate_left
                                        · rintro w' ⟨s0, s1, s2, s3, s4, s5, s6, s7⟩
                                          go_simp
                                          with_reducible rfl
                                        rotate_left
                                        · simp only [Act.put, List.setIfInBounds_toArray, List.set_cons_zero, List.set_cons_succ, i64_w, i32_w]
                                          rfl
                                        refine pure_ (i := 16) (N := some 88) (v := ?_) (a' := ?_) #[true, true, true, true, true, true, true, true, true, true, true, true, true, true, true, true, true, false, true, false, true, true, true, false, false, false, false, false, false, false, false] rfl rfl (any_of HT_.out (by kernel_rfl)) (fun _ _ _ h => h) (Or.inl ⟨by rfl, ?_⟩) ?_ ?_
                                        rotate_left
                                        · intro w'
                                          go_simp
                                          with_reducible rfl
                                        rotate_left
                                        · simp only [Act.put, List.setIfInBounds_toArray, List.set_cons_zero, List.set_cons_succ, i64_w, i32_w]
                                          rfl
                                        refine take_ (i := 17) (N := some 89) (v := ?_) (a' := ?_) #[true, true, true, true, true, true, true, true, true, true, true, true, true, true, true, true, true, true, true, false, true, true, true, false, false, false, false, false, false, false, false] rfl rfl (take_ofW HT_.out HW_.out (by kernel_rfl)) (fun _ _ _ h => h) (Or.inl ⟨by rfl, ?_⟩) hHeld ?_ ?_
                                        rotate_left
                                        · rintro w' ⟨s0, s1, s2, s3, s4, s5, s6, s7⟩
                                          go_simp
                                          with_reducible rfl
                                        rotate_left
                                        · simp only [Act.put, List.setIfInBounds_toArray, List.set_cons_zero, List.set_cons_succ, i64_w, i32_w]
                                          rfl
                                        refine take_ (i := 19) (N := some 91) (v := ?_) (a' := ?_) #[true, true, true, true, true, true, true, true, true, true, true, true, true, true, true, true, true, true, true, true, true, true, true, false, false, false, false, false, false, false, false] rfl rfl (take_ofW HT_.out HW_.out (by kernel_rfl)) (fun _ _ _ h => h) (Or.inl ⟨by rfl, ?_⟩) hHeld ?_ ?_
                                        rotate_left
                                        · rintro w' ⟨s0, s1, s2, s3, s4, s5, s6, s7⟩
                                          go_simp
                                          with_reducible rfl
                                        rotate_left
                                        · simp only [Act.put, List.setIfInBounds_toArray, List.set_cons_zero, List.set_cons_succ, i64_w, i32_w]
                                          rfl
                                        refine take_ (i := 23) (N := some 95) (v := ?_) (a' := ?_) #[true, true, true, true, true, true, true, true, true, true, true, true, true, true, true, true, true, true, true, true, true, true, true, true, false, false, false, false, false, false, false] rfl rfl (take_ofW HT_.out HW_.out (by kernel_rfl)) (fun _ _ _ h => h) (Or.inl ⟨by rfl, ?_⟩) hHeld ?_ ?_
                                        rotate_left
                                        · rintro w' ⟨s0, s1, s2, s3, s4, s5, s6, s7⟩
                                          go_simp
                                          with_reducible rfl
                                        rotate_left
                                        · simp only [Act.put, List.setIfInBounds_toArray, List.set_cons_zero, List.set_cons_succ, i64_w, i32_w]
                                          rfl
                                        refine pure_ (i := 24) (N := some 96) (v := ?_) (a' := ?_) #[true, true, true, true, true, true, true, true, true, true, true, true, true, true, true, true, true, true, true, true, true, true, true, true, true, false, false, false, false, false, false] rfl rfl (any_of HT_.out (by kernel_rfl)) (fun _ _ _ h => h) (Or.inl ⟨by rfl, ?_⟩) ?_ ?_
                                        rotate_left
                                        · intro w'
                                          go_simp
                                          with_reducible rfl
                                        rotate_left
                                        · simp only [Act.put, List.setIfInBounds_toArray, List.set_cons_zero, List.set_cons_succ, i64_w, i32_w]
                                          rfl
                                        refine pure_ (i := 25) (N := some 97) (v := ?_) (a' := ?_) #[true, true, true, true, true, true, true, true, true, true, true, true, true, true, true, true, true, true, true, true, true, true, true, true, true, true, false, false, false, false, false] rfl rfl (any_of HT_.out (by kernel_rfl)) (fun _ _ _ h => h) (Or.inl ⟨by rfl, ?_⟩) ?_ ?_
                                        rotate_left
                                        · intro w'
                                          go_simp
                                          with_reducible rfl
                                        rotate_left
                                        · simp only [Act.put, List.setIfInBounds_toArray, List.set_cons_zero, List.set_cons_succ, i64_w, i32_w]
                                          rfl
                                        refine pure_ (i := 26) (N := some 98) (v := ?_) (a' := ?_) #[true, true, true, true, true, true, true, true, true, true, true, true, true, true, true, true, true, true, true, true, true, true, true, true, true, true, true, false, false, false, false] rfl rfl (any_of HT_.out (by kernel_rfl)) (fun _ _ _ h => h) (Or.inl ⟨by rfl, ?_⟩) ?_ ?_
                                        rotate_left
                                        · intro w'
                                          go_simp
                                          with_reducible rfl
                                        rotate_left
                                        · simp only [Act.put, List.setIfInBounds_toArray, List.set_cons_zero, List.set_cons_succ, i64_w, i32_w]
                                          rfl
                                        refine take_ (i := 27) (N := some 99) (v := ?_) (a' := ?_) #[true, true, true, true, true, true, true, true, true, true, true, true, true, true, true, true, true, true, true, true, true, true, true, true, true, true, true, true, false, false, false] rfl rfl (take_ofW HT_.out HW_.out (by kernel_rfl)) (fun _ _ _ h => h) (Or.inl ⟨by rfl, ?_⟩) hHeld ?_ ?_
                                        rotate_left
                                        · rintro w' ⟨s0, s1, s2, s3, s4, s5, s6, s7⟩
                                          go_simp
                                          with_reducible rfl
                                        rotate_left
                                        · simp only [Act.put, List.setIfInBounds_toArray, List.set_cons_zero, List.set_cons_succ, i64_w, i32_w]
                                          rfl
                                        refine one_ (i := 28) (N := some 100) #[true, true, true, true, true, true, true, true, true, true, true, true, true, true, true, true, true, true, true, true, true, true, true, true, true, true, true, true, true, false, false] rfl rfl (one_of HT_.out (by kernel_rfl)) (by decide) (fun K hK => ?_)
                                        refine goes_ Try.func29 (by kernel_rfl) rfl #[.slice Ao14 t510.length co14, .int .i64 (rd t514 x10_4), .int .i64 (rd t514 (ji70))] (by rfl) rfl rfl (by (try simp only [List.map_toArray, List.map_cons, List.map_nil]); first | done | (simp only [hji70]; rfl) | rfl | (simp only [List.length_drop, List.length_take]; rfl)) ?_
                                        with_reducible refine (wireloomlaw05_edge.calls k4 _ _ t510 (rd t514 x10_4) (rd t514 (ji70)) true _ ?side1 ?side2 A73.out).mono ?_
                                        (case side1 => repeat (first | exact (Kd.R_reads' HO_514001.out).2.2 | (with_reducible refine Kd.C_alloc ?_ _) | (with_reducible refine Kd.C_drewN ?_ _) | (with_reducible refine Kd.C_drew ?_)))
                                        (case side2 => exact (Kd.R_reads' HO_514001.out).2.1)
                                        rintro e w' ⟨rfl, ⟨nd, rfl⟩⟩
                                        refine ⟨_, rfl, ?_⟩
                                        refine hK.out _ _ ⟨(blk_cell BK518.out 0).trans rfl, (blk_cell BK518.out 1).trans rfl, (blk_cell BK513.out 0).trans rfl, (blk_cell BK513.out 1).trans rfl, hHeld.2.2.2.2.1, hHeld.2.2.2.2.2.1, hHeld.2.2.2.2.2.2.1, hHeld.2.2.2.2.2.2.2⟩ (fun hHeld => ?_)
                                        clear hK K
                                        refine norm_ (a' := ?_) ?_ ?_
                                        rotate_left
                                        · show Act.put _ (some 100) _ = _
                                          simp only [Act.put, List.setIfInBounds_toArray, List.set_cons_zero, List.set_cons_succ, i64_w, i32_w]
                                          rfl
                                        refine pure_ (i := 29) (N := some 101) (v := ?_) (a' := ?_) #[true, true, true, true, true, true, true, true, true, true, true, true, true, true, true, true, true, true, true, true, true, true, true, true, true, true, true, true, true, true, false] rfl rfl (any_of HT_.out (by kernel_rfl)) (fun _ _ _ h => h) (Or.inl ⟨by rfl, ?_⟩) ?_ ?_
                                        rotate_left
                                        · intro w'
                                          go_simp
                                          with_reducible rfl
                                        rotate_left
                                        · simp only [Act.put, List.setIfInBounds_toArray, List.set_cons_zero, List.set_cons_succ, i64_w, i32_w]
                                          rfl
                                        refine pure_ (i := 30) (N := some 102) (v := ?_) (a' := ?_) #[true, true, true, true, true, true, true, true, true, true, true, true, true, true, true, true, true, true, true, true, true, true, true, true, true, true, true, true, true, true, true] rfl rfl (any_of HT_.out (by kernel_rfl)) (fun _ _ _ h => h) (Or.inl ⟨by rfl, ?_⟩) ?_ ?_
                                        rotate_left
                                        · intro w'
                                          go_simp
                                          with_reducible rfl
                                        rotate_left
                                        · simp only [Act.put, List.setIfInBounds_toArray, List.set_cons_zero, List.set_cons_succ, i64_w, i32_w]
                                          rfl
                                        refine done_ (done_of HT_.out (by kernel_rfl)) ?_
                                        try go_wp2
                                        go_loopg [11] k4 (fun kq v11 w' => ∃ (x11_5 : Int), v11 = .int .i64 x11_5 ∧ Aside0 (wireloomlaw05_DigraphCycles.l3 kq true x10_4 x11_5 t509 t510 t514 t517 = some r) ∧ Aside0 (kq ≤ k4) ∧ Aside0 (Kd.R k55 55 w' w.heap.size (fun _ => True) (.slice Ao14 t510.length co14) t510) ∧ Aside0 (Kd.R (Kd.int .i64) 3 w' w.heap.size (fun _ => True) (.slice (some ad527) t514.length co17) t514) ∧ Aside0 (w'.heap[gb507]? = some (.cells #[.int .u8 a0_0, .int .u8 a0_1, (.slice A0_2 l0_2.length c0_2)] 24 (0, 0))) ∧ Aside0 (w'.heap[gb513]? = some (.cells #[.int .i64 t509, (.slice Ao14 t510.length co14)] 31 (0, 0))) ∧ Aside0 (w'.heap[gb518]? = some (.cells #[(.slice (some ad527) t514.length co17), .int .i64 t517] 37 (0, 0))) ∧ Aside0 (Below w.heap.size w w'))
                                        case atStart => exact ⟨(0), (by first | rfl | (simp; done) | (simp [*]; done)), H', ⟨Nat.le_refl _⟩, ⟨by (with_reducible repeat (first | apply Kd.R_alloc | apply Kd.R_drewN | apply Kd.R_drew)); exact HO_514001.out⟩, ⟨by (with_reducible repeat (first | apply Kd.R_alloc | apply Kd.R_drewN | apply Kd.R_drew)); exact HO_519000.out⟩, ⟨by (with_reducible repeat (first | refine blk_drewN ?_ _ | refine blk_drew ?_ | refine blk_alloc ?_ _)); exact BK507.out⟩, ⟨by (with_reducible repeat (first | refine blk_drewN ?_ _ | refine blk_drew ?_ | refine blk_alloc ?_ _)); exact BK513.out⟩, ⟨by (with_reducible repeat (first | refine blk_drewN ?_ _ | refine blk_drew ?_ | refine blk_alloc ?_ _)); exact BK518.out⟩, ⟨by repeat (first | (with_reducible first | exact HB.out | apply below_alloc | apply pw_below_drewN | apply below_drew1 | refine below_set ?_ GE507.out | refine below_set ?_ GE513.out | refine below_set ?_ GE518.out) | exact HB.out)⟩⟩
                                        case round =>
                                          clear H'
                                          try clear c1
                                          try clear c2
                                          try clear p2
                                          try clear c3
                                          try clear c4
                                          try clear p4
                                          try clear q4
                                          try clear hx4
                                          try clear hf4
                                          try clear c5
                                          try clear p5
                                          try clear q5
                                          try clear hx5
                                          try clear qi5
                                          try clear c6
                                          try clear p6
                                          try clear c7
                                          try clear c10
                                          try clear c11
                                          try clear c12
                                          try clear c17
                                          try clear c18
                                          try clear c19
                                          try clear c21
                                          try clear c21b0
                                          try clear c21b1
                                          try clear c22
                                          try clear c23
                                          try clear c26
                                          try clear c26b0
                                          try clear c26b1
                                          try clear c27
                                          try clear c27b0
                                          try clear c28
                                          try clear c29
                                          try clear c30
                                          try clear c31
                                          try clear c33
                                          try clear c34
                                          try clear c36
                                          try clear c37
                                          try clear c37b0
                                          try clear c38
                                          try clear c38b0
                                          try clear c38b1
                                          try clear c39
                                          try clear c39b0
                                          try clear c39b1
                                          try clear c40
                                          try clear c40b0
                                          try clear c41
                                          try clear c41b0
                                          try clear p42
                                          try clear q42
                                          try clear hx42
                                          try clear hf42
                                          try clear c43
                                          try clear c44
                                          try clear c50
                                          try clear c50b0
                                          try clear c52
                                          try clear c52b0
                                          try clear p52
                                          try clear q52
                                          try clear hx52
                                          try clear qi52
                                          try clear c53
                                          try clear c53b0
                                          try clear p53
                                          try clear q53
                                          try clear hx53
                                          try clear q54
                                          try clear c55
                                          try clear c56
                                          try clear c57
                                          try clear c62
                                          try clear c63
                                          try clear p64
                                          try clear c65
                                          try clear c65b0
                                          try clear c66
                                          try clear c66b0
                                          try clear c67
                                          try clear c67b0
                                          try clear c67b1
                                          try clear c68
                                          try clear c68b0
                                          try clear c69
                                          try clear c69b0
                                          try clear c69b1
                                          try clear c69b2
                                          try clear c71
                                          try clear c71b0
                                          try clear c72
                                          try clear c72b0
                                          try clear c74
                                          try clear c75
                                          try clear c76
                                          try clear hcz13_0
                                          try clear hcz13_1
                                          try clear hcz20_0
                                          try clear hcz20_1
                                          try clear hcz24_0
                                          try clear hcz24_1
                                          try clear hcz30_0
                                          try clear hcz30_1
                                          try clear hcz32_0
                                          try clear hcz32_1
                                          try clear hcz35_0
                                          try clear hcz35_1
                                          try clear hcz45_0
                                          try clear hcz45_1
                                          try clear hcz58_0
                                          try clear hcz58_1
                                          try clear hcz64_0
                                          try clear hcz64_1
                                          try clear hcz77_0
                                          try clear hcz77_1
                                          try clear hcz9_0
                                          try clear hcz9_1
                                          try clear hcz9_2
                                          try clear hfz13_0
                                          try clear hfz13_1
                                          try clear hfz20_0
                                          try clear hfz20_1
                                          try clear hfz24_0
                                          try clear hfz24_1
                                          try clear hfz30_0
                                          try clear hfz30_1
                                          try clear hfz32_0
                                          try clear hfz32_1
                                          try clear hfz35_0
                                          try clear hfz35_1
                                          try clear hfz45_0
                                          try clear hfz45_1
                                          try clear hfz58_0
                                          try clear hfz58_1
                                          try clear hfz64_0
                                          try clear hfz64_1
                                          try clear hfz77_0
                                          try clear hfz77_1
                                          try clear hfz9_0
                                          try clear hfz9_1
                                          try clear hfz9_2
                                          try clear hx42_0
                                          try clear hx526_0
                                          try clear hx527_0
                                          try clear hx528_0
                                          try clear hx529_0
                                          try clear hx530_0
                                          try clear p2
                                          try clear p4
                                          try clear p42
                                          try clear p5
                                          try clear p52
                                          try clear p526
                                          try clear p527
                                          try clear p528
                                          try clear p529
                                          try clear p530
                                          try clear p6
                                          try clear p64
                                          try clear q4
                                          try clear q42
                                          try clear q5
                                          try clear q52
                                          try clear q526
                                          try clear q527
                                          try clear q528
                                          try clear q529
                                          try clear q530
                                          try clear q54
                                          obtain ⟨x11_5, rfl, HA, HK5, HO_514001, HO_519000, BK507, BK513, BK518, HB⟩ := hrel
                                          cases gk with
                                          | zero => exact absurd HA.out (by simp [wireloomlaw05_DigraphCycles.l3])
                                          | succ k5 =>
                                            have H := HA.out
                                            clear HA
                                            simp only [wireloomlaw05_DigraphCycles.l3] at H
                                            by_cases c79 : x11_5 < x10_4
                                            · rw [if_pos c79] at H
                                              have c79b0 : decide (x11_5 < x10_4) = true := decide_eq_true c79
                                              clear c79
                                              by_cases c80 : 0 ≤ x11_5
                                              · rw [if_pos c80] at H
                                                have c80b0 : decide (0 ≤ x11_5) = true := decide_eq_true c80
                                                clear c80
                                                by_cases c81 : x11_5 < (t514.length : Int)
                                                · rw [if_pos c81] at H
                                                  have c81b0 : decide (x11_5 < (t514.length : Int)) = true := decide_eq_true c81
                                                  clear c81
                                                  by_cases c82 : 0 ≤ x10_4
                                                  · rw [if_pos c82] at H
                                                    have c82b0 : decide (0 ≤ x10_4) = true := decide_eq_true c82
                                                    clear c82
                                                    by_cases c83 : x10_4 < (t514.length : Int)
                                                    · rw [if_pos c83] at H
                                                      have c83b0 : decide (x10_4 < (t514.length : Int)) = true := decide_eq_true c83
                                                      clear c83
                                                      by_cases c84 : (rd t514 x11_5) = (rd t514 x10_4)
                                                      · rw [if_pos c84] at H
                                                        exact absurd H (by simp)
                                                      · rw [if_neg c84] at H
                                                        have c84b0 : ((rd t514 x11_5) == (rd t514 x10_4)) = false := beq_eq_false_iff_ne.mpr c84
                                                        have c84b1 : ((rd t514 x11_5) != (rd t514 x10_4)) = true := bne_iff_ne.mpr c84
                                                        have H' := Aside0.mk H
                                                        clear H
                                                        try go_wp2
                                                        have n0_ := Aside0.mk (Kd.R_drew HO_514001.out)
                                                        have n1_ := Aside0.mk (Kd.R_drew HO_519000.out)
                                                        have n2_ := Aside0.mk (blk_drew BK507.out)
                                                        have n3_ := Aside0.mk (blk_drew BK513.out)
                                                        have n4_ := Aside0.mk (blk_drew BK518.out)
                                                        have n5_ := Aside0.mk (below_drew1 HB.out)
                                                        clear HO_514001
                                                        clear HO_519000
                                                        clear BK507
                                                        clear BK513
                                                        clear BK518
                                                        clear HB
                                                        have HO_514001 := n0_
                                                        have HO_519000 := n1_
                                                        have BK507 := n2_
                                                        have BK513 := n3_
                                                        have BK518 := n4_
                                                        have HB := n5_
                                                        clear n0_ n1_ n2_ n3_ n4_ n5_
                                                        have p532 : 0 ≤ (x11_5 : Int) := of_decide_eq_true (by first | (with_reducible assumption) | assumption)
                                                        have q532 : x11_5 < (t514.length : Int) := of_decide_eq_true (by first | (with_reducible assumption) | assumption)
                                                        obtain ⟨ad532, e532, hx532_0⟩ := Kd.at_int (Kd.R_reads' HO_519000.out).2.2 x11_5 p532 q532
                                                        obtain rfl : ad527 = ad532 := (by injection e532)
                                                        replace p532 := eq_true p532
                                                        replace q532 := eq_true q532
                                                        have p533 : 0 ≤ (x10_4 : Int) := of_decide_eq_true (by first | (with_reducible assumption) | assumption)
                                                        have q533 : x10_4 < (t514.length : Int) := of_decide_eq_true (by first | (with_reducible assumption) | assumption)
                                                        obtain ⟨ad533, e533, hx533_0⟩ := Kd.at_int (Kd.R_reads' HO_519000.out).2.2 x10_4 p533 q533
                                                        obtain rfl : ad527 = ad533 := (by injection e533)
                                                        replace p533 := eq_true p533
                                                        replace q533 := eq_true q533
                                                        refine start_ (n := 11) (S := fun w' => w'.cell? ⟨gb518, 0, none⟩ = some (.slice (some ad527) t514.length co17) ∧ w'.cell? ⟨gb518, 1, none⟩ = some (.int .i64 t517) ∧ w'.cell? (ad527.add (x11_5).toNat) = some (.int .i64 (rd t514 x11_5)) ∧ w'.cell? (ad527.add (x10_4).toNat) = some (.int .i64 (rd t514 x10_4))) (ds := []) #[false, false, false, false, false, false, false, false, false, false, false] (by kernel_rfl) rfl rfl ⟨(blk_cell BK518.out 0).trans rfl, (blk_cell BK518.out 1).trans rfl, hx532_0, hx533_0⟩ (fun hHeld => ?_); refine with_tabW wireloomlaw05_DigraphCycles.tab30 wireloomlaw05_DigraphCycles.bits30 (fun HT_ HW_ => ?_)
                                                        generalize wr.drew = w85 at HO_514001 HO_519000 BK507 BK513 BK518 HB hx532_0 hx533_0 hHeld ⊢
                                                        refine pure_ (i := 0) (N := some 108) (v := ?_) (a' := ?_) #[true, false, false, false, false, false, false, false, false, false, false] rfl rfl (any_of HT_.out (by kernel_rfl)) (fun _ _ _ h => h) (Or.inl ⟨by rfl, ?_⟩) ?_ ?_
                                                        rotate_left
                                                        · intro w'
                                                          go_simp
                                                          with_reducible rfl
                                                        rotate_left
                                                        · simp only [Act.put, List.setIfInBounds_toArray, List.set_cons_zero, List.set_cons_succ, i64_w, i32_w]
                                                          rfl
                                                        refine pure_ (i := 2) (N := some 110) (v := ?_) (a' := ?_) #[true, false, true, false, false, false, false, false, false, false, false] rfl rfl (any_of HT_.out (by kernel_rfl)) (fun _ _ _ h => h) (Or.inl ⟨by rfl, ?_⟩) ?_ ?_
                                                        rotate_left
                                                        · intro w'
                                                          go_simp
                                                          with_reducible rfl
                                                        rotate_left
                                                        · simp only [Act.put, List.setIfInBounds_toArray, List.set_cons_zero, List.set_cons_succ, i64_w, i32_w]
                                                          rfl
                                                        refine pure_ (i := 5) (N := some 113) (v := ?_) (a' := ?_) #[true, false, true, false, false, true, false, false, false, false, false] rfl rfl (any_of HT_.out (by kernel_rfl)) (fun _ _ _ h => h) (Or.inl ⟨by rfl, ?_⟩) ?_ ?_
                                                        rotate_left
                                                        · intro w'
                                                          go_simp
                                                          with_reducible rfl
                                                        rotate_left
                                                        · simp only [Act.put, List.setIfInBounds_toArray, List.set_cons_zero, List.set_cons_succ, i64_w, i32_w]
                                                          rfl
                                                        refine pure_ (i := 7) (N := some 115) (v := ?_) (a' := ?_) #[true, false, true, false, false, true, false, true, false, false, false] rfl rfl (any_of HT_.out (by kernel_rfl)) (fun _ _ _ h => h) (Or.inl ⟨by rfl, ?_⟩) ?_ ?_
                                                        rotate_left
                                                        · intro w'
                                                          go_simp
                                                          with_reducible rfl
                                                        rotate_left
                                                        · simp only [Act.put, List.setIfInBounds_toArray, List.set_cons_zero, List.set_cons_succ, i64_w, i32_w]
                                                          rfl
                                                        refine take_ (i := 1) (N := some 109) (v := ?_) (a' := ?_) #[true, true, true, false, false, true, false, true, false, false, false] rfl rfl (take_ofW HT_.out HW_.out (by kernel_rfl)) (fun _ _ _ h => h) (Or.inl ⟨by rfl, ?_⟩) hHeld ?_ ?_
                                                        rotate_left
                                                        · rintro w' ⟨s0, s1, s2, s3⟩
                                                          go_simp
                                                          with_reducible rfl
                                                        rotate_left
                                                        · simp only [Act.put, List.setIfInBounds_toArray, List.set_cons_zero, List.set_cons_succ, i64_w, i32_w]
                                                          rfl
                                                        refine pure_ (i := 3) (N := some 111) (v := ?_) (a' := ?_) #[true, true, true, true, false, true, false, true, false, false, false] rfl rfl (any_of HT_.out (by kernel_rfl)) (fun _ _ _ h => h) (Or.inl ⟨by rfl, ?_⟩) ?_ ?_
                                                        rotate_left
                                                        · intro w'
                                                          go_simp
                                                          with_reducible rfl
                                                        rotate_left
                                                        · simp only [Act.put, List.setIfInBounds_toArray, List.set_cons_zero, List.set_cons_succ, i64_w, i32_w]
                                                          rfl
                                                        refine take_ (i := 4) (N := some 112) (v := ?_) (a' := ?_) #[true, true, true, true, true, true, false, true, false, false, false] rfl rfl (take_ofW HT_.out HW_.out (by kernel_rfl)) (fun _ _ _ h => h) (Or.inl ⟨by rfl, ?_⟩) hHeld ?_ ?_
                                                        rotate_left
                                                        · rintro w' ⟨s0, s1, s2, s3⟩
                                                          go_simp
                                                          with_reducible rfl
                                                        rotate_left
                                                        · simp only [Act.put, List.setIfInBounds_toArray, List.set_cons_zero, List.set_cons_succ, i64_w, i32_w]
                                                          rfl
                                                        refine take_ (i := 6) (N := some 114) (v := ?_) (a' := ?_) #[true, true, true, true, true, true, true, true, false, false, false] rfl rfl (take_ofW HT_.out HW_.out (by kernel_rfl)) (fun _ _ _ h => h) (Or.inl ⟨by rfl, ?_⟩) hHeld ?_ ?_
                                                        rotate_left
                                                        · rintro w' ⟨s0, s1, s2, s3⟩
                                                          go_simp
                                                          with_reducible rfl
                                                        rotate_left
                                                        · simp only [Act.put, List.setIfInBounds_toArray, List.set_cons_zero, List.set_cons_succ, i64_w, i32_w]
                                                          rfl
                                                        refine pure_ (i := 8) (N := some 116) (v := ?_) (a' := ?_) #[true, true, true, true, true, true, true, true, true, false, false] rfl rfl (any_of HT_.out (by kernel_rfl)) (fun _ _ _ h => h) (Or.inl ⟨by rfl, ?_⟩) ?_ ?_
                                                        rotate_left
                                                        · intro w'
                                                          go_simp
                                                          with_reducible rfl
                                                        rotate_left
                                                        · simp only [Act.put, List.setIfInBounds_toArray, List.set_cons_zero, List.set_cons_succ, i64_w, i32_w]
                                                          rfl
                                                        refine take_ (i := 9) (N := some 117) (v := ?_) (a' := ?_) #[true, true, true, true, true, true, true, true, true, true, false] rfl rfl (take_ofW HT_.out HW_.out (by kernel_rfl)) (fun _ _ _ h => h) (Or.inl ⟨by rfl, ?_⟩) hHeld ?_ ?_
                                                        rotate_left
                                                        · rintro w' ⟨s0, s1, s2, s3⟩
                                                          go_simp
                                                          with_reducible rfl
                                                        rotate_left
                                                        · simp only [Act.put, List.setIfInBounds_toArray, List.set_cons_zero, List.set_cons_succ, i64_w, i32_w]
                                                          rfl
                                                        refine pure_ (i := 10) (N := some 118) (v := ?_) (a' := ?_) #[true, true, true, true, true, true, true, true, true, true, true] rfl rfl (any_of HT_.out (by kernel_rfl)) (fun _ _ _ h => h) (Or.inl ⟨by rfl, ?_⟩) ?_ ?_
                                                        rotate_left
                                                        · intro w'
                                                          go_simp
                                                          with_reducible rfl
                                                        rotate_left
                                                        · simp only [Act.put, List.setIfInBounds_toArray, List.set_cons_zero, List.set_cons_succ, i64_w, i32_w]
                                                          rfl
                                                        refine done_ (done_of HT_.out (by kernel_rfl)) ?_
                                                        try go_wp2
                                                        go_roundg k5
                                                        case measure => have := HJ5.out; have := HJ24.out; have := HK3.out; have := HK4.out; have := HK5.out; omega
                                                        case rel => exact ⟨(wrap64 (x11_5 + 1)), (by first | rfl | (simp; done) | (simp [*]; done)), H', ⟨by have := HJ5.out; have := HJ24.out; have := HK3.out; have := HK4.out; have := HK5.out; omega⟩, ⟨by (with_reducible repeat (first | apply Kd.R_alloc | apply Kd.R_drewN | apply Kd.R_drew)); exact HO_514001.out⟩, ⟨by (with_reducible repeat (first | apply Kd.R_alloc | apply Kd.R_drewN | apply Kd.R_drew)); exact HO_519000.out⟩, ⟨by (with_reducible repeat (first | refine blk_drewN ?_ _ | refine blk_drew ?_ | refine blk_alloc ?_ _)); exact BK507.out⟩, ⟨by (with_reducible repeat (first | refine blk_drewN ?_ _ | refine blk_drew ?_ | refine blk_alloc ?_ _)); exact BK513.out⟩, ⟨by (with_reducible repeat (first | refine blk_drewN ?_ _ | refine blk_drew ?_ | refine blk_alloc ?_ _)); exact BK518.out⟩, ⟨by repeat (first | (with_reducible first | exact HB.out | apply below_alloc | apply pw_below_drewN | apply below_drew1 | refine below_set ?_ GE507.out | refine below_set ?_ GE513.out | refine below_set ?_ GE518.out) | exact HB.out)⟩⟩
                                                    · rw [if_neg c83] at H
                                                      exact absurd H (by simp)
                                                  · rw [if_neg c82] at H
                                                    exact absurd H (by simp)
                                                · rw [if_neg c81] at H
                                                  exact absurd H (by simp)
                                              · rw [if_neg c80] at H
                                                exact absurd H (by simp)
                                            · rw [if_neg c79] at H
                                              have c79b0 : decide (x11_5 < x10_4) = false := decide_eq_false c79
                                              clear c79
                                              have H' := Aside0.mk H
                                              clear H
                                              go_wp2
                                              go_roundg k5
                                              case measure => have := HJ5.out; have := HJ24.out; have := HK3.out; have := HK4.out; have := HK5.out; omega
                                              case rel => exact ⟨(wrap64 (x10_4 + 1)), (by first | rfl | (simp; done) | (simp [*]; done)), H', ⟨by have := HJ5.out; have := HJ24.out; have := HK3.out; have := HK4.out; have := HK5.out; omega⟩, ⟨by (with_reducible repeat (first | apply Kd.R_alloc | apply Kd.R_drewN | apply Kd.R_drew)); exact HO_514001.out⟩, ⟨by (with_reducible repeat (first | apply Kd.R_alloc | apply Kd.R_drewN | apply Kd.R_drew)); exact HO_519000.out⟩, ⟨by (with_reducible repeat (first | refine blk_drewN ?_ _ | refine blk_drew ?_ | refine blk_alloc ?_ _)); exact BK507.out⟩, ⟨by (with_reducible repeat (first | refine blk_drewN ?_ _ | refine blk_drew ?_ | refine blk_alloc ?_ _)); exact BK513.out⟩, ⟨by (with_reducible repeat (first | refine blk_drewN ?_ _ | refine blk_drew ?_ | refine blk_alloc ?_ _)); exact BK518.out⟩, ⟨by repeat (first | (with_reducible first | exact HB.out | apply below_alloc | apply pw_below_drewN | apply below_drew1 | refine below_set ?_ GE507.out | refine below_set ?_ GE513.out | refine below_set ?_ GE518.out) | exact HB.out)⟩⟩
                                      · replace c74 := Bool.eq_false_iff.mpr c74
                                        subst c74
                                        have H1 : (none) = some r := by rw [if_neg (show ¬ (false = true) by decide)] at H; exact H
                                        clear H
                                        have H := H1
                                        clear H1
                                        exact absurd H (by simp)
                                    · rw [if_neg c72] at H
                                      exact absurd H (by simp)
                                  · rw [if_neg c71] at H
                                    exact absurd H (by simp)
                            · rw [if_neg c67] at H
                              exact absurd H (by simp)
                          · rw [if_neg c66] at H
                            exact absurd H (by simp)
                        · rw [if_neg c65] at H
                          have c65b0 : decide (x10_4 < (t514.length : Int)) = false := decide_eq_false c65
                          clear c65
                          obtain rfl := Option.some.inj H
                          have hnb86 := NB518_507.out
                          have hnc86 := NB507_518.out
                          have hnb87 := NB518_513.out
                          have hnc87 := NB513_518.out
                          have hcz88_0 : wr.cell? ⟨gb518, 0, none⟩ = some (.slice Ao17 t514.length co17) := (blk_cell BK518.out 0).trans rfl
                          have hcz88_1 : wr.cell? ⟨gb518, 1, none⟩ = some (.int .i64 t517) := (blk_cell BK518.out 1).trans rfl
                          have hfz88_0 := blk_frozen BK518.out 0
                          have hfz88_1 := blk_frozen BK518.out 1
                          go_wp2
                          go_ret
                          exact ⟨by first | rfl | (simp [errW_none, errW_some] <;> rfl) | (simp [*, errW_none, errW_some] <;> rfl), by repeat (first | (with_reducible first | exact HB.out | apply below_alloc | apply pw_below_drewN | apply below_drew1 | refine below_set ?_ GE507.out | refine below_set ?_ GE513.out | refine below_set ?_ GE518.out) | exact HB.out)⟩
  · replace c3 := Bool.eq_false_iff.mpr c3
    subst c3
    have H1 : (none) = some r := by rw [if_neg (show ¬ (false = true) by decide)] at H; exact H
    clear H
    have H := H1
    clear H1
    exact absurd H (by simp)
end Go.Proofs.Ytlldjinejckbaaa.PD

end
section
namespace Go.Proofs.Ytlldjinejckbaaa.Pg
open Go Go.RowKit Go.Proofs.YtlldjinejckbaaaW.PrintWords Go.Proofs.Ytlldjinejckbaaa.Mod Go.Proofs.Ytlldjinejckbaaa.Gs Go.Proofs.Ytlldjinejckbaaa.Lb Go.Proofs.Ytlldjinejckbaaa.Ng Go.Proofs.Ytlldjinejckbaaa.Rc Go.Proofs.Ytlldjinejckbaaa.PD
def E (l : List S55) (u v : Int) : Prop := ∃ e ∈ l, e.f0 = u ∧ e.f1 = v
def Ok (n : Nat) (l : List S55) : Prop := ∀ e ∈ l, 0 ≤ e.f0 ∧ e.f0 < n ∧ 0 ≤ e.f1 ∧ e.f1 < n
theorem E.ok {n : Nat} {l : List S55} (h : Ok n l) {u v : Int} (e : E l u v) : 0 ≤ u ∧ u < n ∧ 0 ≤ v ∧ v < n := by
  obtain ⟨x, hx, rfl, rfl⟩ := e
  exact h x hx
theorem compactUpTo_strict (d : Array Int) (hs : d.toList.Pairwise (· ≤ ·)) : ∀ m, m ≤ d.size → (Lib.compactUpTo d m).Pairwise (· < ·) ∧ (∀ x, x ∈ Lib.compactUpTo d m ↔ ∃ j, j < m ∧ d[j]! = x) := by
  have hle : ∀ i j, i ≤ j → j < d.size → d[i]! ≤ d[j]! := fun i j hij hj => by
    rw [getElem!_pos d i (by omega), getElem!_pos d j hj]
    rcases Nat.lt_or_eq_of_le hij with h | h
    · have := List.pairwise_iff_getElem.1 hs i j (by simp; omega) (by simpa using hj) h
      simpa using this
    · subst h; exact Int.le_refl _
  intro m
  induction m with
  | zero => intro _; simp [Lib.compactUpTo]
  | succ m ih =>
    intro hm
    obtain ⟨h1, h2⟩ := ih (by omega)
    rw [Lib.compactUpTo_succ]
    by_cases hk : Lib.keeps d m = true
    · rw [if_pos hk]
      refine ⟨?_, fun x => ?_⟩
      · rw [List.pairwise_append]
        refine ⟨h1, by simp, fun a ha b hb => ?_⟩
        rw [List.mem_singleton] at hb
        subst hb
        obtain ⟨j, hj, rfl⟩ := (h2 a).1 ha
        unfold Lib.keeps at hk
        rw [decide_eq_true_eq] at hk
        rcases hk with hk | hk
        · omega
        · have h3 := hle j (m - 1) (by omega) (by omega)
          have h4 := hle (m - 1) m (by omega) (by omega)
          omega
      · rw [List.mem_append, List.mem_singleton, h2]
        constructor
        · rintro (⟨j, hj, e⟩ | e)
          · exact ⟨j, by omega, e⟩
          · exact ⟨m, by omega, e.symm⟩
        · rintro ⟨j, hj, e⟩
          rcases Nat.lt_or_eq_of_le (Nat.le_of_lt_succ hj) with h | h
          · exact .inl ⟨j, h, e⟩
          · subst h; exact .inr e.symm
    · rw [if_neg hk, List.append_nil]
      refine ⟨h1, fun x => ?_⟩
      rw [h2]
      constructor
      · rintro ⟨j, hj, e⟩; exact ⟨j, by omega, e⟩
      · rintro ⟨j, hj, e⟩
        rcases Nat.lt_or_eq_of_le (Nat.le_of_lt_succ hj) with h | h
        · exact ⟨j, h, e⟩
        · subst h
          unfold Lib.keeps at hk
          rw [decide_eq_true_eq] at hk
          have h5 : ¬ j = 0 := fun h => hk (.inl h)
          have h6 : d[j]! = d[j - 1]! := Classical.byContradiction fun h => hk (.inr h)
          exact ⟨j - 1, by omega, by rw [← h6]; exact e⟩
theorem sortI_sorted (xs : List Int) : (sortI xs).Pairwise (· ≤ ·) := by
  unfold sortI
  have := List.pairwise_mergeSort (le := fun x y : Int => decide (x ≤ y)) (fun a b c h1 h2 => by simp at *; omega) (fun a b => by simp; omega) xs
  exact this.imp (fun h => by simpa using h)
theorem tidyRow (xs : List Int) : (Lib.compact (sortI xs)).Pairwise (· < ·) ∧ ∀ x, x ∈ Lib.compact (sortI xs) ↔ x ∈ xs := by
  unfold Lib.compact
  obtain ⟨h1, h2⟩ := compactUpTo_strict (sortI xs).toArray (by simpa using sortI_sorted xs) (sortI xs).length (by simp)
  refine ⟨h1, fun x => ?_⟩
  rw [h2, ← mem_sortI (r := xs)]
  constructor
  · rintro ⟨j, hj, rfl⟩
    rw [getElem!_pos (sortI xs).toArray j (by simpa using hj)]
    simp
  · intro h
    obtain ⟨j, hj, rfl⟩ := List.mem_iff_getElem.1 h
    exact ⟨j, hj, by rw [getElem!_pos (sortI xs).toArray j (by simpa using hj)]; simp⟩
theorem row_tidy (rows : List (List Int)) (v : Int) : row (tidy rows) v = Lib.compact (sortI (row rows v)) := by
  unfold row tidy
  rw [List.getD_eq_getElem?_getD, List.getD_eq_getElem?_getD, List.getElem?_map]
  cases h : rows[v.toNat]? with
  | none => simp [sortI, Lib.compact, Lib.compactUpTo]
  | some r => rfl
theorem row_built {n : Nat} : ∀ (l : List S55), Ok n l → ∀ (v x : Int), 0 ≤ v → v < n → ((x ∈ row (built n l true) v ↔ E l v x) ∧ (x ∈ row (built n l false) v ↔ E l x v)) := by
  have key : ∀ (l : List S55) (R : Bool → List (List Int)), Ok n l → (∀ b, (R b).length = n) → ∀ (b : Bool) (v x : Int), 0 ≤ v → v < n → (x ∈ row (l.foldl addE R b) v ↔ x ∈ row (R b) v ∨ (if b then E l v x else E l x v)) := by
    intro l
    induction l with
    | nil => intro R _ _ b v x _ _; cases b <;> simp [E]
    | cons e l ih =>
      intro R hok hR b v x h0 h1
      obtain ⟨e0, e1, e2, e3⟩ := hok e (by simp)
      rw [List.foldl_cons, ih (addE R e) (fun z hz => hok z (by simp [hz])) (fun b => by rw [addE_length]; exact hR b) b v x h0 h1]
      have hrow : x ∈ row (addE R e b) v ↔ x ∈ row (R b) v ∨ (if b then e.f0 = v ∧ e.f1 = x else e.f0 = x ∧ e.f1 = v) := by
        unfold addE
        cases b with
        | true =>
          rw [upd_other _ _ _ (by decide), upd_same]
          unfold row
          rw [List.getD_eq_getElem?_getD, List.getElem?_set]
          by_cases hv : e.f0 = v
          · rw [if_pos (by omega), if_pos (by rw [hR]; omega)]
            subst hv
            simp [List.getD_eq_getElem?_getD, eq_comm]
          · rw [if_neg (by omega), ← List.getD_eq_getElem?_getD]
            simp [hv]
        | false =>
          rw [upd_same, upd_other _ _ _ (by decide)]
          unfold row
          rw [List.getD_eq_getElem?_getD, List.getElem?_set]
          by_cases hv : e.f1 = v
          · rw [if_pos (by omega), if_pos (by rw [hR]; omega)]
            subst hv
            simp [List.getD_eq_getElem?_getD, eq_comm]
          · rw [if_neg (by omega), ← List.getD_eq_getElem?_getD]
            simp [hv]
      rw [hrow]
      have hE : ∀ a c, E (e :: l) a c ↔ (e.f0 = a ∧ e.f1 = c) ∨ E l a c := fun a c => by
        unfold E
        simp
      cases b with
      | true => simp only [if_true]; rw [hE]; exact or_assoc
      | false => simp only [Bool.false_eq_true, if_false]; rw [hE]; exact or_assoc
  intro l hok v x h0 h1
  have e : ∀ b : Bool, x ∈ row ((fun _ => List.replicate n ([] : List Int)) b) v ↔ False := fun b => by
    unfold row
    simp only [List.getD_eq_getElem?_getD, List.getElem?_replicate]
    split <;> simp
  have h1' := key l (fun _ => List.replicate n []) hok (fun _ => by simp) true v x h0 h1
  have h2' := key l (fun _ => List.replicate n []) hok (fun _ => by simp) false v x h0 h1
  rw [e true] at h1'
  rw [e false] at h2'
  exact ⟨by unfold built; rw [h1']; simp, by unfold built; rw [h2']; simp⟩
abbrev nx (n : Nat) (l : List S55) : List (List Int) := tidy (built n l true)
abbrev pv (n : Nat) (l : List S55) : List (List Int) := tidy (built n l false)
theorem mem_nx {n : Nat} {l : List S55} (h : Ok n l) {v : Int} (x : Int) (h0 : 0 ≤ v) (h1 : v < n) : x ∈ row (nx n l) v ↔ E l v x := by
  rw [row_tidy, (tidyRow _).2]; exact (row_built l h v x h0 h1).1
theorem mem_pv {n : Nat} {l : List S55} (h : Ok n l) {v : Int} (x : Int) (h0 : 0 ≤ v) (h1 : v < n) : x ∈ row (pv n l) v ↔ E l x v := by
  rw [row_tidy, (tidyRow _).2]; exact (row_built l h v x h0 h1).2
theorem row_strict (rows : List (List Int)) (v : Int) : (row (tidy rows) v).Pairwise (· < ·) := by rw [row_tidy]; exact (tidyRow _).1
theorem row_nodup (rows : List (List Int)) (v : Int) : (row (tidy rows) v).Nodup := (row_strict rows v).imp (fun h => by omega)
theorem len_nx (n : Nat) (l : List S55) : (nx n l).length = n := by unfold nx; rw [tidy_length, built_length]
theorem len_pv (n : Nat) (l : List S55) : (pv n l).length = n := by unfold pv; rw [tidy_length, built_length]
theorem strict_ext {a b : List Int} (ha : a.Pairwise (· < ·)) (hb : b.Pairwise (· < ·)) (h : ∀ x, x ∈ a ↔ x ∈ b) : a = b := by
  have na : a.Nodup := ha.imp (fun h => by omega)
  have nb : b.Nodup := hb.imp (fun h => by omega)
  have hp : a.Perm b := (List.perm_ext_iff_of_nodup na nb).2 h
  exact List.Perm.eq_of_pairwise (le := fun x y : Int => x < y) (fun x y _ _ h1 h2 => by omega) ha hb hp
theorem nodup_len {n : Nat} {a : List Int} (hn : a.Nodup) (h : ∀ x ∈ a, 0 ≤ x ∧ x < (n : Int)) : a.length ≤ n := by
  have hs : a ⊆ (List.range n).map (fun k : Nat => (k : Int)) := fun x hx => by
    obtain ⟨h0, h1⟩ := h x hx
    exact List.mem_map.2 ⟨x.toNat, List.mem_range.2 (by omega), by omega⟩
  have := hn.length_le_of_subset hs
  simpa using this
end Go.Proofs.Ytlldjinejckbaaa.Pg

end
