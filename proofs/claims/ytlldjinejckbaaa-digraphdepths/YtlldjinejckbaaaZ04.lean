/- The law DigraphDepths of package digraph holds for every input: what it is called with is opened, the printed text of the law and its plain proof are joined. (Part 5 of 6 of its proof.) -/
import Derived.Test.YtlldjinejckbaaaZ03
section
namespace Go.Proofs.Ytlldjinejckbaaa.PD
open Go.RowKit Go.Proofs.YtlldjinejckbaaaW.PrintWords Go.Proofs.YtlldjinejckbaaaW.PrintLast Go.Proofs.YtlldjinejckbaaaW.PrintMore
attribute [local go_sem] max2_int min2_int max_two min_two max_three min_three max_four min_four
set_option linter.unusedVariables false
set_option linter.unusedSimpArgs false
mutual
def wireloomref05_Made.l0 : Nat → Int → Int → Int → Int → List Int → Int → List (S55) → Option (Int × (List (S55)))
  | 0, _, _, _, _, _, _, _ => none
  | k + 1, x3, x5, x257000, x257001, x257002, x259000, x259001 => if (wrap64 (x5 + 1)) < (x257002.length : Int) then (if x5 < 60 then (wireloomref05_Made.j1 k x3 x5 (decide (x3 > 0)) x257000 x257001 x257002 x259000 x259001) else (wireloomref05_Made.j1 k x3 x5 false x257000 x257001 x257002 x259000 x259001)) else (wireloomref05_Made.j1 k x3 x5 false x257000 x257001 x257002 x259000 x259001)
def wireloomref05_Made.j1 : Nat → Int → Int → Bool → Int → Int → List Int → Int → List (S55) → Option (Int × (List (S55)))
  | 0, _, _, _, _, _, _, _, _ => none
  | k + 1, x3, x5, x27, x257000, x257001, x257002, x259000, x259001 => if x27 = true then (if 0 ≤ x5 then (if x5 < (x257002.length : Int) then (if x3 = 0 then (none) else (if 0 ≤ (wrap64 (x5 + 1)) then (if (wrap64 (x5 + 1)) < (x257002.length : Int) then (if (Int.tmod x257001 2) = 0 then (if (Int.tmod (wrap64 (rd x257002 x5)) x3) = (Int.tmod (wrap64 (rd x257002 (wrap64 (x5 + 1)))) x3) then (wireloomref05_Made.l0 k x3 (wrap64 (x5 + 2)) x257000 x257001 x257002 x259000 x259001) else (if (Int.tmod (wrap64 (rd x257002 x5)) x3) > (Int.tmod (wrap64 (rd x257002 (wrap64 (x5 + 1)))) x3) then (wireloomref05_Made.j2 k x3 x5 (Int.tmod (wrap64 (rd x257002 (wrap64 (x5 + 1)))) x3) (Int.tmod (wrap64 (rd x257002 x5)) x3) x257000 x257001 x257002 x259000 x259001) else (wireloomref05_Made.j2 k x3 x5 (Int.tmod (wrap64 (rd x257002 x5)) x3) (Int.tmod (wrap64 (rd x257002 (wrap64 (x5 + 1)))) x3) x257000 x257001 x257002 x259000 x259001))) else (if x259001.length < 8796093022208 then (wireloomref05_Made.l0 k x3 (wrap64 (x5 + 2)) x257000 x257001 x257002 x259000 (x259001 ++ [(⟨Int.tmod (wrap64 (rd x257002 x5)) x3, Int.tmod (wrap64 (rd x257002 (wrap64 (x5 + 1)))) x3⟩ : S55)])) else (none))) else (none)) else (none))) else (none)) else (none)) else (some (x259000, x259001))
def wireloomref05_Made.j2 : Nat → Int → Int → Int → Int → Int → Int → List Int → Int → List (S55) → Option (Int × (List (S55)))
  | 0, _, _, _, _, _, _, _, _, _ => none
  | k + 1, x3, x5, x6, x7, x257000, x257001, x257002, x259000, x259001 => if (Int.tmod x257001 4) = 2 then (if x3 = 0 then (none) else (if (Int.tmod x3 5) = 0 then (wireloomref05_Made.l0 k x3 (wrap64 (x5 + 2)) x257000 x257001 x257002 x259000 x259001) else (if x259001.length < 8796093022208 then (wireloomref05_Made.l0 k x3 (wrap64 (x5 + 2)) x257000 x257001 x257002 x259000 (x259001 ++ [(⟨Int.tmod (wrap64 ((wrap64 (5 * x6)) + 3)) x3, Int.tmod (wrap64 ((wrap64 (5 * x7)) + 3)) x3⟩ : S55)])) else (none)))) else (if (Int.tmod x3 5) = 0 then (if x259001.length < 8796093022208 then (wireloomref05_Made.l0 k x3 (wrap64 (x5 + 2)) x257000 x257001 x257002 x259000 (x259001 ++ [(⟨x6, x7⟩ : S55)])) else (none)) else (if x259001.length < 8796093022208 then (wireloomref05_Made.l0 k x3 (wrap64 (x5 + 2)) x257000 x257001 x257002 x259000 (x259001 ++ [(⟨x6, x7⟩ : S55)])) else (none)))
end
def wireloomref05_Made.f (k : Nat) (a0_0 : Int) (a0_1 : Int) (l0_2 : List Int) : Option (Int × (List (S55))) := wireloomref05_Made.l0 k (wrap64 (Int.tmod a0_0 13)) 0 a0_0 a0_1 l0_2 (wrap64 (Int.tmod a0_0 13)) ([] : List (S55))
theorem wireloomref05_Made.mono_l : ∀ k, (∀ y0 y1 y2 y3 y4 y5 y6, LeO (wireloomref05_Made.l0 k y0 y1 y2 y3 y4 y5 y6) (wireloomref05_Made.l0 (k + 1) y0 y1 y2 y3 y4 y5 y6)) ∧ (∀ y0 y1 y2 y3 y4 y5 y6 y7, LeO (wireloomref05_Made.j1 k y0 y1 y2 y3 y4 y5 y6 y7) (wireloomref05_Made.j1 (k + 1) y0 y1 y2 y3 y4 y5 y6 y7)) ∧ (∀ y0 y1 y2 y3 y4 y5 y6 y7 y8, LeO (wireloomref05_Made.j2 k y0 y1 y2 y3 y4 y5 y6 y7 y8) (wireloomref05_Made.j2 (k + 1) y0 y1 y2 y3 y4 y5 y6 y7 y8))
  | 0 => ⟨fun _ _ _ _ _ _ _ r h => by simp [wireloomref05_Made.l0] at h, fun _ _ _ _ _ _ _ _ r h => by simp [wireloomref05_Made.j1] at h, fun _ _ _ _ _ _ _ _ _ r h => by simp [wireloomref05_Made.j2] at h⟩
  | k + 1 => by
    obtain ⟨ih0, ih1, ih2⟩ := wireloomref05_Made.mono_l k
    refine ⟨?_, ?_, ?_⟩
    · intro y0 y1 y2 y3 y4 y5 y6
      unfold wireloomref05_Made.l0
      repeat' first
      | (with_reducible exact ih0 _ _ _ _ _ _ _)
      | (with_reducible exact ih1 _ _ _ _ _ _ _ _)
      | (with_reducible exact ih2 _ _ _ _ _ _ _ _ _)
      | (with_reducible exact LeO.refl _)
      | (with_reducible exact LeO.none _)
      | (with_reducible refine LeO.ite ?_ ?_)
      | (with_reducible refine LeO.bind ?_ (fun _ => ?_))
      | exact ih0 _ _ _ _ _ _ _
      | exact ih1 _ _ _ _ _ _ _ _
      | exact ih2 _ _ _ _ _ _ _ _ _
      | exact LeO.none _
      | refine LeO.ite ?_ ?_
      | refine LeO.bind ?_ (fun _ => ?_)
    · intro y0 y1 y2 y3 y4 y5 y6 y7
      unfold wireloomref05_Made.j1
      repeat' first
      | (with_reducible exact ih0 _ _ _ _ _ _ _)
      | (with_reducible exact ih1 _ _ _ _ _ _ _ _)
      | (with_reducible exact ih2 _ _ _ _ _ _ _ _ _)
      | (with_reducible exact LeO.refl _)
      | (with_reducible exact LeO.none _)
      | (with_reducible refine LeO.ite ?_ ?_)
      | (with_reducible refine LeO.bind ?_ (fun _ => ?_))
      | exact ih0 _ _ _ _ _ _ _
      | exact ih1 _ _ _ _ _ _ _ _
      | exact ih2 _ _ _ _ _ _ _ _ _
      | exact LeO.none _
      | refine LeO.ite ?_ ?_
      | refine LeO.bind ?_ (fun _ => ?_)
    · intro y0 y1 y2 y3 y4 y5 y6 y7 y8
      unfold wireloomref05_Made.j2
      repeat' first
      | (with_reducible exact ih0 _ _ _ _ _ _ _)
      | (with_reducible exact ih1 _ _ _ _ _ _ _ _)
      | (with_reducible exact ih2 _ _ _ _ _ _ _ _ _)
      | (with_reducible exact LeO.refl _)
      | (with_reducible exact LeO.none _)
      | (with_reducible refine LeO.ite ?_ ?_)
      | (with_reducible refine LeO.bind ?_ (fun _ => ?_))
      | exact ih0 _ _ _ _ _ _ _
      | exact ih1 _ _ _ _ _ _ _ _
      | exact ih2 _ _ _ _ _ _ _ _ _
      | exact LeO.none _
      | refine LeO.ite ?_ ?_
      | refine LeO.bind ?_ (fun _ => ?_)
theorem wireloomref05_Made.mono : ∀ a0 a1 a2 k, LeO (wireloomref05_Made.f k a0 a1 a2) (wireloomref05_Made.f (k + 1) a0 a1 a2) := by
  intro a0 a1 a2 k
  obtain ⟨ih0, ih1, ih2⟩ := wireloomref05_Made.mono_l k
  unfold wireloomref05_Made.f
  repeat' first
      | (with_reducible exact ih0 _ _ _ _ _ _ _)
      | (with_reducible exact ih1 _ _ _ _ _ _ _ _)
      | (with_reducible exact ih2 _ _ _ _ _ _ _ _ _)
      | (with_reducible exact LeO.refl _)
      | (with_reducible exact LeO.none _)
      | (with_reducible refine LeO.ite ?_ ?_)
      | (with_reducible refine LeO.bind ?_ (fun _ => ?_))
      | exact ih0 _ _ _ _ _ _ _
      | exact ih1 _ _ _ _ _ _ _ _
      | exact ih2 _ _ _ _ _ _ _ _ _
      | exact LeO.none _
      | refine LeO.ite ?_ ?_
      | refine LeO.bind ?_ (fun _ => ?_)
set_option maxHeartbeats 8000000 in
set_option maxRecDepth 100000 in
theorem wireloomref05_Made.calls (k : Nat) (a0_0 : Int) (a0_1 : Int) (A0_2 : Option Addr) (c0_2 : Nat) (l0_2 : List Int) (r1 : Int) (r2 : List (S55)) (w : World) (hr0_2 : Kd.C (Kd.int .u8) w A0_2 l0_2.length l0_2) (hc0_2 : l0_2.length ≤ c0_2) (h : wireloomref05_Made.f k a0_0 a0_1 l0_2 = some (r1, r2)) :
    Calls Try.prog 11 #[.agg #[.int .u8 a0_0, .int .u8 a0_1, .slice A0_2 l0_2.length c0_2]] w fun e w' => ∃ v1_ : Value, e = .returned (.agg #[.int .i64 r1, v1_]) ∧ Kd.R k55 55 w' w.heap.size (fun _ => True) v1_ r2 ∧ Below w.heap.size w w' := by
  have hu24 := Try.underlying24
  have hu31 := Try.underlying31
  have hu55 := Try.underlying55
  have HR0_2 := Aside0.mk hr0_2
  have HC0_2 := Aside0.mk hc0_2
  clear hr0_2 hc0_2
  have HB := Aside0.mk (Below.refl w.heap.size w)
  have H : (wireloomref05_Made.l0 k (wrap64 (Int.tmod a0_0 13)) 0 a0_0 a0_1 l0_2 (wrap64 (Int.tmod a0_0 13)) ([] : List (S55))) = some (r1, r2) := h
  clear h
  have H' := Aside0.mk H
  clear H
  go_enter Try.func11, Try.ntmps11
  go_wp2_with (first | ((with_reducible refine gate_dst (N := 1) rfl ?_); refine box_event ?hg (N := 1) ?hd (cs := #[.int .u8 a0_0, .int .u8 a0_1, .slice A0_2 l0_2.length c0_2]) (t := 24) ?hr ?_; (case hd => rfl); (case hg => rfl); (case hr => first | (go_simp; done) | (go_simp; rfl)); intro gb256 hg w2 hbox hb; have n0_ := Aside0.mk (below_step (by repeat (first | (with_reducible first | exact HB.out | apply below_alloc | apply pw_below_drewN | apply below_drew1) | exact HB.out)) hb); have n1_ := Aside0.mk (hbox); have n2_ := Aside0.mk ((by rw [hg]; exact (below_size (by repeat (first | (with_reducible first | exact HB.out | apply below_alloc | apply pw_below_drewN | apply below_drew1) | exact HB.out))) : w.heap.size ≤ gb256)); have n3_ := Aside0.mk ((by rw [hg]; exact (below_size (by repeat (first | (with_reducible first | exact HB.out | apply below_alloc | apply pw_below_drewN | apply below_drew1) | exact HB.out))) : w.heap.size ≤ gb256)); clear HB; have HB := n0_; have BK256 := n1_; have GW256 := n2_; have GE256 := n3_; clear n0_ n1_ n2_ n3_; clear hb hbox hg) | ((with_reducible refine gate_dst (N := 2) rfl ?_); refine box_event ?hg (N := 2) ?hd (cs := #[.int .i64 0, .slice none 0 0]) (t := 31) ?hr ?_; (case hd => rfl); (case hg => rfl); (case hr => first | (go_simp; done) | (go_simp; rfl)); intro gb257 hg w3 hbox hb; have n0_ := Aside0.mk (blk_below (g := gb256) (o := .cells #[.int .u8 a0_0, .int .u8 a0_1, .slice A0_2 l0_2.length c0_2] 24 (0, 0)) (by (with_reducible repeat (first | refine blk_drewN ?_ _ | refine blk_drew ?_ | refine blk_alloc ?_ _)); exact BK256.out) hb); have n1_ := Aside0.mk (below_step (by repeat (first | (with_reducible first | exact HB.out | apply below_alloc | apply pw_below_drewN | apply below_drew1 | refine below_set ?_ GE256.out) | exact HB.out)) hb); have n2_ := Aside0.mk (hbox); have n3_ := Aside0.mk ((by rw [hg]; exact (below_size (by repeat (first | (with_reducible first | exact HB.out | apply below_alloc | apply pw_below_drewN | apply below_drew1 | refine below_set ?_ GE256.out) | exact HB.out))) : w.heap.size ≤ gb257)); have n4_ := Aside0.mk ((by rw [hg]; exact (below_size (by repeat (first | (with_reducible first | exact HB.out | apply below_alloc | apply pw_below_drewN | apply below_drew1 | refine below_set ?_ GE256.out) | exact HB.out))) : w.heap.size ≤ gb257)); have n5_ := Aside0.mk ((by rw [hg]; exact Nat.ne_of_lt (blk_lt (g := gb256) (o := .cells #[.int .u8 a0_0, .int .u8 a0_1, .slice A0_2 l0_2.length c0_2] 24 (0, 0)) (by (with_reducible repeat (first | refine blk_drewN ?_ _ | refine blk_drew ?_ | refine blk_alloc ?_ _)); exact BK256.out)) : gb256 ≠ gb257)); have n6_ := Aside0.mk ((by rw [hg]; exact Nat.ne_of_gt (blk_lt (g := gb256) (o := .cells #[.int .u8 a0_0, .int .u8 a0_1, .slice A0_2 l0_2.length c0_2] 24 (0, 0)) (by (with_reducible repeat (first | refine blk_drewN ?_ _ | refine blk_drew ?_ | refine blk_alloc ?_ _)); exact BK256.out)) : gb257 ≠ gb256)); clear BK256; clear HB; have BK256 := n0_; have HB := n1_; have BK257 := n2_; have GW257 := n3_; have GE257 := n4_; have NB256_257 := n5_; have NB257_256 := n6_; clear n0_ n1_ n2_ n3_ n4_ n5_ n6_; clear hb hbox hg; have hnb4 := NB256_257.out; have hnc4 := NB257_256.out; have hcz5_0 : w3.cell? ⟨gb256, 0, none⟩ = some (.int .u8 a0_0) := (blk_cell BK256.out 0).trans rfl; have hcz5_1 : w3.cell? ⟨gb256, 1, none⟩ = some (.int .u8 a0_1) := (blk_cell BK256.out 1).trans rfl; have hcz5_2 : w3.cell? ⟨gb256, 2, none⟩ = some (.slice A0_2 l0_2.length c0_2) := (blk_cell BK256.out 2).trans rfl; have hfz5_0 := blk_frozen BK256.out 0; have hfz5_1 := blk_frozen BK256.out 1; have hfz5_2 := blk_frozen BK256.out 2) | ((with_reducible refine gate_dst (N := 4) rfl ?_); refine box_event ?hg (N := 4) ?hd (cs := #[.int .i64 0, .slice none 0 0]) (t := 31) ?hr ?_; (case hd => rfl); (case hg => rfl); (case hr => first | (go_simp; done) | (go_simp; rfl)); intro gb258 hg w6 hbox hb; have n0_ := Aside0.mk (blk_below (g := gb256) (o := .cells #[.int .u8 a0_0, .int .u8 a0_1, .slice A0_2 l0_2.length c0_2] 24 (0, 0)) (by (with_reducible repeat (first | refine blk_drewN ?_ _ | refine blk_drew ?_ | refine blk_alloc ?_ _)); exact BK256.out) hb); have n1_ := Aside0.mk (blk_below (g := gb257) (o := .cells #[.int .i64 0, .slice none 0 0] 31 (0, 0)) (by (with_reducible repeat (first | refine blk_drewN ?_ _ | refine blk_drew ?_ | refine blk_alloc ?_ _)); exact BK257.out) hb); have n2_ := Aside0.mk (below_step (by repeat (first | (with_reducible first | exact HB.out | apply below_alloc | apply pw_below_drewN | apply below_drew1 | refine below_set ?_ GE256.out | refine below_set ?_ GE257.out) | exact HB.out)) hb); have n3_ := Aside0.mk (hbox); have n4_ := Aside0.mk ((by rw [hg]; exact (below_size (by repeat (first | (with_reducible first | exact HB.out | apply below_alloc | apply pw_below_drewN | apply below_drew1 | refine below_set ?_ GE256.out | refine below_set ?_ GE257.out) | exact HB.out))) : w.heap.size ≤ gb258)); have n5_ := Aside0.mk ((by rw [hg]; exact (below_size (by repeat (first | (with_reducible first | exact HB.out | apply below_alloc | apply pw_below_drewN | apply below_drew1 | refine below_set ?_ GE256.out | refine below_set ?_ GE257.out) | exact HB.out))) : w.heap.size ≤ gb258)); have n6_ := Aside0.mk ((by rw [hg]; exact Nat.ne_of_lt (blk_lt (g := gb256) (o := .cells #[.int .u8 a0_0, .int .u8 a0_1, .slice A0_2 l0_2.length c0_2] 24 (0, 0)) (by (with_reducible repeat (first | refine blk_drewN ?_ _ | refine blk_drew ?_ | refine blk_alloc ?_ _)); exact BK256.out)) : gb256 ≠ gb258)); have n7_ := Aside0.mk ((by rw [hg]; exact Nat.ne_of_gt (blk_lt (g := gb256) (o := .cells #[.int .u8 a0_0, .int .u8 a0_1, .slice A0_2 l0_2.length c0_2] 24 (0, 0)) (by (with_reducible repeat (first | refine blk_drewN ?_ _ | refine blk_drew ?_ | refine blk_alloc ?_ _)); exact BK256.out)) : gb258 ≠ gb256)); have n8_ := Aside0.mk ((by rw [hg]; exact Nat.ne_of_lt (blk_lt (g := gb257) (o := .cells #[.int .i64 0, .slice none 0 0] 31 (0, 0)) (by (with_reducible repeat (first | refine blk_drewN ?_ _ | refine blk_drew ?_ | refine blk_alloc ?_ _)); exact BK257.out)) : gb257 ≠ gb258)); have n9_ := Aside0.mk ((by rw [hg]; exact Nat.ne_of_gt (blk_lt (g := gb257) (o := .cells #[.int .i64 0, .slice none 0 0] 31 (0, 0)) (by (with_reducible repeat (first | refine blk_drewN ?_ _ | refine blk_drew ?_ | refine blk_alloc ?_ _)); exact BK257.out)) : gb258 ≠ gb257)); clear BK256; clear BK257; clear HB; have BK256 := n0_; have BK257 := n1_; have HB := n2_; have BK258 := n3_; have GW258 := n4_; have GE258 := n5_; have NB256_258 := n6_; have NB258_256 := n7_; have NB257_258 := n8_; have NB258_257 := n9_; clear n0_ n1_ n2_ n3_ n4_ n5_ n6_ n7_ n8_ n9_; clear hb hbox hg; have hnb7 := NB258_256.out; have hnc7 := NB256_258.out; have hnb8 := NB258_257.out; have hnc8 := NB257_258.out; have hcz9_0 : w6.cell? ⟨gb258, 0, none⟩ = some (.int .i64 0) := (blk_cell BK258.out 0).trans rfl; have hcz9_1 : w6.cell? ⟨gb258, 1, none⟩ = some (.slice none 0 0) := (blk_cell BK258.out 1).trans rfl; have hfz9_0 := blk_frozen BK258.out 0; have hfz9_1 := blk_frozen BK258.out 1))
  go_loopg [5] k (fun kq v5 w' => ∃ (x5_1 : Int) (x259001_1 : List (S55)) (u259001 : Value), v5 = .int .i64 x5_1 ∧ Aside0 (wireloomref05_Made.l0 kq (wrap64 (Int.tmod a0_0 13)) x5_1 a0_0 a0_1 l0_2 (wrap64 (Int.tmod a0_0 13)) x259001_1 = some (r1, r2)) ∧ Aside0 (kq ≤ k) ∧ Aside0 (Kd.R k55 55 w' w.heap.size (fun _ => True) u259001 x259001_1) ∧ Aside0 (w'.heap[gb256]? = some (.cells #[.int .u8 a0_0, .int .u8 a0_1, (.slice A0_2 l0_2.length c0_2)] 24 (0, 0))) ∧ Aside0 (w'.heap[gb257]? = some (.cells #[.int .i64 0, (.slice none 0 0)] 31 (0, 0))) ∧ Aside0 (w'.heap[gb258]? = some (.cells #[.int .i64 (wrap64 (Int.tmod a0_0 13)), u259001] 31 (0, 0))) ∧ Aside0 (Below w.heap.size w w'))
  case atStart => exact ⟨(0), (([] : List (S55))), (.slice none 0 0), (by first | rfl | (simp; done) | (simp [*]; done)), H', ⟨Nat.le_refl _⟩, ⟨by first | exact Kd.R_nil _ _ _ _ _ | exact Kd.N_nil _ _ _ _ _ | exact Kd.V_nil _ _ _ _ _ | exact Kd.Q_nil _ _ _ _ _ | exact Kd.S_nil _ _ _ _ _⟩, ⟨by (with_reducible repeat (first | refine blk_drewN ?_ _ | refine blk_drew ?_ | refine blk_alloc ?_ _)); refine blk_far ?_ NB256_258.out _; (with_reducible repeat (first | refine blk_drewN ?_ _ | refine blk_drew ?_ | refine blk_alloc ?_ _)); refine blk_far ?_ NB256_258.out _; (with_reducible repeat (first | refine blk_drewN ?_ _ | refine blk_drew ?_ | refine blk_alloc ?_ _)); exact BK256.out⟩, ⟨by (with_reducible repeat (first | refine blk_drewN ?_ _ | refine blk_drew ?_ | refine blk_alloc ?_ _)); refine blk_far ?_ NB257_258.out _; (with_reducible repeat (first | refine blk_drewN ?_ _ | refine blk_drew ?_ | refine blk_alloc ?_ _)); refine blk_far ?_ NB257_258.out _; (with_reducible repeat (first | refine blk_drewN ?_ _ | refine blk_drew ?_ | refine blk_alloc ?_ _)); exact BK257.out⟩, ⟨by (with_reducible repeat (first | refine blk_drewN ?_ _ | refine blk_drew ?_ | refine blk_alloc ?_ _)); refine blk_put (cs := #[.int .i64 (wrap64 (Int.tmod a0_0 13)), .slice none 0 0]) ?_ 1 _ rfl; (with_reducible repeat (first | refine blk_drewN ?_ _ | refine blk_drew ?_ | refine blk_alloc ?_ _)); refine blk_put (cs := #[.int .i64 0, .slice none 0 0]) ?_ 0 _ rfl; (with_reducible repeat (first | refine blk_drewN ?_ _ | refine blk_drew ?_ | refine blk_alloc ?_ _)); exact BK258.out⟩, ⟨by repeat (first | (with_reducible first | exact HB.out | apply below_alloc | apply pw_below_drewN | apply below_drew1 | refine below_set ?_ GE256.out | refine below_set ?_ GE257.out | refine below_set ?_ GE258.out) | exact HB.out)⟩⟩
  case round =>
    clear H'
    try clear c1
    try clear p2
    try clear c4
    try clear p6
    try clear c7
    try clear c8
    try clear hcz5_0
    try clear hcz5_1
    try clear hcz5_2
    try clear hcz9_0
    try clear hcz9_1
    try clear hfz5_0
    try clear hfz5_1
    try clear hfz5_2
    try clear hfz9_0
    try clear hfz9_1
    obtain ⟨x5_1, x259001_1, u259001, rfl, HA, HK1, HO_259001, BK256, BK257, BK258, HB⟩ := hrel
    cases gk with
    | zero => exact absurd HA.out (by simp [wireloomref05_Made.l0])
    | succ k1 =>
      have H := HA.out
      clear HA
      simp only [wireloomref05_Made.l0] at H
      have HC10 := Aside0.mk H
      clear H
      go_upto_region 4 with (fail)
      go_cut [27] (fun v27 wc => ∃ (kq : Nat) (x27_9 : Bool), v27 = .bool x27_9 ∧ Aside0 (wireloomref05_Made.j1 kq (wrap64 (Int.tmod a0_0 13)) x5_1 x27_9 a0_0 a0_1 l0_2 (wrap64 (Int.tmod a0_0 13)) x259001_1 = some (r1, r2)) ∧ Aside0 (kq ≤ k1) ∧ Aside0 (Kd.R k55 55 wc w.heap.size (fun _ => True) u259001 x259001_1) ∧ Aside0 (wc.heap[gb256]? = some (.cells #[.int .u8 a0_0, .int .u8 a0_1, (.slice A0_2 l0_2.length c0_2)] 24 (0, 0))) ∧ Aside0 (wc.heap[gb257]? = some (.cells #[.int .i64 0, (.slice none 0 0)] 31 (0, 0))) ∧ Aside0 (wc.heap[gb258]? = some (.cells #[.int .i64 (wrap64 (Int.tmod a0_0 13)), u259001] 31 (0, 0))) ∧ Aside0 (Below w.heap.size w wc))
      case first =>
        have H := HC10.out
        clear HC10
        by_cases c11 : (wrap64 (x5_1 + 1)) < (l0_2.length : Int)
        · rw [if_pos c11] at H
          have c11b0 : decide ((wrap64 (x5_1 + 1)) < (l0_2.length : Int)) = true := decide_eq_true c11
          clear c11
          (first | rw [c11b0] | (simp only [i64_w, i32_w]; rw [c11b0]) | skip)
          by_cases c12 : x5_1 < 60
          · rw [if_pos c12] at H
            have c12b0 : decide (x5_1 < 60) = true := decide_eq_true c12
            clear c12
            have H' := Aside0.mk H
            clear H
            have hnb13 := NB256_257.out
            have hnc13 := NB257_256.out
            have hnb14 := NB256_258.out
            have hnc14 := NB258_256.out
            have hcz15_0 : wr.cell? ⟨gb256, 0, none⟩ = some (.int .u8 a0_0) := (blk_cell BK256.out 0).trans rfl
            have hcz15_1 : wr.cell? ⟨gb256, 1, none⟩ = some (.int .u8 a0_1) := (blk_cell BK256.out 1).trans rfl
            have hcz15_2 : wr.cell? ⟨gb256, 2, none⟩ = some (.slice A0_2 l0_2.length c0_2) := (blk_cell BK256.out 2).trans rfl
            have hfz15_0 := blk_frozen BK256.out 0
            have hfz15_1 := blk_frozen BK256.out 1
            have hfz15_2 := blk_frozen BK256.out 2
            go_wp2
            go_meet
            case rel => exact ⟨_, (decide ((wrap64 (Int.tmod a0_0 13)) > 0)), (by first | rfl | (simp; done) | (simp [*]; done)), H', ⟨by have := HK1.out; first | omega | exact Nat.le_refl _⟩, ⟨by (with_reducible repeat (first | apply Kd.R_alloc | apply Kd.R_drewN | apply Kd.R_drew)); exact HO_259001.out⟩, ⟨by (with_reducible repeat (first | refine blk_drewN ?_ _ | refine blk_drew ?_ | refine blk_alloc ?_ _)); exact BK256.out⟩, ⟨by (with_reducible repeat (first | refine blk_drewN ?_ _ | refine blk_drew ?_ | refine blk_alloc ?_ _)); exact BK257.out⟩, ⟨by (with_reducible repeat (first | refine blk_drewN ?_ _ | refine blk_drew ?_ | refine blk_alloc ?_ _)); exact BK258.out⟩, ⟨by repeat (first | (with_reducible first | exact HB.out | apply below_alloc | apply pw_below_drewN | apply below_drew1 | refine below_set ?_ GE256.out | refine below_set ?_ GE257.out | refine below_set ?_ GE258.out) | exact HB.out)⟩⟩
          · rw [if_neg c12] at H
            have c12b0 : decide (x5_1 < 60) = false := decide_eq_false c12
            clear c12
            have H' := Aside0.mk H
            clear H
            have hnb16 := NB256_257.out
            have hnc16 := NB257_256.out
            have hnb17 := NB256_258.out
            have hnc17 := NB258_256.out
            have hcz18_0 : wr.cell? ⟨gb256, 0, none⟩ = some (.int .u8 a0_0) := (blk_cell BK256.out 0).trans rfl
            have hcz18_1 : wr.cell? ⟨gb256, 1, none⟩ = some (.int .u8 a0_1) := (blk_cell BK256.out 1).trans rfl
            have hcz18_2 : wr.cell? ⟨gb256, 2, none⟩ = some (.slice A0_2 l0_2.length c0_2) := (blk_cell BK256.out 2).trans rfl
            have hfz18_0 := blk_frozen BK256.out 0
            have hfz18_1 := blk_frozen BK256.out 1
            have hfz18_2 := blk_frozen BK256.out 2
            go_wp2
            go_meet
            case rel => exact ⟨_, (false), (by first | rfl | (simp; done) | (simp [*]; done)), H', ⟨by have := HK1.out; first | omega | exact Nat.le_refl _⟩, ⟨by (with_reducible repeat (first | apply Kd.R_alloc | apply Kd.R_drewN | apply Kd.R_drew)); exact HO_259001.out⟩, ⟨by (with_reducible repeat (first | refine blk_drewN ?_ _ | refine blk_drew ?_ | refine blk_alloc ?_ _)); exact BK256.out⟩, ⟨by (with_reducible repeat (first | refine blk_drewN ?_ _ | refine blk_drew ?_ | refine blk_alloc ?_ _)); exact BK257.out⟩, ⟨by (with_reducible repeat (first | refine blk_drewN ?_ _ | refine blk_drew ?_ | refine blk_alloc ?_ _)); exact BK258.out⟩, ⟨by repeat (first | (with_reducible first | exact HB.out | apply below_alloc | apply pw_below_drewN | apply below_drew1 | refine below_set ?_ GE256.out | refine below_set ?_ GE257.out | refine below_set ?_ GE258.out) | exact HB.out)⟩⟩
        · rw [if_neg c11] at H
          have c11b0 : decide ((wrap64 (x5_1 + 1)) < (l0_2.length : Int)) = false := decide_eq_false c11
          clear c11
          (first | rw [c11b0] | (simp only [i64_w, i32_w]; rw [c11b0]) | skip)
          have H' := Aside0.mk H
          clear H
          have hnb19 := NB256_257.out
          have hnc19 := NB257_256.out
          have hnb20 := NB256_258.out
          have hnc20 := NB258_256.out
          have hcz21_0 : wr.cell? ⟨gb256, 0, none⟩ = some (.int .u8 a0_0) := (blk_cell BK256.out 0).trans rfl
          have hcz21_1 : wr.cell? ⟨gb256, 1, none⟩ = some (.int .u8 a0_1) := (blk_cell BK256.out 1).trans rfl
          have hcz21_2 : wr.cell? ⟨gb256, 2, none⟩ = some (.slice A0_2 l0_2.length c0_2) := (blk_cell BK256.out 2).trans rfl
          have hfz21_0 := blk_frozen BK256.out 0
          have hfz21_1 := blk_frozen BK256.out 1
          have hfz21_2 := blk_frozen BK256.out 2
          go_wp2
          go_meet
          case rel => exact ⟨_, (false), (by first | rfl | (simp; done) | (simp [*]; done)), H', ⟨by have := HK1.out; first | omega | exact Nat.le_refl _⟩, ⟨by (with_reducible repeat (first | apply Kd.R_alloc | apply Kd.R_drewN | apply Kd.R_drew)); exact HO_259001.out⟩, ⟨by (with_reducible repeat (first | refine blk_drewN ?_ _ | refine blk_drew ?_ | refine blk_alloc ?_ _)); exact BK256.out⟩, ⟨by (with_reducible repeat (first | refine blk_drewN ?_ _ | refine blk_drew ?_ | refine blk_alloc ?_ _)); exact BK257.out⟩, ⟨by (with_reducible repeat (first | refine blk_drewN ?_ _ | refine blk_drew ?_ | refine blk_alloc ?_ _)); exact BK258.out⟩, ⟨by repeat (first | (with_reducible first | exact HB.out | apply below_alloc | apply pw_below_drewN | apply below_drew1 | refine below_set ?_ GE256.out | refine below_set ?_ GE257.out | refine below_set ?_ GE258.out) | exact HB.out)⟩⟩
      case rest =>
        clear HC10
        try clear c1
        try clear c2
        try clear p2
        try clear c4
        try clear p6
        try clear c7
        try clear c8
        try clear c11
        try clear c11b0
        try clear c12
        try clear c12b0
        try clear c13
        try clear c14
        try clear c16
        try clear c17
        try clear c19
        try clear c20
        try clear hcz15_0
        try clear hcz15_1
        try clear hcz15_2
        try clear hcz18_0
        try clear hcz18_1
        try clear hcz18_2
        try clear hcz21_0
        try clear hcz21_1
        try clear hcz21_2
        try clear hcz5_0
        try clear hcz5_1
        try clear hcz5_2
        try clear hcz9_0
        try clear hcz9_1
        try clear hfz15_0
        try clear hfz15_1
        try clear hfz15_2
        try clear hfz18_0
        try clear hfz18_1
        try clear hfz18_2
        try clear hfz21_0
        try clear hfz21_1
        try clear hfz21_2
        try clear hfz5_0
        try clear hfz5_1
        try clear hfz5_2
        try clear hfz9_0
        try clear hfz9_1
        try clear p2
        try clear p6
        obtain ⟨kq, x27_9, rfl, HA, HJ9, HO_259001, BK256, BK257, BK258, HB⟩ := hcut
        cases kq with
        | zero => exact absurd HA.out (by simp [wireloomref05_Made.j1])
        | succ kj9 =>
          have H := HA.out
          clear HA
          simp only [wireloomref05_Made.j1] at H
          by_cases c22 : x27_9 = true
          · subst c22
            have H1 : (if 0 ≤ x5_1 then (if x5_1 < (l0_2.length : Int) then (if (wrap64 (Int.tmod a0_0 13)) = 0 then (none) else (if 0 ≤ (wrap64 (x5_1 + 1)) then (if (wrap64 (x5_1 + 1)) < (l0_2.length : Int) then (if (Int.tmod a0_1 2) = 0 then (if (Int.tmod (wrap64 (rd l0_2 x5_1)) (wrap64 (Int.tmod a0_0 13))) = (Int.tmod (wrap64 (rd l0_2 (wrap64 (x5_1 + 1)))) (wrap64 (Int.tmod a0_0 13))) then (wireloomref05_Made.l0 kj9 (wrap64 (Int.tmod a0_0 13)) (wrap64 (x5_1 + 2)) a0_0 a0_1 l0_2 (wrap64 (Int.tmod a0_0 13)) x259001_1) else (if (Int.tmod (wrap64 (rd l0_2 x5_1)) (wrap64 (Int.tmod a0_0 13))) > (Int.tmod (wrap64 (rd l0_2 (wrap64 (x5_1 + 1)))) (wrap64 (Int.tmod a0_0 13))) then (wireloomref05_Made.j2 kj9 (wrap64 (Int.tmod a0_0 13)) x5_1 (Int.tmod (wrap64 (rd l0_2 (wrap64 (x5_1 + 1)))) (wrap64 (Int.tmod a0_0 13))) (Int.tmod (wrap64 (rd l0_2 x5_1)) (wrap64 (Int.tmod a0_0 13))) a0_0 a0_1 l0_2 (wrap64 (Int.tmod a0_0 13)) x259001_1) else (wireloomref05_Made.j2 kj9 (wrap64 (Int.tmod a0_0 13)) x5_1 (Int.tmod (wrap64 (rd l0_2 x5_1)) (wrap64 (Int.tmod a0_0 13))) (Int.tmod (wrap64 (rd l0_2 (wrap64 (x5_1 + 1)))) (wrap64 (Int.tmod a0_0 13))) a0_0 a0_1 l0_2 (wrap64 (Int.tmod a0_0 13)) x259001_1))) else (if x259001_1.length < 8796093022208 then (wireloomref05_Made.l0 kj9 (wrap64 (Int.tmod a0_0 13)) (wrap64 (x5_1 + 2)) a0_0 a0_1 l0_2 (wrap64 (Int.tmod a0_0 13)) (x259001_1 ++ [(⟨Int.tmod (wrap64 (rd l0_2 x5_1)) (wrap64 (Int.tmod a0_0 13)), Int.tmod (wrap64 (rd l0_2 (wrap64 (x5_1 + 1)))) (wrap64 (Int.tmod a0_0 13))⟩ : S55)])) else (none))) else (none)) else (none))) else (none)) else (none)) = some (r1, r2) := by rw [if_pos rfl] at H; exact H
            clear H
            have H := H1
            clear H1
            by_cases c23 : 0 ≤ x5_1
            · rw [if_pos c23] at H
              have c23b0 : decide (0 ≤ x5_1) = true := decide_eq_true c23
              clear c23
              by_cases c24 : x5_1 < (l0_2.length : Int)
              · rw [if_pos c24] at H
                have c24b0 : decide (x5_1 < (l0_2.length : Int)) = true := decide_eq_true c24
                clear c24
                by_cases c25 : (wrap64 (Int.tmod a0_0 13)) = 0
                · rw [if_pos c25] at H
                  exact absurd H (by simp)
                · rw [if_neg c25] at H
                  have c25b0 : ((wrap64 (Int.tmod a0_0 13)) == 0) = false := beq_eq_false_iff_ne.mpr c25
                  have c25b1 : ((wrap64 (Int.tmod a0_0 13)) != 0) = true := bne_iff_ne.mpr c25
                  obtain ⟨ji26, hji26⟩ : ∃ j_ : Int, (wrap64 (x5_1 + 1)) = j_ := ⟨_, rfl⟩
                  replace H : (if 0 ≤ (ji26) then (if (ji26) < (l0_2.length : Int) then (if (Int.tmod a0_1 2) = 0 then (if (Int.tmod (wrap64 (rd l0_2 x5_1)) (wrap64 (Int.tmod a0_0 13))) = (Int.tmod (wrap64 (rd l0_2 (ji26))) (wrap64 (Int.tmod a0_0 13))) then (wireloomref05_Made.l0 kj9 (wrap64 (Int.tmod a0_0 13)) (wrap64 (x5_1 + 2)) a0_0 a0_1 l0_2 (wrap64 (Int.tmod a0_0 13)) x259001_1) else (if (Int.tmod (wrap64 (rd l0_2 x5_1)) (wrap64 (Int.tmod a0_0 13))) > (Int.tmod (wrap64 (rd l0_2 (ji26))) (wrap64 (Int.tmod a0_0 13))) then (wireloomref05_Made.j2 kj9 (wrap64 (Int.tmod a0_0 13)) x5_1 (Int.tmod (wrap64 (rd l0_2 (ji26))) (wrap64 (Int.tmod a0_0 13))) (Int.tmod (wrap64 (rd l0_2 x5_1)) (wrap64 (Int.tmod a0_0 13))) a0_0 a0_1 l0_2 (wrap64 (Int.tmod a0_0 13)) x259001_1) else (wireloomref05_Made.j2 kj9 (wrap64 (Int.tmod a0_0 13)) x5_1 (Int.tmod (wrap64 (rd l0_2 x5_1)) (wrap64 (Int.tmod a0_0 13))) (Int.tmod (wrap64 (rd l0_2 (ji26))) (wrap64 (Int.tmod a0_0 13))) a0_0 a0_1 l0_2 (wrap64 (Int.tmod a0_0 13)) x259001_1))) else (if x259001_1.length < 8796093022208 then (wireloomref05_Made.l0 kj9 (wrap64 (Int.tmod a0_0 13)) (wrap64 (x5_1 + 2)) a0_0 a0_1 l0_2 (wrap64 (Int.tmod a0_0 13)) (x259001_1 ++ [(⟨Int.tmod (wrap64 (rd l0_2 x5_1)) (wrap64 (Int.tmod a0_0 13)), Int.tmod (wrap64 (rd l0_2 (ji26))) (wrap64 (Int.tmod a0_0 13))⟩ : S55)])) else (none))) else (none)) else (none)) = some (r1, r2) := by first | (rw [hji26] at H; exact H) | (simp only [hji26] at H ⊢; exact H)
                  have hji26w : (IntKind.i64.wrap (x5_1 + 1)) = ji26 := (i64_w _).trans hji26
                  by_cases c27 : 0 ≤ (ji26)
                  · rw [if_pos c27] at H
                    have c27b0 : decide (0 ≤ (ji26)) = true := decide_eq_true c27
                    clear c27
                    by_cases c28 : (ji26) < (l0_2.length : Int)
                    · rw [if_pos c28] at H
                      have c28b0 : decide ((ji26) < (l0_2.length : Int)) = true := decide_eq_true c28
                      clear c28
                      by_cases c29 : (Int.tmod a0_1 2) = 0
                      · rw [if_pos c29] at H
                        have c29b0 : ((Int.tmod a0_1 2) == 0) = true := beq_iff_eq.mpr c29
                        have c29b1 : ((Int.tmod a0_1 2) != 0) = false := bne_eq_false_iff_eq.mpr c29
                        clear c29
                        by_cases c30 : (Int.tmod (wrap64 (rd l0_2 x5_1)) (wrap64 (Int.tmod a0_0 13))) = (Int.tmod (wrap64 (rd l0_2 (ji26))) (wrap64 (Int.tmod a0_0 13)))
                        · rw [if_pos c30] at H
                          have c30b0 : ((Int.tmod (wrap64 (rd l0_2 x5_1)) (wrap64 (Int.tmod a0_0 13))) == (Int.tmod (wrap64 (rd l0_2 (ji26))) (wrap64 (Int.tmod a0_0 13)))) = true := beq_iff_eq.mpr c30
                          have c30b1 : ((Int.tmod (wrap64 (rd l0_2 x5_1)) (wrap64 (Int.tmod a0_0 13))) != (Int.tmod (wrap64 (rd l0_2 (ji26))) (wrap64 (Int.tmod a0_0 13)))) = false := bne_eq_false_iff_eq.mpr c30
                          clear c30
                          have H' := Aside0.mk H
                          clear H
                          have hnb31 := NB256_257.out
                          have hnc31 := NB257_256.out
                          have hnb32 := NB256_258.out
                          have hnc32 := NB258_256.out
                          have hcz33_0 : wc.cell? ⟨gb256, 0, none⟩ = some (.int .u8 a0_0) := (blk_cell BK256.out 0).trans rfl
                          have hcz33_1 : wc.cell? ⟨gb256, 1, none⟩ = some (.int .u8 a0_1) := (blk_cell BK256.out 1).trans rfl
                          have hcz33_2 : wc.cell? ⟨gb256, 2, none⟩ = some (.slice A0_2 l0_2.length c0_2) := (blk_cell BK256.out 2).trans rfl
                          have hfz33_0 := blk_frozen BK256.out 0
                          have hfz33_1 := blk_frozen BK256.out 1
                          have hfz33_2 := blk_frozen BK256.out 2
                          have p259 : 0 ≤ (x5_1 : Int) := of_decide_eq_true (by first | (with_reducible assumption) | assumption)
                          have q259 : x5_1 < (l0_2.length : Int) := of_decide_eq_true (by first | (with_reducible assumption) | assumption)
                          obtain ⟨ad259, e259, hx259_0⟩ := Kd.at_int HR0_2.out x5_1 p259 q259
                          cases e259
                          (try (replace hx259_0 := (HB.out.cell (World.block_lt_of_cell? w _ hx259_0)).trans hx259_0))
                          replace p259 := eq_true p259
                          replace q259 := eq_true q259
                          have p260 : 0 ≤ ((ji26) : Int) := of_decide_eq_true (by first | (with_reducible assumption) | assumption)
                          have q260 : (ji26) < (l0_2.length : Int) := of_decide_eq_true (by first | (with_reducible assumption) | assumption)
                          obtain ⟨ad260, e260, hx260_0⟩ := Kd.at_int HR0_2.out (ji26) p260 q260
                          obtain rfl : ad259 = ad260 := (by injection e260)
                          (try (replace hx260_0 := (HB.out.cell (World.block_lt_of_cell? w _ hx260_0)).trans hx260_0))
                          replace p260 := eq_true p260
                          replace q260 := eq_true q260
                          go_wp2
                          go_roundg kj9
                          case measure => have := HK1.out; have := HJ9.out; omega
                          case rel => exact ⟨(wrap64 (x5_1 + 2)), (x259001_1), (u259001), (by first | rfl | (simp; done) | (simp [*]; done)), H', ⟨by have := HK1.out; have := HJ9.out; omega⟩, ⟨by (with_reducible repeat (first | apply Kd.R_alloc | apply Kd.R_drewN | apply Kd.R_drew)); exact HO_259001.out⟩, ⟨by (with_reducible repeat (first | refine blk_drewN ?_ _ | refine blk_drew ?_ | refine blk_alloc ?_ _)); exact BK256.out⟩, ⟨by (with_reducible repeat (first | refine blk_drewN ?_ _ | refine blk_drew ?_ | refine blk_alloc ?_ _)); exact BK257.out⟩, ⟨by (with_reducible repeat (first | refine blk_drewN ?_ _ | refine blk_drew ?_ | refine blk_alloc ?_ _)); exact BK258.out⟩, ⟨by repeat (first | (with_reducible first | exact HB.out | apply below_alloc | apply pw_below_drewN | apply below_drew1 | refine below_set ?_ GE256.out | refine below_set ?_ GE257.out | refine below_set ?_ GE258.out) | exact HB.out)⟩⟩
                        · rw [if_neg c30] at H
                          have c30b0 : ((Int.tmod (wrap64 (rd l0_2 x5_1)) (wrap64 (Int.tmod a0_0 13))) == (Int.tmod (wrap64 (rd l0_2 (ji26))) (wrap64 (Int.tmod a0_0 13)))) = false := beq_eq_false_iff_ne.mpr c30
                          have c30b1 : ((Int.tmod (wrap64 (rd l0_2 x5_1)) (wrap64 (Int.tmod a0_0 13))) != (Int.tmod (wrap64 (rd l0_2 (ji26))) (wrap64 (Int.tmod a0_0 13)))) = true := bne_iff_ne.mpr c30
                          have HC34 := Aside0.mk H
                          clear H
                          have hnb35 := NB256_257.out
                          have hnc35 := NB257_256.out
                          have hnb36 := NB256_258.out
                          have hnc36 := NB258_256.out
                          have hcz37_0 : wc.cell? ⟨gb256, 0, none⟩ = some (.int .u8 a0_0) := (blk_cell BK256.out 0).trans rfl
                          have hcz37_1 : wc.cell? ⟨gb256, 1, none⟩ = some (.int .u8 a0_1) := (blk_cell BK256.out 1).trans rfl
                          have hcz37_2 : wc.cell? ⟨gb256, 2, none⟩ = some (.slice A0_2 l0_2.length c0_2) := (blk_cell BK256.out 2).trans rfl
                          have hfz37_0 := blk_frozen BK256.out 0
                          have hfz37_1 := blk_frozen BK256.out 1
                          have hfz37_2 := blk_frozen BK256.out 2
                          have p259 : 0 ≤ (x5_1 : Int) := of_decide_eq_true (by first | (with_reducible assumption) | assumption)
                          have q259 : x5_1 < (l0_2.length : Int) := of_decide_eq_true (by first | (with_reducible assumption) | assumption)
                          obtain ⟨ad259, e259, hx259_0⟩ := Kd.at_int HR0_2.out x5_1 p259 q259
                          cases e259
                          (try (replace hx259_0 := (HB.out.cell (World.block_lt_of_cell? w _ hx259_0)).trans hx259_0))
                          replace p259 := eq_true p259
                          replace q259 := eq_true q259
                          have p260 : 0 ≤ ((ji26) : Int) := of_decide_eq_true (by first | (with_reducible assumption) | assumption)
                          have q260 : (ji26) < (l0_2.length : Int) := of_decide_eq_true (by first | (with_reducible assumption) | assumption)
                          obtain ⟨ad260, e260, hx260_0⟩ := Kd.at_int HR0_2.out (ji26) p260 q260
                          obtain rfl : ad259 = ad260 := (by injection e260)
                          (try (replace hx260_0 := (HB.out.cell (World.block_lt_of_cell? w _ hx260_0)).trans hx260_0))
                          replace p260 := eq_true p260
                          replace q260 := eq_true q260
                          go_upto_if 56 with (fail)
                          go_cut [6, 7] (fun v6 v7 wc => ∃ (kq : Nat) (x6_33 : Int) (x7_33 : Int), v6 = .int .i64 x6_33 ∧ v7 = .int .i64 x7_33 ∧ Aside0 (wireloomref05_Made.j2 kq (wrap64 (Int.tmod a0_0 13)) x5_1 x6_33 x7_33 a0_0 a0_1 l0_2 (wrap64 (Int.tmod a0_0 13)) x259001_1 = some (r1, r2)) ∧ Aside0 (kq ≤ kj9) ∧ Aside0 (Kd.R k55 55 wc w.heap.size (fun _ => True) u259001 x259001_1) ∧ Aside0 (wc.heap[gb256]? = some (.cells #[.int .u8 a0_0, .int .u8 a0_1, (.slice (some ad259) l0_2.length c0_2)] 24 (0, 0))) ∧ Aside0 (wc.heap[gb257]? = some (.cells #[.int .i64 0, (.slice none 0 0)] 31 (0, 0))) ∧ Aside0 (wc.heap[gb258]? = some (.cells #[.int .i64 (wrap64 (Int.tmod a0_0 13)), u259001] 31 (0, 0))) ∧ Aside0 (Below w.heap.size w wc))
                          case first =>
                            have H := HC34.out
                            clear HC34
                            by_cases c38 : (Int.tmod (wrap64 (rd l0_2 x5_1)) (wrap64 (Int.tmod a0_0 13))) > (Int.tmod (wrap64 (rd l0_2 (ji26))) (wrap64 (Int.tmod a0_0 13)))
                            · rw [if_pos c38] at H
                              have c38b0 : decide ((Int.tmod (wrap64 (rd l0_2 (ji26))) (wrap64 (Int.tmod a0_0 13))) < (Int.tmod (wrap64 (rd l0_2 x5_1)) (wrap64 (Int.tmod a0_0 13)))) = true := decide_eq_true c38
                              clear c38
                              (first | rw [c38b0] | (simp only [i64_w, i32_w]; rw [c38b0]) | skip)
                              have H' := Aside0.mk H
                              clear H
                              go_wp2
                              go_meet
                              case rel => exact ⟨_, (Int.tmod (wrap64 (rd l0_2 (ji26))) (wrap64 (Int.tmod a0_0 13))), (Int.tmod (wrap64 (rd l0_2 x5_1)) (wrap64 (Int.tmod a0_0 13))), (by first | rfl | (simp; done) | (simp only [← hji26] <;> (first | rfl | simp)) | (simp [*]; done)), (by first | rfl | (simp; done) | (simp [*]; done)), H', ⟨by have := HK1.out; have := HJ9.out; first | omega | exact Nat.le_refl _⟩, ⟨by (with_reducible repeat (first | apply Kd.R_alloc | apply Kd.R_drewN | apply Kd.R_drew)); exact HO_259001.out⟩, ⟨by (with_reducible repeat (first | refine blk_drewN ?_ _ | refine blk_drew ?_ | refine blk_alloc ?_ _)); exact BK256.out⟩, ⟨by (with_reducible repeat (first | refine blk_drewN ?_ _ | refine blk_drew ?_ | refine blk_alloc ?_ _)); exact BK257.out⟩, ⟨by (with_reducible repeat (first | refine blk_drewN ?_ _ | refine blk_drew ?_ | refine blk_alloc ?_ _)); exact BK258.out⟩, ⟨by repeat (first | (with_reducible first | exact HB.out | apply below_alloc | apply pw_below_drewN | apply below_drew1 | refine below_set ?_ GE256.out | refine below_set ?_ GE257.out | refine below_set ?_ GE258.out) | exact HB.out)⟩⟩
                            · rw [if_neg c38] at H
                              have c38b0 : decide ((Int.tmod (wrap64 (rd l0_2 (ji26))) (wrap64 (Int.tmod a0_0 13))) < (Int.tmod (wrap64 (rd l0_2 x5_1)) (wrap64 (Int.tmod a0_0 13)))) = false := decide_eq_false c38
                              clear c38
                              (first | rw [c38b0] | (simp only [i64_w, i32_w]; rw [c38b0]) | skip)
                              have H' := Aside0.mk H
                              clear H
                              go_wp2
                              go_meet
                              case rel => exact ⟨_, (Int.tmod (wrap64 (rd l0_2 x5_1)) (wrap64 (Int.tmod a0_0 13))), (Int.tmod (wrap64 (rd l0_2 (ji26))) (wrap64 (Int.tmod a0_0 13))), (by first | rfl | (simp; done) | (simp [*]; done)), (by first | rfl | (simp; done) | (simp only [← hji26] <;> (first | rfl | simp)) | (simp [*]; done)), H', ⟨by have := HK1.out; have := HJ9.out; first | omega | exact Nat.le_refl _⟩, ⟨by (with_reducible repeat (first | apply Kd.R_alloc | apply Kd.R_drewN | apply Kd.R_drew)); exact HO_259001.out⟩, ⟨by (with_reducible repeat (first | refine blk_drewN ?_ _ | refine blk_drew ?_ | refine blk_alloc ?_ _)); exact BK256.out⟩, ⟨by (with_reducible repeat (first | refine blk_drewN ?_ _ | refine blk_drew ?_ | refine blk_alloc ?_ _)); exact BK257.out⟩, ⟨by (with_reducible repeat (first | refine blk_drewN ?_ _ | refine blk_drew ?_ | refine blk_alloc ?_ _)); exact BK258.out⟩, ⟨by repeat (first | (with_reducible first | exact HB.out | apply below_alloc | apply pw_below_drewN | apply below_drew1 | refine below_set ?_ GE256.out | refine below_set ?_ GE257.out | refine below_set ?_ GE258.out) | exact HB.out)⟩⟩
                          case rest =>
                            clear HC34
                            try clear c1
                            try clear c2
                            try clear p2
                            try clear q2
                            try clear hx2
                            try clear c3
                            try clear c4
                            try clear p6
                            try clear c7
                            try clear c8
                            try clear c11
                            try clear c11b0
                            try clear c12
                            try clear c12b0
                            try clear c13
                            try clear c14
                            try clear c16
                            try clear c17
                            try clear c19
                            try clear c20
                            try clear c22
                            try clear c23
                            try clear c23b0
                            try clear c24
                            try clear c24b0
                            try clear c25
                            try clear c25b0
                            try clear c25b1
                            try clear p25
                            try clear q25
                            try clear hx25
                            try clear p26
                            try clear q26
                            try clear hx26
                            try clear c27
                            try clear c27b0
                            try clear c28
                            try clear c28b0
                            try clear c29
                            try clear c29b0
                            try clear c29b1
                            try clear c30
                            try clear c30b0
                            try clear c30b1
                            try clear c31
                            try clear c32
                            try clear c35
                            try clear c36
                            try clear c38
                            try clear c38b0
                            try clear hcz15_0
                            try clear hcz15_1
                            try clear hcz15_2
                            try clear hcz18_0
                            try clear hcz18_1
                            try clear hcz18_2
                            try clear hcz21_0
                            try clear hcz21_1
                            try clear hcz21_2
                            try clear hcz33_0
                            try clear hcz33_1
                            try clear hcz33_2
                            try clear hcz37_0
                            try clear hcz37_1
                            try clear hcz37_2
                            try clear hcz5_0
                            try clear hcz5_1
                            try clear hcz5_2
                            try clear hcz9_0
                            try clear hcz9_1
                            try clear hfz15_0
                            try clear hfz15_1
                            try clear hfz15_2
                            try clear hfz18_0
                            try clear hfz18_1
                            try clear hfz18_2
                            try clear hfz21_0
                            try clear hfz21_1
                            try clear hfz21_2
                            try clear hfz33_0
                            try clear hfz33_1
                            try clear hfz33_2
                            try clear hfz37_0
                            try clear hfz37_1
                            try clear hfz37_2
                            try clear hfz5_0
                            try clear hfz5_1
                            try clear hfz5_2
                            try clear hfz9_0
                            try clear hfz9_1
                            try clear hx259_0
                            try clear hx260_0
                            try clear p2
                            try clear p259
                            try clear p260
                            try clear p6
                            try clear q259
                            try clear q260
                            obtain ⟨kq, x6_33, x7_33, rfl, rfl, HA, HJ33, HO_259001, BK256, BK257, BK258, HB⟩ := hcut
                            cases kq with
                            | zero => exact absurd HA.out (by simp [wireloomref05_Made.j2])
                            | succ kj33 =>
                              have H := HA.out
                              clear HA
                              simp only [wireloomref05_Made.j2] at H
                              by_cases c39 : (Int.tmod a0_1 4) = 2
                              · rw [if_pos c39] at H
                                have c39b0 : ((Int.tmod a0_1 4) == 2) = true := beq_iff_eq.mpr c39
                                have c39b1 : ((Int.tmod a0_1 4) != 2) = false := bne_eq_false_iff_eq.mpr c39
                                clear c39
                                by_cases c40 : (wrap64 (Int.tmod a0_0 13)) = 0
                                · rw [if_pos c40] at H
                                  exact absurd H (by simp)
                                · rw [if_neg c40] at H
                                  have c40b0 : ((wrap64 (Int.tmod a0_0 13)) == 0) = false := beq_eq_false_iff_ne.mpr c40
                                  have c40b1 : ((wrap64 (Int.tmod a0_0 13)) != 0) = true := bne_iff_ne.mpr c40
                                  by_cases c41 : (Int.tmod (wrap64 (Int.tmod a0_0 13)) 5) = 0
                                  · rw [if_pos c41] at H
                                    have c41b0 : ((Int.tmod (wrap64 (Int.tmod a0_0 13)) 5) == 0) = true := beq_iff_eq.mpr c41
                                    have c41b1 : ((Int.tmod (wrap64 (Int.tmod a0_0 13)) 5) != 0) = false := bne_eq_false_iff_eq.mpr c41
                                    clear c41
                                    have H' := Aside0.mk H
                                    clear H
                                    have hnb42 := NB256_257.out
                                    have hnc42 := NB257_256.out
                                    have hnb43 := NB256_258.out
                                    have hnc43 := NB258_256.out
                                    have hcz44_0 : wc.cell? ⟨gb256, 0, none⟩ = some (.int .u8 a0_0) := (blk_cell BK256.out 0).trans rfl
                                    have hcz44_1 : wc.cell? ⟨gb256, 1, none⟩ = some (.int .u8 a0_1) := (blk_cell BK256.out 1).trans rfl
                                    have hcz44_2 : wc.cell? ⟨gb256, 2, none⟩ = some (.slice (some ad259) l0_2.length c0_2) := (blk_cell BK256.out 2).trans rfl
                                    have hfz44_0 := blk_frozen BK256.out 0
                                    have hfz44_1 := blk_frozen BK256.out 1
                                    have hfz44_2 := blk_frozen BK256.out 2
                                    go_wp2
                                    go_roundg kj33
                                    case measure => have := HK1.out; have := HJ9.out; have := HJ33.out; omega
                                    case rel => exact ⟨(wrap64 (x5_1 + 2)), (x259001_1), (u259001), (by first | rfl | (simp; done) | (simp [*]; done)), H', ⟨by have := HK1.out; have := HJ9.out; have := HJ33.out; omega⟩, ⟨by (with_reducible repeat (first | apply Kd.R_alloc | apply Kd.R_drewN | apply Kd.R_drew)); exact HO_259001.out⟩, ⟨by (with_reducible repeat (first | refine blk_drewN ?_ _ | refine blk_drew ?_ | refine blk_alloc ?_ _)); exact BK256.out⟩, ⟨by (with_reducible repeat (first | refine blk_drewN ?_ _ | refine blk_drew ?_ | refine blk_alloc ?_ _)); exact BK257.out⟩, ⟨by (with_reducible repeat (first | refine blk_drewN ?_ _ | refine blk_drew ?_ | refine blk_alloc ?_ _)); exact BK258.out⟩, ⟨by repeat (first | (with_reducible first | exact HB.out | apply below_alloc | apply pw_below_drewN | apply below_drew1 | refine below_set ?_ GE256.out | refine below_set ?_ GE257.out | refine below_set ?_ GE258.out) | exact HB.out)⟩⟩
                                  · rw [if_neg c41] at H
                                    have c41b0 : ((Int.tmod (wrap64 (Int.tmod a0_0 13)) 5) == 0) = false := beq_eq_false_iff_ne.mpr c41
                                    have c41b1 : ((Int.tmod (wrap64 (Int.tmod a0_0 13)) 5) != 0) = true := bne_iff_ne.mpr c41
                                    by_cases c45 : x259001_1.length < 8796093022208
                                    · rw [if_pos c45] at H
                                      have LMc45 := Aside0.mk c45
                                      clear c45
                                      obtain ⟨y261, hy261⟩ : ∃ y_ : List (S55), y_ = (x259001_1 ++ [(⟨Int.tmod (wrap64 ((wrap64 (5 * x6_33)) + 3)) (wrap64 (Int.tmod a0_0 13)), Int.tmod (wrap64 ((wrap64 (5 * x7_33)) + 3)) (wrap64 (Int.tmod a0_0 13))⟩ : S55)]) := ⟨_, rfl⟩
                                      replace H : (wireloomref05_Made.l0 kj33 (wrap64 (Int.tmod a0_0 13)) (wrap64 (x5_1 + 2)) a0_0 a0_1 l0_2 (wrap64 (Int.tmod a0_0 13)) y261) = some (r1, r2) := by first | (rw [hy261]; with_reducible exact H) | (have H2_ := (Option.bind_some _ _).symm.trans H; rw [hy261]; with_reducible exact H2_) | (have H2_ := (Option.bind_some _ _).symm.trans H; with_reducible exact H2_) | with_reducible exact H | (rw [hy261]; exact H) | exact H
                                      have Ny261 := Aside0.mk hy261
                                      clear hy261
                                      have H' := Aside0.mk H
                                      clear H
                                      have hnb46 := NB256_257.out
                                      have hnc46 := NB257_256.out
                                      have hnb47 := NB256_258.out
                                      have hnc47 := NB258_256.out
                                      have hcz48_0 : wc.cell? ⟨gb256, 0, none⟩ = some (.int .u8 a0_0) := (blk_cell BK256.out 0).trans rfl
                                      have hcz48_1 : wc.cell? ⟨gb256, 1, none⟩ = some (.int .u8 a0_1) := (blk_cell BK256.out 1).trans rfl
                                      have hcz48_2 : wc.cell? ⟨gb256, 2, none⟩ = some (.slice (some ad259) l0_2.length c0_2) := (blk_cell BK256.out 2).trans rfl
                                      have hfz48_0 := blk_frozen BK256.out 0
                                      have hfz48_1 := blk_frozen BK256.out 1
                                      have hfz48_2 := blk_frozen BK256.out 2
                                      have hnb49 := NB258_257.out
                                      have hnc49 := NB257_258.out
                                      have hcz50_0 : wc.cell? ⟨gb258, 0, none⟩ = some (.int .i64 (wrap64 (Int.tmod a0_0 13))) := (blk_cell BK258.out 0).trans rfl
                                      have hcz50_1 : wc.cell? ⟨gb258, 1, none⟩ = some (u259001) := (blk_cell BK258.out 1).trans rfl
                                      have hfz50_0 := blk_frozen BK258.out 0
                                      have hfz50_1 := blk_frozen BK258.out 1
                                      go_wp2_with (first | ((with_reducible refine gate_builtin (b := .append) (xs := #[.tmp 83, .tmp 87]) rfl ?_); at_builtin; refine Kd.R_append k55 (w0 := w) w.heap.size rfl (.tmp 83) (.tmp 87) 25 55 (.agg #[(.int .i64 0), (.int .i64 0)]) 16 rfl Try.underlying25 info55 rfl (by decide) (by omega) u259001 x259001_1 (⟨Int.tmod (wrap64 ((wrap64 (5 * x6_33)) + 3)) (wrap64 (Int.tmod a0_0 13)), Int.tmod (wrap64 ((wrap64 (5 * x7_33)) + 3)) (wrap64 (Int.tmod a0_0 13))⟩ : S55) [.int .i64 (Int.tmod (wrap64 ((wrap64 (5 * x6_33)) + 3)) (wrap64 (Int.tmod a0_0 13))), .int .i64 (Int.tmod (wrap64 ((wrap64 (5 * x7_33)) + 3)) (wrap64 (Int.tmod a0_0 13)))] (fun _ => True) (fun _ => False) rfl rfl ?aP (fun _ hk => hk.elim) ?aF ?aO ?aB ?aS ?aL ?_; (case aP => exact k55_mkM _ _ _ (⟨Int.tmod (wrap64 ((wrap64 (5 * x6_33)) + 3)) (wrap64 (Int.tmod a0_0 13)), Int.tmod (wrap64 ((wrap64 (5 * x7_33)) + 3)) (wrap64 (Int.tmod a0_0 13))⟩ : S55)); (case aB => exact (by repeat (first | (with_reducible first | exact HB.out | apply below_alloc | apply pw_below_drewN | apply below_drew1 | refine below_set ?_ GE256.out | refine below_set ?_ GE257.out | refine below_set ?_ GE258.out) | exact HB.out))); (case aF => exact (fun _ _ => trivial)); (case aO => exact (by (with_reducible repeat (first | apply Kd.R_alloc | apply Kd.R_drewN | apply Kd.R_drew)); exact HO_259001.out)); (case aS => exact (below_size (by repeat (first | (with_reducible first | exact HB.out | apply below_alloc | apply pw_below_drewN | apply below_drew1 | refine below_set ?_ GE256.out | refine below_set ?_ GE257.out | refine below_set ?_ GE258.out) | exact HB.out)))); (case aL => have := LMc45.out; omega); intro v262 w51 ho hb hg hat; rw [← Ny261.out] at ho; have n0_ := Aside0.mk (blk_grown (g := gb256) (o := .cells #[.int .u8 a0_0, .int .u8 a0_1, .slice (some ad259) l0_2.length c0_2] 24 (0, 0)) (by (with_reducible repeat (first | refine blk_drewN ?_ _ | refine blk_drew ?_ | refine blk_alloc ?_ _)); exact BK256.out) hg (Kd.R_ne HO_259001.out BK256.out (by decide))); have n1_ := Aside0.mk (blk_grown (g := gb257) (o := .cells #[.int .i64 0, .slice none 0 0] 31 (0, 0)) (by (with_reducible repeat (first | refine blk_drewN ?_ _ | refine blk_drew ?_ | refine blk_alloc ?_ _)); exact BK257.out) hg (Kd.R_ne HO_259001.out BK257.out (by decide))); have n2_ := Aside0.mk (blk_grown (g := gb258) (o := .cells #[.int .i64 (wrap64 (Int.tmod a0_0 13)), u259001] 31 (0, 0)) (by (with_reducible repeat (first | refine blk_drewN ?_ _ | refine blk_drew ?_ | refine blk_alloc ?_ _)); exact BK258.out) hg (Kd.R_ne HO_259001.out BK258.out (by decide))); have n3_ := Aside0.mk (hb); have n4_ := Aside0.mk (ho); clear BK256; clear BK257; clear BK258; clear HB; clear HO_259001; have BK256 := n0_; have BK257 := n1_; have BK258 := n2_; have HB := n3_; have HO263 := n4_; clear n0_ n1_ n2_ n3_ n4_; clear ho hb hg hat; obtain ⟨Ao52, co52, eo52⟩ := Kd.R_slice HO263.out; subst eo52; have hcz53_0 : w51.cell? ⟨gb258, 0, none⟩ = some (.int .i64 (wrap64 (Int.tmod a0_0 13))) := (blk_cell BK258.out 0).trans rfl; have hcz53_1 : w51.cell? ⟨gb258, 1, none⟩ = some (u259001) := (blk_cell BK258.out 1).trans rfl; have hfz53_0 := blk_frozen BK258.out 0; have hfz53_1 := blk_frozen BK258.out 1))
                                      go_roundg kj33
                                      case measure => have := HK1.out; have := HJ9.out; have := HJ33.out; omega
                                      case rel => exact ⟨(wrap64 (x5_1 + 2)), (y261), (.slice Ao52 y261.length co52), (by first | rfl | (simp; done) | (simp [*]; done)), H', ⟨by have := HK1.out; have := HJ9.out; have := HJ33.out; omega⟩, ⟨by (with_reducible repeat (first | apply Kd.R_alloc | apply Kd.R_drewN | apply Kd.R_drew)); exact Kd.R_mono (Kd.R_far (p := ⟨gb258, 1, none⟩) (Kd.R_types HO263.out BK258.out (by decide)) (fun _ hk => hk.2) (.slice Ao52 y261.length co52)) (fun _ hk => trivial)⟩, ⟨by (with_reducible repeat (first | refine blk_drewN ?_ _ | refine blk_drew ?_ | refine blk_alloc ?_ _)); refine blk_far ?_ NB256_258.out _; (with_reducible repeat (first | refine blk_drewN ?_ _ | refine blk_drew ?_ | refine blk_alloc ?_ _)); exact BK256.out⟩, ⟨by (with_reducible repeat (first | refine blk_drewN ?_ _ | refine blk_drew ?_ | refine blk_alloc ?_ _)); refine blk_far ?_ NB257_258.out _; (with_reducible repeat (first | refine blk_drewN ?_ _ | refine blk_drew ?_ | refine blk_alloc ?_ _)); exact BK257.out⟩, ⟨by (with_reducible repeat (first | refine blk_drewN ?_ _ | refine blk_drew ?_ | refine blk_alloc ?_ _)); refine blk_put (cs := #[.int .i64 (wrap64 (Int.tmod a0_0 13)), u259001]) ?_ 1 _ rfl; (with_reducible repeat (first | refine blk_drewN ?_ _ | refine blk_drew ?_ | refine blk_alloc ?_ _)); exact BK258.out⟩, ⟨by repeat (first | (with_reducible first | exact HB.out | apply below_alloc | apply pw_below_drewN | apply below_drew1 | refine below_set ?_ GE256.out | refine below_set ?_ GE257.out | refine below_set ?_ GE258.out) | exact HB.out)⟩⟩
                                    · rw [if_neg c45] at H
                                      exact absurd H (by simp)
                              · rw [if_neg c39] at H
                                have c39b0 : ((Int.tmod a0_1 4) == 2) = false := beq_eq_false_iff_ne.mpr c39
                                have c39b1 : ((Int.tmod a0_1 4) != 2) = true := bne_iff_ne.mpr c39
                                by_cases c54 : (Int.tmod (wrap64 (Int.tmod a0_0 13)) 5) = 0
                                · rw [if_pos c54] at H
                                  have c54b0 : ((Int.tmod (wrap64 (Int.tmod a0_0 13)) 5) == 0) = true := beq_iff_eq.mpr c54
                                  have c54b1 : ((Int.tmod (wrap64 (Int.tmod a0_0 13)) 5) != 0) = false := bne_eq_false_iff_eq.mpr c54
                                  clear c54
                                  by_cases c55 : x259001_1.length < 8796093022208
                                  · rw [if_pos c55] at H
                                    have LMc55 := Aside0.mk c55
                                    clear c55
                                    obtain ⟨y264, hy264⟩ : ∃ y_ : List (S55), y_ = (x259001_1 ++ [(⟨x6_33, x7_33⟩ : S55)]) := ⟨_, rfl⟩
                                    replace H : (wireloomref05_Made.l0 kj33 (wrap64 (Int.tmod a0_0 13)) (wrap64 (x5_1 + 2)) a0_0 a0_1 l0_2 (wrap64 (Int.tmod a0_0 13)) y264) = some (r1, r2) := by first | (rw [hy264]; with_reducible exact H) | (have H2_ := (Option.bind_some _ _).symm.trans H; rw [hy264]; with_reducible exact H2_) | (have H2_ := (Option.bind_some _ _).symm.trans H; with_reducible exact H2_) | with_reducible exact H | (rw [hy264]; exact H) | exact H
                                    have Ny264 := Aside0.mk hy264
                                    clear hy264
                                    have H' := Aside0.mk H
                                    clear H
                                    have hnb56 := NB256_257.out
                                    have hnc56 := NB257_256.out
                                    have hnb57 := NB256_258.out
                                    have hnc57 := NB258_256.out
                                    have hcz58_0 : wc.cell? ⟨gb256, 0, none⟩ = some (.int .u8 a0_0) := (blk_cell BK256.out 0).trans rfl
                                    have hcz58_1 : wc.cell? ⟨gb256, 1, none⟩ = some (.int .u8 a0_1) := (blk_cell BK256.out 1).trans rfl
                                    have hcz58_2 : wc.cell? ⟨gb256, 2, none⟩ = some (.slice (some ad259) l0_2.length c0_2) := (blk_cell BK256.out 2).trans rfl
                                    have hfz58_0 := blk_frozen BK256.out 0
                                    have hfz58_1 := blk_frozen BK256.out 1
                                    have hfz58_2 := blk_frozen BK256.out 2
                                    have hnb59 := NB258_257.out
                                    have hnc59 := NB257_258.out
                                    have hcz60_0 : wc.cell? ⟨gb258, 0, none⟩ = some (.int .i64 (wrap64 (Int.tmod a0_0 13))) := (blk_cell BK258.out 0).trans rfl
                                    have hcz60_1 : wc.cell? ⟨gb258, 1, none⟩ = some (u259001) := (blk_cell BK258.out 1).trans rfl
                                    have hfz60_0 := blk_frozen BK258.out 0
                                    have hfz60_1 := blk_frozen BK258.out 1
                                    go_wp2_with (first | ((with_reducible refine gate_builtin (b := .append) (xs := #[.tmp 83, .tmp 87]) rfl ?_); at_builtin; refine Kd.R_append k55 (w0 := w) w.heap.size rfl (.tmp 83) (.tmp 87) 25 55 (.agg #[(.int .i64 0), (.int .i64 0)]) 16 rfl Try.underlying25 info55 rfl (by decide) (by omega) u259001 x259001_1 (⟨x6_33, x7_33⟩ : S55) [.int .i64 x6_33, .int .i64 x7_33] (fun _ => True) (fun _ => False) rfl rfl ?aP (fun _ hk => hk.elim) ?aF ?aO ?aB ?aS ?aL ?_; (case aP => exact k55_mkM _ _ _ (⟨x6_33, x7_33⟩ : S55)); (case aB => exact (by repeat (first | (with_reducible first | exact HB.out | apply below_alloc | apply pw_below_drewN | apply below_drew1 | refine below_set ?_ GE256.out | refine below_set ?_ GE257.out | refine below_set ?_ GE258.out) | exact HB.out))); (case aF => exact (fun _ _ => trivial)); (case aO => exact (by (with_reducible repeat (first | apply Kd.R_alloc | apply Kd.R_drewN | apply Kd.R_drew)); exact HO_259001.out)); (case aS => exact (below_size (by repeat (first | (with_reducible first | exact HB.out | apply below_alloc | apply pw_below_drewN | apply below_drew1 | refine below_set ?_ GE256.out | refine below_set ?_ GE257.out | refine below_set ?_ GE258.out) | exact HB.out)))); (case aL => have := LMc55.out; omega); intro v265 w61 ho hb hg hat; rw [← Ny264.out] at ho; have n0_ := Aside0.mk (blk_grown (g := gb256) (o := .cells #[.int .u8 a0_0, .int .u8 a0_1, .slice (some ad259) l0_2.length c0_2] 24 (0, 0)) (by (with_reducible repeat (first | refine blk_drewN ?_ _ | refine blk_drew ?_ | refine blk_alloc ?_ _)); exact BK256.out) hg (Kd.R_ne HO_259001.out BK256.out (by decide))); have n1_ := Aside0.mk (blk_grown (g := gb257) (o := .cells #[.int .i64 0, .slice none 0 0] 31 (0, 0)) (by (with_reducible repeat (first | refine blk_drewN ?_ _ | refine blk_drew ?_ | refine blk_alloc ?_ _)); exact BK257.out) hg (Kd.R_ne HO_259001.out BK257.out (by decide))); have n2_ := Aside0.mk (blk_grown (g := gb258) (o := .cells #[.int .i64 (wrap64 (Int.tmod a0_0 13)), u259001] 31 (0, 0)) (by (with_reducible repeat (first | refine blk_drewN ?_ _ | refine blk_drew ?_ | refine blk_alloc ?_ _)); exact BK258.out) hg (Kd.R_ne HO_259001.out BK258.out (by decide))); have n3_ := Aside0.mk (hb); have n4_ := Aside0.mk (ho); clear BK256; clear BK257; clear BK258; clear HB; clear HO_259001; have BK256 := n0_; have BK257 := n1_; have BK258 := n2_; have HB := n3_; have HO266 := n4_; clear n0_ n1_ n2_ n3_ n4_; clear ho hb hg hat; obtain ⟨Ao62, co62, eo62⟩ := Kd.R_slice HO266.out; subst eo62; have hcz63_0 : w61.cell? ⟨gb258, 0, none⟩ = some (.int .i64 (wrap64 (Int.tmod a0_0 13))) := (blk_cell BK258.out 0).trans rfl; have hcz63_1 : w61.cell? ⟨gb258, 1, none⟩ = some (u259001) := (blk_cell BK258.out 1).trans rfl; have hfz63_0 := blk_frozen BK258.out 0; have hfz63_1 := blk_frozen BK258.out 1))
                                    go_roundg kj33
                                    case measure => have := HK1.out; have := HJ9.out; have := HJ33.out; omega
                                    case rel => exact ⟨(wrap64 (x5_1 + 2)), (y264), (.slice Ao62 y264.length co62), (by first | rfl | (simp; done) | (simp [*]; done)), H', ⟨by have := HK1.out; have := HJ9.out; have := HJ33.out; omega⟩, ⟨by (with_reducible repeat (first | apply Kd.R_alloc | apply Kd.R_drewN | apply Kd.R_drew)); exact Kd.R_mono (Kd.R_far (p := ⟨gb258, 1, none⟩) (Kd.R_types HO266.out BK258.out (by decide)) (fun _ hk => hk.2) (.slice Ao62 y264.length co62)) (fun _ hk => trivial)⟩, ⟨by (with_reducible repeat (first | refine blk_drewN ?_ _ | refine blk_drew ?_ | refine blk_alloc ?_ _)); refine blk_far ?_ NB256_258.out _; (with_reducible repeat (first | refine blk_drewN ?_ _ | refine blk_drew ?_ | refine blk_alloc ?_ _)); exact BK256.out⟩, ⟨by (with_reducible repeat (first | refine blk_drewN ?_ _ | refine blk_drew ?_ | refine blk_alloc ?_ _)); refine blk_far ?_ NB257_258.out _; (with_reducible repeat (first | refine blk_drewN ?_ _ | refine blk_drew ?_ | refine blk_alloc ?_ _)); exact BK257.out⟩, ⟨by (with_reducible repeat (first | refine blk_drewN ?_ _ | refine blk_drew ?_ | refine blk_alloc ?_ _)); refine blk_put (cs := #[.int .i64 (wrap64 (Int.tmod a0_0 13)), u259001]) ?_ 1 _ rfl; (with_reducible repeat (first | refine blk_drewN ?_ _ | refine blk_drew ?_ | refine blk_alloc ?_ _)); exact BK258.out⟩, ⟨by repeat (first | (with_reducible first | exact HB.out | apply below_alloc | apply pw_below_drewN | apply below_drew1 | refine below_set ?_ GE256.out | refine below_set ?_ GE257.out | refine below_set ?_ GE258.out) | exact HB.out)⟩⟩
                                  · rw [if_neg c55] at H
                                    exact absurd H (by simp)
                                · rw [if_neg c54] at H
                                  have c54b0 : ((Int.tmod (wrap64 (Int.tmod a0_0 13)) 5) == 0) = false := beq_eq_false_iff_ne.mpr c54
                                  have c54b1 : ((Int.tmod (wrap64 (Int.tmod a0_0 13)) 5) != 0) = true := bne_iff_ne.mpr c54
                                  by_cases c64 : x259001_1.length < 8796093022208
                                  · rw [if_pos c64] at H
                                    have LMc64 := Aside0.mk c64
                                    clear c64
                                    obtain ⟨y267, hy267⟩ : ∃ y_ : List (S55), y_ = (x259001_1 ++ [(⟨x6_33, x7_33⟩ : S55)]) := ⟨_, rfl⟩
                                    replace H : (wireloomref05_Made.l0 kj33 (wrap64 (Int.tmod a0_0 13)) (wrap64 (x5_1 + 2)) a0_0 a0_1 l0_2 (wrap64 (Int.tmod a0_0 13)) y267) = some (r1, r2) := by first | (rw [hy267]; with_reducible exact H) | (have H2_ := (Option.bind_some _ _).symm.trans H; rw [hy267]; with_reducible exact H2_) | (have H2_ := (Option.bind_some _ _).symm.trans H; with_reducible exact H2_) | with_reducible exact H | (rw [hy267]; exact H) | exact H
                                    have Ny267 := Aside0.mk hy267
                                    clear hy267
                                    have H' := Aside0.mk H
                                    clear H
                                    have hnb65 := NB256_257.out
                                    have hnc65 := NB257_256.out
                                    have hnb66 := NB256_258.out
                                    have hnc66 := NB258_256.out
                                    have hcz67_0 : wc.cell? ⟨gb256, 0, none⟩ = some (.int .u8 a0_0) := (blk_cell BK256.out 0).trans rfl
                                    have hcz67_1 : wc.cell? ⟨gb256, 1, none⟩ = some (.int .u8 a0_1) := (blk_cell BK256.out 1).trans rfl
                                    have hcz67_2 : wc.cell? ⟨gb256, 2, none⟩ = some (.slice (some ad259) l0_2.length c0_2) := (blk_cell BK256.out 2).trans rfl
                                    have hfz67_0 := blk_frozen BK256.out 0
                                    have hfz67_1 := blk_frozen BK256.out 1
                                    have hfz67_2 := blk_frozen BK256.out 2
                                    have hnb68 := NB258_257.out
                                    have hnc68 := NB257_258.out
                                    have hcz69_0 : wc.cell? ⟨gb258, 0, none⟩ = some (.int .i64 (wrap64 (Int.tmod a0_0 13))) := (blk_cell BK258.out 0).trans rfl
                                    have hcz69_1 : wc.cell? ⟨gb258, 1, none⟩ = some (u259001) := (blk_cell BK258.out 1).trans rfl
                                    have hfz69_0 := blk_frozen BK258.out 0
                                    have hfz69_1 := blk_frozen BK258.out 1
                                    go_wp2_with (first | ((with_reducible refine gate_builtin (b := .append) (xs := #[.tmp 83, .tmp 87]) rfl ?_); at_builtin; refine Kd.R_append k55 (w0 := w) w.heap.size rfl (.tmp 83) (.tmp 87) 25 55 (.agg #[(.int .i64 0), (.int .i64 0)]) 16 rfl Try.underlying25 info55 rfl (by decide) (by omega) u259001 x259001_1 (⟨x6_33, x7_33⟩ : S55) [.int .i64 x6_33, .int .i64 x7_33] (fun _ => True) (fun _ => False) rfl rfl ?aP (fun _ hk => hk.elim) ?aF ?aO ?aB ?aS ?aL ?_; (case aP => exact k55_mkM _ _ _ (⟨x6_33, x7_33⟩ : S55)); (case aB => exact (by repeat (first | (with_reducible first | exact HB.out | apply below_alloc | apply pw_below_drewN | apply below_drew1 | refine below_set ?_ GE256.out | refine below_set ?_ GE257.out | refine below_set ?_ GE258.out) | exact HB.out))); (case aF => exact (fun _ _ => trivial)); (case aO => exact (by (with_reducible repeat (first | apply Kd.R_alloc | apply Kd.R_drewN | apply Kd.R_drew)); exact HO_259001.out)); (case aS => exact (below_size (by repeat (first | (with_reducible first | exact HB.out | apply below_alloc | apply pw_below_drewN | apply below_drew1 | refine below_set ?_ GE256.out | refine below_set ?_ GE257.out | refine below_set ?_ GE258.out) | exact HB.out)))); (case aL => have := LMc64.out; omega); intro v268 w70 ho hb hg hat; rw [← Ny267.out] at ho; have n0_ := Aside0.mk (blk_grown (g := gb256) (o := .cells #[.int .u8 a0_0, .int .u8 a0_1, .slice (some ad259) l0_2.length c0_2] 24 (0, 0)) (by (with_reducible repeat (first | refine blk_drewN ?_ _ | refine blk_drew ?_ | refine blk_alloc ?_ _)); exact BK256.out) hg (Kd.R_ne HO_259001.out BK256.out (by decide))); have n1_ := Aside0.mk (blk_grown (g := gb257) (o := .cells #[.int .i64 0, .slice none 0 0] 31 (0, 0)) (by (with_reducible repeat (first | refine blk_drewN ?_ _ | refine blk_drew ?_ | refine blk_alloc ?_ _)); exact BK257.out) hg (Kd.R_ne HO_259001.out BK257.out (by decide))); have n2_ := Aside0.mk (blk_grown (g := gb258) (o := .cells #[.int .i64 (wrap64 (Int.tmod a0_0 13)), u259001] 31 (0, 0)) (by (with_reducible repeat (first | refine blk_drewN ?_ _ | refine blk_drew ?_ | refine blk_alloc ?_ _)); exact BK258.out) hg (Kd.R_ne HO_259001.out BK258.out (by decide))); have n3_ := Aside0.mk (hb); have n4_ := Aside0.mk (ho); clear BK256; clear BK257; clear BK258; clear HB; clear HO_259001; have BK256 := n0_; have BK257 := n1_; have BK258 := n2_; have HB := n3_; have HO269 := n4_; clear n0_ n1_ n2_ n3_ n4_; clear ho hb hg hat; obtain ⟨Ao71, co71, eo71⟩ := Kd.R_slice HO269.out; subst eo71; have hcz72_0 : w70.cell? ⟨gb258, 0, none⟩ = some (.int .i64 (wrap64 (Int.tmod a0_0 13))) := (blk_cell BK258.out 0).trans rfl; have hcz72_1 : w70.cell? ⟨gb258, 1, none⟩ = some (u259001) := (blk_cell BK258.out 1).trans rfl; have hfz72_0 := blk_frozen BK258.out 0; have hfz72_1 := blk_frozen BK258.out 1))
                                    go_roundg kj33
                                    case measure => have := HK1.out; have := HJ9.out; have := HJ33.out; omega
                                    case rel => exact ⟨(wrap64 (x5_1 + 2)), (y267), (.slice Ao71 y267.length co71), (by first | rfl | (simp; done) | (simp [*]; done)), H', ⟨by have := HK1.out; have := HJ9.out; have := HJ33.out; omega⟩, ⟨by (with_reducible repeat (first | apply Kd.R_alloc | apply Kd.R_drewN | apply Kd.R_drew)); exact Kd.R_mono (Kd.R_far (p := ⟨gb258, 1, none⟩) (Kd.R_types HO269.out BK258.out (by decide)) (fun _ hk => hk.2) (.slice Ao71 y267.length co71)) (fun _ hk => trivial)⟩, ⟨by (with_reducible repeat (first | refine blk_drewN ?_ _ | refine blk_drew ?_ | refine blk_alloc ?_ _)); refine blk_far ?_ NB256_258.out _; (with_reducible repeat (first | refine blk_drewN ?_ _ | refine blk_drew ?_ | refine blk_alloc ?_ _)); exact BK256.out⟩, ⟨by (with_reducible repeat (first | refine blk_drewN ?_ _ | refine blk_drew ?_ | refine blk_alloc ?_ _)); refine blk_far ?_ NB257_258.out _; (with_reducible repeat (first | refine blk_drewN ?_ _ | refine blk_drew ?_ | refine blk_alloc ?_ _)); exact BK257.out⟩, ⟨by (with_reducible repeat (first | refine blk_drewN ?_ _ | refine blk_drew ?_ | refine blk_alloc ?_ _)); refine blk_put (cs := #[.int .i64 (wrap64 (Int.tmod a0_0 13)), u259001]) ?_ 1 _ rfl; (with_reducible repeat (first | refine blk_drewN ?_ _ | refine blk_drew ?_ | refine blk_alloc ?_ _)); exact BK258.out⟩, ⟨by repeat (first | (with_reducible first | exact HB.out | apply below_alloc | apply pw_below_drewN | apply below_drew1 | refine below_set ?_ GE256.out | refine below_set ?_ GE257.out | refine below_set ?_ GE258.out) | exact HB.out)⟩⟩
                                  · rw [if_neg c64] at H
                                    exact absurd H (by simp)
                      · rw [if_neg c29] at H
                        have c29b0 : ((Int.tmod a0_1 2) == 0) = false := beq_eq_false_iff_ne.mpr c29
                        have c29b1 : ((Int.tmod a0_1 2) != 0) = true := bne_iff_ne.mpr c29
                        by_cases c73 : x259001_1.length < 8796093022208
                        · rw [if_pos c73] at H
                          have LMc73 := Aside0.mk c73
                          clear c73
                          obtain ⟨y270, hy270⟩ : ∃ y_ : List (S55), y_ = (x259001_1 ++ [(⟨Int.tmod (wrap64 (rd l0_2 x5_1)) (wrap64 (Int.tmod a0_0 13)), Int.tmod (wrap64 (rd l0_2 (ji26))) (wrap64 (Int.tmod a0_0 13))⟩ : S55)]) := ⟨_, rfl⟩
                          replace H : (wireloomref05_Made.l0 kj9 (wrap64 (Int.tmod a0_0 13)) (wrap64 (x5_1 + 2)) a0_0 a0_1 l0_2 (wrap64 (Int.tmod a0_0 13)) y270) = some (r1, r2) := by first | (rw [hy270]; with_reducible exact H) | (have H2_ := (Option.bind_some _ _).symm.trans H; rw [hy270]; with_reducible exact H2_) | (have H2_ := (Option.bind_some _ _).symm.trans H; with_reducible exact H2_) | with_reducible exact H | (rw [hy270]; exact H) | exact H
                          have Ny270 := Aside0.mk hy270
                          clear hy270
                          have H' := Aside0.mk H
                          clear H
                          have hnb74 := NB256_257.out
                          have hnc74 := NB257_256.out
                          have hnb75 := NB256_258.out
                          have hnc75 := NB258_256.out
                          have hcz76_0 : wc.cell? ⟨gb256, 0, none⟩ = some (.int .u8 a0_0) := (blk_cell BK256.out 0).trans rfl
                          have hcz76_1 : wc.cell? ⟨gb256, 1, none⟩ = some (.int .u8 a0_1) := (blk_cell BK256.out 1).trans rfl
                          have hcz76_2 : wc.cell? ⟨gb256, 2, none⟩ = some (.slice A0_2 l0_2.length c0_2) := (blk_cell BK256.out 2).trans rfl
                          have hfz76_0 := blk_frozen BK256.out 0
                          have hfz76_1 := blk_frozen BK256.out 1
                          have hfz76_2 := blk_frozen BK256.out 2
                          have p259 : 0 ≤ (x5_1 : Int) := of_decide_eq_true (by first | (with_reducible assumption) | assumption)
                          have q259 : x5_1 < (l0_2.length : Int) := of_decide_eq_true (by first | (with_reducible assumption) | assumption)
                          obtain ⟨ad259, e259, hx259_0⟩ := Kd.at_int HR0_2.out x5_1 p259 q259
                          cases e259
                          (try (replace hx259_0 := (HB.out.cell (World.block_lt_of_cell? w _ hx259_0)).trans hx259_0))
                          replace p259 := eq_true p259
                          replace q259 := eq_true q259
                          have p260 : 0 ≤ ((ji26) : Int) := of_decide_eq_true (by first | (with_reducible assumption) | assumption)
                          have q260 : (ji26) < (l0_2.length : Int) := of_decide_eq_true (by first | (with_reducible assumption) | assumption)
                          obtain ⟨ad260, e260, hx260_0⟩ := Kd.at_int HR0_2.out (ji26) p260 q260
                          obtain rfl : ad259 = ad260 := (by injection e260)
                          (try (replace hx260_0 := (HB.out.cell (World.block_lt_of_cell? w _ hx260_0)).trans hx260_0))
                          replace p260 := eq_true p260
                          replace q260 := eq_true q260
                          have hnb77 := NB258_257.out
                          have hnc77 := NB257_258.out
                          have hcz78_0 : wc.cell? ⟨gb258, 0, none⟩ = some (.int .i64 (wrap64 (Int.tmod a0_0 13))) := (blk_cell BK258.out 0).trans rfl
                          have hcz78_1 : wc.cell? ⟨gb258, 1, none⟩ = some (u259001) := (blk_cell BK258.out 1).trans rfl
                          have hfz78_0 := blk_frozen BK258.out 0
                          have hfz78_1 := blk_frozen BK258.out 1
                          go_wp2_with (first | ((with_reducible refine gate_builtin (b := .append) (xs := #[.tmp 83, .tmp 87]) rfl ?_); at_builtin; refine Kd.R_append k55 (w0 := w) w.heap.size rfl (.tmp 83) (.tmp 87) 25 55 (.agg #[(.int .i64 0), (.int .i64 0)]) 16 rfl Try.underlying25 info55 rfl (by decide) (by omega) u259001 x259001_1 (⟨Int.tmod (wrap64 (rd l0_2 x5_1)) (wrap64 (Int.tmod a0_0 13)), Int.tmod (wrap64 (rd l0_2 (ji26))) (wrap64 (Int.tmod a0_0 13))⟩ : S55) [.int .i64 (Int.tmod (wrap64 (rd l0_2 x5_1)) (wrap64 (Int.tmod a0_0 13))), .int .i64 (Int.tmod (wrap64 (rd l0_2 (ji26))) (wrap64 (Int.tmod a0_0 13)))] (fun _ => True) (fun _ => False) rfl rfl ?aP (fun _ hk => hk.elim) ?aF ?aO ?aB ?aS ?aL ?_; (case aP => exact k55_mkM _ _ _ (⟨Int.tmod (wrap64 (rd l0_2 x5_1)) (wrap64 (Int.tmod a0_0 13)), Int.tmod (wrap64 (rd l0_2 (ji26))) (wrap64 (Int.tmod a0_0 13))⟩ : S55)); (case aB => exact (by repeat (first | (with_reducible first | exact HB.out | apply below_alloc | apply pw_below_drewN | apply below_drew1 | refine below_set ?_ GE256.out | refine below_set ?_ GE257.out | refine below_set ?_ GE258.out) | exact HB.out))); (case aF => exact (fun _ _ => trivial)); (case aO => exact (by (with_reducible repeat (first | apply Kd.R_alloc | apply Kd.R_drewN | apply Kd.R_drew)); exact HO_259001.out)); (case aS => exact (below_size (by repeat (first | (with_reducible first | exact HB.out | apply below_alloc | apply pw_below_drewN | apply below_drew1 | refine below_set ?_ GE256.out | refine below_set ?_ GE257.out | refine below_set ?_ GE258.out) | exact HB.out)))); (case aL => have := LMc73.out; omega); intro v271 w79 ho hb hg hat; rw [← Ny270.out] at ho; have n0_ := Aside0.mk (blk_grown (g := gb256) (o := .cells #[.int .u8 a0_0, .int .u8 a0_1, .slice (some ad259) l0_2.length c0_2] 24 (0, 0)) (by (with_reducible repeat (first | refine blk_drewN ?_ _ | refine blk_drew ?_ | refine blk_alloc ?_ _)); exact BK256.out) hg (Kd.R_ne HO_259001.out BK256.out (by decide))); have n1_ := Aside0.mk (blk_grown (g := gb257) (o := .cells #[.int .i64 0, .slice none 0 0] 31 (0, 0)) (by (with_reducible repeat (first | refine blk_drewN ?_ _ | refine blk_drew ?_ | refine blk_alloc ?_ _)); exact BK257.out) hg (Kd.R_ne HO_259001.out BK257.out (by decide))); have n2_ := Aside0.mk (blk_grown (g := gb258) (o := .cells #[.int .i64 (wrap64 (Int.tmod a0_0 13)), u259001] 31 (0, 0)) (by (with_reducible repeat (first | refine blk_drewN ?_ _ | refine blk_drew ?_ | refine blk_alloc ?_ _)); exact BK258.out) hg (Kd.R_ne HO_259001.out BK258.out (by decide))); have n3_ := Aside0.mk (hb); have n4_ := Aside0.mk (ho); clear BK256; clear BK257; clear BK258; clear HB; clear HO_259001; have BK256 := n0_; have BK257 := n1_; have BK258 := n2_; have HB := n3_; have HO272 := n4_; clear n0_ n1_ n2_ n3_ n4_; clear ho hb hg hat; obtain ⟨Ao80, co80, eo80⟩ := Kd.R_slice HO272.out; subst eo80; have hcz81_0 : w79.cell? ⟨gb258, 0, none⟩ = some (.int .i64 (wrap64 (Int.tmod a0_0 13))) := (blk_cell BK258.out 0).trans rfl; have hcz81_1 : w79.cell? ⟨gb258, 1, none⟩ = some (u259001) := (blk_cell BK258.out 1).trans rfl; have hfz81_0 := blk_frozen BK258.out 0; have hfz81_1 := blk_frozen BK258.out 1))
                          go_roundg kj9
                          case measure => have := HK1.out; have := HJ9.out; omega
                          case rel => exact ⟨(wrap64 (x5_1 + 2)), (y270), (.slice Ao80 y270.length co80), (by first | rfl | (simp; done) | (simp [*]; done)), H', ⟨by have := HK1.out; have := HJ9.out; omega⟩, ⟨by (with_reducible repeat (first | apply Kd.R_alloc | apply Kd.R_drewN | apply Kd.R_drew)); exact Kd.R_mono (Kd.R_far (p := ⟨gb258, 1, none⟩) (Kd.R_types HO272.out BK258.out (by decide)) (fun _ hk => hk.2) (.slice Ao80 y270.length co80)) (fun _ hk => trivial)⟩, ⟨by (with_reducible repeat (first | refine blk_drewN ?_ _ | refine blk_drew ?_ | refine blk_alloc ?_ _)); refine blk_far ?_ NB256_258.out _; (with_reducible repeat (first | refine blk_drewN ?_ _ | refine blk_drew ?_ | refine blk_alloc ?_ _)); exact BK256.out⟩, ⟨by (with_reducible repeat (first | refine blk_drewN ?_ _ | refine blk_drew ?_ | refine blk_alloc ?_ _)); refine blk_far ?_ NB257_258.out _; (with_reducible repeat (first | refine blk_drewN ?_ _ | refine blk_drew ?_ | refine blk_alloc ?_ _)); exact BK257.out⟩, ⟨by (with_reducible repeat (first | refine blk_drewN ?_ _ | refine blk_drew ?_ | refine blk_alloc ?_ _)); refine blk_put (cs := #[.int .i64 (wrap64 (Int.tmod a0_0 13)), u259001]) ?_ 1 _ rfl; (with_reducible repeat (first | refine blk_drewN ?_ _ | refine blk_drew ?_ | refine blk_alloc ?_ _)); exact BK258.out⟩, ⟨by repeat (first | (with_reducible first | exact HB.out | apply below_alloc | apply pw_below_drewN | apply below_drew1 | refine below_set ?_ GE256.out | refine below_set ?_ GE257.out | refine below_set ?_ GE258.out) | exact HB.out)⟩⟩
                        · rw [if_neg c73] at H
                          exact absurd H (by simp)
                    · rw [if_neg c28] at H
                      exact absurd H (by simp)
                  · rw [if_neg c27] at H
                    exact absurd H (by simp)
              · rw [if_neg c24] at H
                exact absurd H (by simp)
            · rw [if_neg c23] at H
              exact absurd H (by simp)
          · replace c22 := Bool.eq_false_iff.mpr c22
            subst c22
            have H1 : (some ((wrap64 (Int.tmod a0_0 13)), x259001_1)) = some (r1, r2) := by rw [if_neg (show ¬ (false = true) by decide)] at H; exact H
            clear H
            have H := H1
            clear H1
            simp only [Option.some.injEq, Prod.mk.injEq] at H
            obtain ⟨rfl, rfl⟩ := H
            have hnb82 := NB258_256.out
            have hnc82 := NB256_258.out
            have hnb83 := NB258_257.out
            have hnc83 := NB257_258.out
            have hcz84_0 : wc.cell? ⟨gb258, 0, none⟩ = some (.int .i64 (wrap64 (Int.tmod a0_0 13))) := (blk_cell BK258.out 0).trans rfl
            have hcz84_1 : wc.cell? ⟨gb258, 1, none⟩ = some (u259001) := (blk_cell BK258.out 1).trans rfl
            have hfz84_0 := blk_frozen BK258.out 0
            have hfz84_1 := blk_frozen BK258.out 1
            have hnb85 := NB257_256.out
            have hnc85 := NB256_257.out
            have hcz86_0 : wc.cell? ⟨gb257, 0, none⟩ = some (.int .i64 0) := (blk_cell BK257.out 0).trans rfl
            have hcz86_1 : wc.cell? ⟨gb257, 1, none⟩ = some (.slice none 0 0) := (blk_cell BK257.out 1).trans rfl
            have hfz86_0 := blk_frozen BK257.out 0
            have hfz86_1 := blk_frozen BK257.out 1
            obtain ⟨Ao87, co87, eo87⟩ := Kd.R_slice HO_259001.out
            subst eo87
            go_wp2
            refine bodyPost_ret (results_cell_row rfl _ _ gb257 31 #[.int .i64 (wrap64 (Int.tmod a0_0 13)), .slice Ao87 x259001_1.length co87] (0, 0) _ rfl (by (with_reducible repeat (first | refine blk_drewN ?_ _ | refine blk_drew ?_ | refine blk_alloc ?_ _)); refine blk_put (cs := #[.int .i64 (wrap64 (Int.tmod a0_0 13)), .slice none 0 0]) ?_ 1 _ rfl; (with_reducible repeat (first | refine blk_drewN ?_ _ | refine blk_drew ?_ | refine blk_alloc ?_ _)); refine blk_put (cs := #[.int .i64 0, .slice none 0 0]) ?_ 0 _ rfl; (with_reducible repeat (first | refine blk_drewN ?_ _ | refine blk_drew ?_ | refine blk_alloc ?_ _)); exact BK257.out) Try.underlying31 rfl (by kernel_rfl)) rfl ?_
            exact ⟨_, by first | rfl | (simp [errW_none, errW_some] <;> rfl) | (simp [*, errW_none, errW_some] <;> rfl), by (with_reducible repeat (first | apply Kd.R_alloc | apply Kd.R_drewN | apply Kd.R_drew)); exact Kd.R_mono (Kd.R_far (p := ⟨gb257, 1, none⟩) (Kd.R_far (p := ⟨gb257, 0, none⟩) (Kd.R_types HO_259001.out BK257.out (by decide)) (fun _ hk => hk.2) (.int .i64 (wrap64 (Int.tmod a0_0 13)))) (fun _ hk => hk.2) (.slice Ao87 x259001_1.length co87)) (fun _ hk => trivial), by repeat (first | (with_reducible first | exact HB.out | apply below_alloc | apply pw_below_drewN | apply below_drew1 | refine below_set ?_ GE256.out | refine below_set ?_ GE257.out | refine below_set ?_ GE258.out) | exact HB.out)⟩
end Go.Proofs.Ytlldjinejckbaaa.PD

end
section
namespace Go.Proofs.Ytlldjinejckbaaa.PD
open Go.RowKit Go.Proofs.YtlldjinejckbaaaW.PrintWords Go.Proofs.YtlldjinejckbaaaW.PrintLast Go.Proofs.YtlldjinejckbaaaW.PrintMore
attribute [local go_sem] max2_int min2_int max_two min_two max_three min_three max_four min_four
set_option linter.unusedVariables false
set_option linter.unusedSimpArgs false
mutual
def wireloomlaw05_DigraphDepths.j0 : Nat → Bool → Bool → Int → List (S55) → List Int → Int → Option (Bool)
  | 0, _, _, _, _, _, _ => none
  | k + 1, x3, x36, x590000, x590001, x595000, x595001 => if x36 = true then (none) else (if x595001 = 0 then (if (x595000.length : Int) = x590000 then (wireloomlaw05_DigraphDepths.l0 k x3 (([] : List Int)) 0 x590000 x590001 x595000 x595001) else (none)) else (some x3))
def wireloomlaw05_DigraphDepths.l0 : Nat → Bool → List Int → Int → Int → List (S55) → List Int → Int → Option (Bool)
  | 0, _, _, _, _, _, _, _ => none
  | k + 1, x3, x6, x7, x590000, x590001, x595000, x595001 => if x7 < x590000 then (wireloomlaw05_DigraphDepths.l1 k x3 x6 x7 0 x590000 x590001 x595000 x595001) else (wireloomlaw05_DigraphDepths.l2 k x3 x6 0 x590000 x590001 x595000 x595001)
def wireloomlaw05_DigraphDepths.l1 : Nat → Bool → List Int → Int → Int → Int → List (S55) → List Int → Int → Option (Bool)
  | 0, _, _, _, _, _, _, _, _ => none
  | k + 1, x3, x6, x7, x8, x590000, x590001, x595000, x595001 => if x8 < x590000 then (if 0 ≤ x8 then (if x8 < (x595000.length : Int) then (if (rd x595000 x8) = x7 then (if x6.length < 17592186044416 then (wireloomlaw05_DigraphDepths.l1 k x3 (x6 ++ [x8]) x7 (wrap64 (x8 + 1)) x590000 x590001 x595000 x595001) else (none)) else (wireloomlaw05_DigraphDepths.l1 k x3 x6 x7 (wrap64 (x8 + 1)) x590000 x590001 x595000 x595001)) else (none)) else (none)) else (wireloomlaw05_DigraphDepths.l0 k x3 x6 (wrap64 (x7 + 1)) x590000 x590001 x595000 x595001)
def wireloomlaw05_DigraphDepths.l2 : Nat → Bool → List Int → Int → Int → List (S55) → List Int → Int → Option (Bool)
  | 0, _, _, _, _, _, _, _ => none
  | k + 1, x3, x6, x9, x590000, x590001, x595000, x595001 => if x9 < x590000 then (wireloomlaw05_DigraphDepths.l3 k x3 x6 x9 0 0 x590000 x590001 x595000 x595001) else ((digraph_Check.f x590000 x590001 x6).bind fun t606 => (if t606 = 0 then (some x3) else (none)))
def wireloomlaw05_DigraphDepths.l3 : Nat → Bool → List Int → Int → Int → Int → Int → List (S55) → List Int → Int → Option (Bool)
  | 0, _, _, _, _, _, _, _, _, _ => none
  | k + 1, x3, x6, x9, x10, x11, x590000, x590001, x595000, x595001 => if x11 < (x590001.length : Int) then (if 0 ≤ x11 then (if ((rd_T55 x590001 x11).f1) = x9 then (if 0 ≤ ((rd_T55 x590001 x11).f0) then (if ((rd_T55 x590001 x11).f0) < (x595000.length : Int) then (wireloomlaw05_DigraphDepths.l3 k x3 x6 x9 (mx x10 (wrap64 ((rd x595000 ((rd_T55 x590001 x11).f0)) + 1))) (wrap64 (x11 + 1)) x590000 x590001 x595000 x595001) else (none)) else (none)) else (wireloomlaw05_DigraphDepths.l3 k x3 x6 x9 x10 (wrap64 (x11 + 1)) x590000 x590001 x595000 x595001)) else (none)) else (if 0 ≤ x9 then (if x9 < (x595000.length : Int) then (if (rd x595000 x9) = x10 then (wireloomlaw05_DigraphDepths.l2 k x3 x6 (wrap64 (x9 + 1)) x590000 x590001 x595000 x595001) else (none)) else (none)) else (none))
end
def wireloomlaw05_DigraphDepths.f (k : Nat) (a0_0 : Int) (a0_1 : Int) (l0_2 : List Int) : Option (Bool) := (wireloomlaw05_examples.f k).bind fun t584 => (if t584 = true then ((wireloomref05_Made.f k a0_0 a0_1 l0_2).bind fun bt585 => ((wireloomlaw05_depth.f bt585.1 bt585.2).bind fun bt590 => ((wireloomlaw05_order.f bt585.1 bt585.2).bind fun bt595 => (if ((bt590.2 == 0) != (bt595.2 == 0)) = true then (none) else (if bt590.2 = 0 then (wireloomlaw05_DigraphDepths.j0 k t584 false bt585.1 bt585.2 bt590.1 bt590.2) else (wireloomlaw05_DigraphDepths.j0 k t584 (bt590.2 != 50) bt585.1 bt585.2 bt590.1 bt590.2)))))) else (none))
theorem wireloomlaw05_DigraphDepths.mono_l : ∀ k, (∀ y0 y1 y2 y3 y4 y5, LeO (wireloomlaw05_DigraphDepths.j0 k y0 y1 y2 y3 y4 y5) (wireloomlaw05_DigraphDepths.j0 (k + 1) y0 y1 y2 y3 y4 y5)) ∧ (∀ y0 y1 y2 y3 y4 y5 y6, LeO (wireloomlaw05_DigraphDepths.l0 k y0 y1 y2 y3 y4 y5 y6) (wireloomlaw05_DigraphDepths.l0 (k + 1) y0 y1 y2 y3 y4 y5 y6)) ∧ (∀ y0 y1 y2 y3 y4 y5 y6 y7, LeO (wireloomlaw05_DigraphDepths.l1 k y0 y1 y2 y3 y4 y5 y6 y7) (wireloomlaw05_DigraphDepths.l1 (k + 1) y0 y1 y2 y3 y4 y5 y6 y7)) ∧ (∀ y0 y1 y2 y3 y4 y5 y6, LeO (wireloomlaw05_DigraphDepths.l2 k y0 y1 y2 y3 y4 y5 y6) (wireloomlaw05_DigraphDepths.l2 (k + 1) y0 y1 y2 y3 y4 y5 y6)) ∧ (∀ y0 y1 y2 y3 y4 y5 y6 y7 y8, LeO (wireloomlaw05_DigraphDepths.l3 k y0 y1 y2 y3 y4 y5 y6 y7 y8) (wireloomlaw05_DigraphDepths.l3 (k + 1) y0 y1 y2 y3 y4 y5 y6 y7 y8))
  | 0 => ⟨fun _ _ _ _ _ _ r h => by simp [wireloomlaw05_DigraphDepths.j0] at h, fun _ _ _ _ _ _ _ r h => by simp [wireloomlaw05_DigraphDepths.l0] at h, fun _ _ _ _ _ _ _ _ r h => by simp [wireloomlaw05_DigraphDepths.l1] at h, fun _ _ _ _ _ _ _ r h => by simp [wireloomlaw05_DigraphDepths.l2] at h, fun _ _ _ _ _ _ _ _ _ r h => by simp [wireloomlaw05_DigraphDepths.l3] at h⟩
  | k + 1 => by
    obtain ⟨ih0, ih1, ih2, ih3, ih4⟩ := wireloomlaw05_DigraphDepths.mono_l k
    refine ⟨?_, ?_, ?_, ?_, ?_⟩
    · intro y0 y1 y2 y3 y4 y5
      unfold wireloomlaw05_DigraphDepths.j0
      repeat' first
      | (with_reducible exact ih0 _ _ _ _ _ _)
      | (with_reducible exact ih1 _ _ _ _ _ _ _)
      | (with_reducible exact ih2 _ _ _ _ _ _ _ _)
      | (with_reducible exact ih3 _ _ _ _ _ _ _)
      | (with_reducible exact ih4 _ _ _ _ _ _ _ _ _)
      | (with_reducible exact wireloomlaw05_examples.mono _)
      | (with_reducible exact wireloomref05_Made.mono _ _ _ _)
      | (with_reducible exact LeO.refl _)
      | (with_reducible exact LeO.none _)
      | (with_reducible refine LeO.ite ?_ ?_)
      | (with_reducible refine LeO.bind ?_ (fun _ => ?_))
      | exact ih0 _ _ _ _ _ _
      | exact ih1 _ _ _ _ _ _ _
      | exact ih2 _ _ _ _ _ _ _ _
      | exact ih3 _ _ _ _ _ _ _
      | exact ih4 _ _ _ _ _ _ _ _ _
      | exact wireloomlaw05_examples.mono _
      | exact wireloomref05_Made.mono _ _ _ _
      | exact LeO.none _
      | refine LeO.ite ?_ ?_
      | refine LeO.bind ?_ (fun _ => ?_)
    · intro y0 y1 y2 y3 y4 y5 y6
      unfold wireloomlaw05_DigraphDepths.l0
      repeat' first
      | (with_reducible exact ih0 _ _ _ _ _ _)
      | (with_reducible exact ih1 _ _ _ _ _ _ _)
      | (with_reducible exact ih2 _ _ _ _ _ _ _ _)
      | (with_reducible exact ih3 _ _ _ _ _ _ _)
      | (with_reducible exact ih4 _ _ _ _ _ _ _ _ _)
      | (with_reducible exact wireloomlaw05_examples.mono _)
      | (with_reducible exact wireloomref05_Made.mono _ _ _ _)
      | (with_reducible exact LeO.refl _)
      | (with_reducible exact LeO.none _)
      | (with_reducible refine LeO.ite ?_ ?_)
      | (with_reducible refine LeO.bind ?_ (fun _ => ?_))
      | exact ih0 _ _ _ _ _ _
      | exact ih1 _ _ _ _ _ _ _
      | exact ih2 _ _ _ _ _ _ _ _
      | exact ih3 _ _ _ _ _ _ _
      | exact ih4 _ _ _ _ _ _ _ _ _
      | exact wireloomlaw05_examples.mono _
      | exact wireloomref05_Made.mono _ _ _ _
      | exact LeO.none _
      | refine LeO.ite ?_ ?_
      | refine LeO.bind ?_ (fun _ => ?_)
    · intro y0 y1 y2 y3 y4 y5 y6 y7
      unfold wireloomlaw05_DigraphDepths.l1
      repeat' first
      | (with_reducible exact ih0 _ _ _ _ _ _)
      | (with_reducible exact ih1 _ _ _ _ _ _ _)
      | (with_reducible exact ih2 _ _ _ _ _ _ _ _)
      | (with_reducible exact ih3 _ _ _ _ _ _ _)
      | (with_reducible exact ih4 _ _ _ _ _ _ _ _ _)
      | (with_reducible exact wireloomlaw05_examples.mono _)
      | (with_reducible exact wireloomref05_Made.mono _ _ _ _)
      | (with_reducible exact LeO.refl _)
      | (with_reducible exact LeO.none _)
      | (with_reducible refine LeO.ite ?_ ?_)
      | (with_reducible refine LeO.bind ?_ (fun _ => ?_))
      | exact ih0 _ _ _ _ _ _
      | exact ih1 _ _ _ _ _ _ _
      | exact ih2 _ _ _ _ _ _ _ _
      | exact ih3 _ _ _ _ _ _ _
      | exact ih4 _ _ _ _ _ _ _ _ _
      | exact wireloomlaw05_examples.mono _
      | exact wireloomref05_Made.mono _ _ _ _
      | exact LeO.none _
      | refine LeO.ite ?_ ?_
      | refine LeO.bind ?_ (fun _ => ?_)
    · intro y0 y1 y2 y3 y4 y5 y6
      unfold wireloomlaw05_DigraphDepths.l2
      repeat' first
      | (with_reducible exact ih0 _ _ _ _ _ _)
      | (with_reducible exact ih1 _ _ _ _ _ _ _)
      | (with_reducible exact ih2 _ _ _ _ _ _ _ _)
      | (with_reducible exact ih3 _ _ _ _ _ _ _)
      | (with_reducible exact ih4 _ _ _ _ _ _ _ _ _)
      | (with_reducible exact wireloomlaw05_examples.mono _)
      | (with_reducible exact wireloomref05_Made.mono _ _ _ _)
      | (with_reducible exact LeO.refl _)
      | (with_reducible exact LeO.none _)
      | (with_reducible refine LeO.ite ?_ ?_)
      | (with_reducible refine LeO.bind ?_ (fun _ => ?_))
      | exact ih0 _ _ _ _ _ _
      | exact ih1 _ _ _ _ _ _ _
      | exact ih2 _ _ _ _ _ _ _ _
      | exact ih3 _ _ _ _ _ _ _
      | exact ih4 _ _ _ _ _ _ _ _ _
      | exact wireloomlaw05_examples.mono _
      | exact wireloomref05_Made.mono _ _ _ _
      | exact LeO.none _
      | refine LeO.ite ?_ ?_
      | refine LeO.bind ?_ (fun _ => ?_)
    · intro y0 y1 y2 y3 y4 y5 y6 y7 y8
      unfold wireloomlaw05_DigraphDepths.l3
      repeat' first
      | (with_reducible exact ih0 _ _ _ _ _ _)
      | (with_reducible exact ih1 _ _ _ _ _ _ _)
      | (with_reducible exact ih2 _ _ _ _ _ _ _ _)
      | (with_reducible exact ih3 _ _ _ _ _ _ _)
      | (with_reducible exact ih4 _ _ _ _ _ _ _ _ _)
      | (with_reducible exact wireloomlaw05_examples.mono _)
      | (with_reducible exact wireloomref05_Made.mono _ _ _ _)
      | (with_reducible exact LeO.refl _)
      | (with_reducible exact LeO.none _)
      | (with_reducible refine LeO.ite ?_ ?_)
      | (with_reducible refine LeO.bind ?_ (fun _ => ?_))
      | exact ih0 _ _ _ _ _ _
      | exact ih1 _ _ _ _ _ _ _
      | exact ih2 _ _ _ _ _ _ _ _
      | exact ih3 _ _ _ _ _ _ _
      | exact ih4 _ _ _ _ _ _ _ _ _
      | exact wireloomlaw05_examples.mono _
      | exact wireloomref05_Made.mono _ _ _ _
      | exact LeO.none _
      | refine LeO.ite ?_ ?_
      | refine LeO.bind ?_ (fun _ => ?_)
theorem wireloomlaw05_DigraphDepths.mono : ∀ a0 a1 a2 k, LeO (wireloomlaw05_DigraphDepths.f k a0 a1 a2) (wireloomlaw05_DigraphDepths.f (k + 1) a0 a1 a2) := by
  intro a0 a1 a2 k
  obtain ⟨ih0, ih1, ih2, ih3, ih4⟩ := wireloomlaw05_DigraphDepths.mono_l k
  unfold wireloomlaw05_DigraphDepths.f
  repeat' first
      | (with_reducible exact ih0 _ _ _ _ _ _)
      | (with_reducible exact ih1 _ _ _ _ _ _ _)
      | (with_reducible exact ih2 _ _ _ _ _ _ _ _)
      | (with_reducible exact ih3 _ _ _ _ _ _ _)
      | (with_reducible exact ih4 _ _ _ _ _ _ _ _ _)
      | (with_reducible exact wireloomlaw05_examples.mono _)
      | (with_reducible exact wireloomref05_Made.mono _ _ _ _)
      | (with_reducible exact LeO.refl _)
      | (with_reducible exact LeO.none _)
      | (with_reducible refine LeO.ite ?_ ?_)
      | (with_reducible refine LeO.bind ?_ (fun _ => ?_))
      | exact ih0 _ _ _ _ _ _
      | exact ih1 _ _ _ _ _ _ _
      | exact ih2 _ _ _ _ _ _ _ _
      | exact ih3 _ _ _ _ _ _ _
      | exact ih4 _ _ _ _ _ _ _ _ _
      | exact wireloomlaw05_examples.mono _
      | exact wireloomref05_Made.mono _ _ _ _
      | exact LeO.none _
      | refine LeO.ite ?_ ?_
      | refine LeO.bind ?_ (fun _ => ?_)
def wireloomlaw05_DigraphDepths.T6 : Bool × List (List Nat × List Nat) := (true, [([], []), ([0], [0]), ([1], [1]), ([], []), ([3], [3]), ([4], [4]), ([5], [5]), ([2, 6], [2, 6]), ([7, 4], [7]), ([8], [8]), ([9, 8], [8, 9]), ([10, 8], [8, 10]), ([11, 8, 8], [8, 11]), ([12], [12]), ([13, 12], [12, 13]), ([14, 12], [12, 14]), ([12, 15, 8], [8, 12, 15]), ([8, 16], [8, 16])])
def wireloomlaw05_DigraphDepths.B6 : List Nat := [0, 1, 3, 0, 8, 24, 56, 127, 255, 511, 1023, 2047, 4095, 8191, 16383, 32767, 65535, 131071]
theorem wireloomlaw05_DigraphDepths.tab6 : rtab .any (opsOf Try.f7 6) = wireloomlaw05_DigraphDepths.T6 := by kernel_rfl
theorem wireloomlaw05_DigraphDepths.bits6 : waitsOk wireloomlaw05_DigraphDepths.T6.2 wireloomlaw05_DigraphDepths.B6 = true := by kernel_rfl
def wireloomlaw05_DigraphDepths.T29 : Bool × List (List Nat × List Nat) := (true, [([], []), ([], []), ([1], [1]), ([], []), ([3], [3]), ([], []), ([4, 5], [4, 5]), ([6], [6]), ([7], [7]), ([2, 8], [2, 8]), ([9], [9]), ([10], [10]), ([0, 11], [0, 11]), ([12, 0, 1, 2, 3, 4, 5, 6, 7, 8, 9, 10, 11, 12], [0, 12])])
def wireloomlaw05_DigraphDepths.B29 : List Nat := [0, 0, 2, 0, 8, 0, 56, 120, 248, 510, 1022, 2046, 4095, 8191]
theorem wireloomlaw05_DigraphDepths.tab29 : rtab .any (opsOf Try.f7 29) = wireloomlaw05_DigraphDepths.T29 := by kernel_rfl
theorem wireloomlaw05_DigraphDepths.bits29 : waitsOk wireloomlaw05_DigraphDepths.T29.2 wireloomlaw05_DigraphDepths.B29 = true := by kernel_rfl
set_option maxHeartbeats 8000000 in
set_option maxRecDepth 100000 in
theorem wireloomlaw05_DigraphDepths.calls (k : Nat) (a0_0 : Int) (a0_1 : Int) (A0_2 : Option Addr) (c0_2 : Nat) (l0_2 : List Int) (r : Bool) (w : World) (hr0_2 : Kd.C (Kd.int .u8) w A0_2 l0_2.length l0_2) (hc0_2 : l0_2.length ≤ c0_2) (h : wireloomlaw05_DigraphDepths.f k a0_0 a0_1 l0_2 = some r) :
    Calls Try.prog 7 #[.agg #[.int .u8 a0_0, .int .u8 a0_1, .slice A0_2 l0_2.length c0_2]] w fun e w' => e = .returned (.bool r) ∧ Below w.heap.size w w' := by
  have hu24 := Try.underlying24
  have hu31 := Try.underlying31
  have hu37 := Try.underlying37
  have hfd37_1 : ∀ (x0 x1 : Value) (W : World), (Instr.field 37 (.agg #[x0, x1]) 1).run Try.prog W = .ok x1 W := fun _ _ _ => by rfl
  have HR0_2 := Aside0.mk hr0_2
  have HC0_2 := Aside0.mk hc0_2
  clear hr0_2 hc0_2
  have HB := Aside0.mk (Below.refl w.heap.size w)
  have H : ((wireloomlaw05_examples.f k).bind fun t584 => (if t584 = true then ((wireloomref05_Made.f k a0_0 a0_1 l0_2).bind fun bt585 => ((wireloomlaw05_depth.f bt585.1 bt585.2).bind fun bt590 => ((wireloomlaw05_order.f bt585.1 bt585.2).bind fun bt595 => (if ((bt590.2 == 0) != (bt595.2 == 0)) = true then (none) else (if bt590.2 = 0 then (wireloomlaw05_DigraphDepths.j0 k t584 false bt585.1 bt585.2 bt590.1 bt590.2) else (wireloomlaw05_DigraphDepths.j0 k t584 (bt590.2 != 50) bt585.1 bt585.2 bt590.1 bt590.2)))))) else (none))) = some r := h
  clear h
  replace H := Option.bind_eq_some_iff.mp H
  obtain ⟨t584, A20, H⟩ := H
  replace H : (if t584 = true then ((wireloomref05_Made.f k a0_0 a0_1 l0_2).bind fun bt585 => ((wireloomlaw05_depth.f bt585.1 bt585.2).bind fun bt590 => ((wireloomlaw05_order.f bt585.1 bt585.2).bind fun bt595 => (if ((bt590.2 == 0) != (bt595.2 == 0)) = true then (none) else (if bt590.2 = 0 then (wireloomlaw05_DigraphDepths.j0 k t584 false bt585.1 bt585.2 bt590.1 bt590.2) else (wireloomlaw05_DigraphDepths.j0 k t584 (bt590.2 != 50) bt585.1 bt585.2 bt590.1 bt590.2)))))) else (none)) = some r := H
  have A2 := Aside0.mk A20
  clear A20
  by_cases c3 : t584 = true
  · subst c3
    have H1 : ((wireloomref05_Made.f k a0_0 a0_1 l0_2).bind fun bt585 => ((wireloomlaw05_depth.f bt585.1 bt585.2).bind fun bt590 => ((wireloomlaw05_order.f bt585.1 bt585.2).bind fun bt595 => (if ((bt590.2 == 0) != (bt595.2 == 0)) = true then (none) else (if bt590.2 = 0 then (wireloomlaw05_DigraphDepths.j0 k true false bt585.1 bt585.2 bt590.1 bt590.2) else (wireloomlaw05_DigraphDepths.j0 k true (bt590.2 != 50) bt585.1 bt585.2 bt590.1 bt590.2)))))) = some r := by rw [if_pos rfl] at H; exact H
    clear H
    have H := H1
    clear H1
    replace H := Option.bind_eq_some_iff.mp H
    obtain ⟨⟨t585, t586⟩, A40, H⟩ := H
    replace H : ((wireloomlaw05_depth.f t585 t586).bind fun bt590 => ((wireloomlaw05_order.f t585 t586).bind fun bt595 => (if ((bt590.2 == 0) != (bt595.2 == 0)) = true then (none) else (if bt590.2 = 0 then (wireloomlaw05_DigraphDepths.j0 k true false t585 t586 bt590.1 bt590.2) else (wireloomlaw05_DigraphDepths.j0 k true (bt590.2 != 50) t585 t586 bt590.1 bt590.2))))) = some r := H
    have A4 := Aside0.mk A40
    clear A40
    replace H := Option.bind_eq_some_iff.mp H
    obtain ⟨⟨t590, t593⟩, A50, H⟩ := H
    replace H : ((wireloomlaw05_order.f t585 t586).bind fun bt595 => (if ((t593 == 0) != (bt595.2 == 0)) = true then (none) else (if t593 = 0 then (wireloomlaw05_DigraphDepths.j0 k true false t585 t586 t590 t593) else (wireloomlaw05_DigraphDepths.j0 k true (t593 != 50) t585 t586 t590 t593)))) = some r := H
    have A5 := Aside0.mk A50
    clear A50
    have HC6 := Aside0.mk H
    clear H
    go_enter Try.func7, Try.ntmps7
    go_upto_region 6 with (first | ((with_reducible refine gate_dst (N := 1) rfl ?_); refine box_event ?hg (N := 1) ?hd (cs := #[.int .u8 a0_0, .int .u8 a0_1, .slice A0_2 l0_2.length c0_2]) (t := 24) ?hr ?_; (case hd => rfl); (case hg => rfl); (case hr => first | (go_simp; done) | (go_simp; rfl)); intro gb583 hg w7 hbox hb; have n0_ := Aside0.mk (below_step (by repeat (first | (with_reducible first | exact HB.out | apply below_alloc | apply pw_below_drewN | apply below_drew1) | exact HB.out)) hb); have n1_ := Aside0.mk (hbox); have n2_ := Aside0.mk ((by rw [hg]; exact (below_size (by repeat (first | (with_reducible first | exact HB.out | apply below_alloc | apply pw_below_drewN | apply below_drew1) | exact HB.out))) : w.heap.size ≤ gb583)); have n3_ := Aside0.mk ((by rw [hg]; exact (below_size (by repeat (first | (with_reducible first | exact HB.out | apply below_alloc | apply pw_below_drewN | apply below_drew1) | exact HB.out))) : w.heap.size ≤ gb583)); clear HB; have HB := n0_; have BK583 := n1_; have GW583 := n2_; have GE583 := n3_; clear n0_ n1_ n2_ n3_; clear hb hbox hg) | ((with_reducible refine gate_callee (f := 10) rfl ?_); refine goesL_ (some 12) rfl rfl Try.func10 (by kernel_rfl) rfl #[] rfl (by (try simp only [List.map_toArray, List.map_cons, List.map_nil]); first | done | rfl | (simp only [List.length_drop, List.length_take]; rfl)) ?_; (with_reducible refine (wireloomlaw05_examples.calls k  true _ A2.out).mono ?_); rintro e w8 ⟨rfl, hb⟩; refine ⟨_, rfl, ?_⟩; have n0_ := Aside0.mk (blk_below (g := gb583) (o := .cells #[.int .u8 a0_0, .int .u8 a0_1, .slice A0_2 l0_2.length c0_2] 24 (0, 0)) (by (with_reducible repeat (first | refine blk_drewN ?_ _ | refine blk_drew ?_ | refine blk_alloc ?_ _)); exact BK583.out) hb); have n1_ := Aside0.mk (below_step (by repeat (first | (with_reducible first | exact HB.out | apply below_alloc | apply pw_below_drewN | apply below_drew1 | refine below_set ?_ GE583.out) | exact HB.out)) hb); clear BK583; clear HB; have BK583 := n0_; have HB := n1_; clear n0_ n1_; (try clear hb); (try clear hb2); (try clear hk); (try clear hi); have hcz9_0 : w8.cell? ⟨gb583, 0, none⟩ = some (.int .u8 a0_0) := (blk_cell BK583.out 0).trans rfl; have hcz9_1 : w8.cell? ⟨gb583, 1, none⟩ = some (.int .u8 a0_1) := (blk_cell BK583.out 1).trans rfl; have hcz9_2 : w8.cell? ⟨gb583, 2, none⟩ = some (.slice A0_2 l0_2.length c0_2) := (blk_cell BK583.out 2).trans rfl; have hfz9_0 := blk_frozen BK583.out 0; have hfz9_1 := blk_frozen BK583.out 1; have hfz9_2 := blk_frozen BK583.out 2) | ((with_reducible refine gate_callee (f := 11) rfl ?_); refine goesL_ (some 16) rfl rfl Try.func11 (by kernel_rfl) rfl #[.agg #[.int .u8 a0_0, .int .u8 a0_1, .slice A0_2 l0_2.length c0_2]] rfl (by (try simp only [List.map_toArray, List.map_cons, List.map_nil]); first | done | rfl | (simp only [List.length_drop, List.length_take]; rfl)) ?_; (with_reducible refine (wireloomref05_Made.calls k a0_0 a0_1 _ _ l0_2 t585 t586 _ ?side1 ?side2 A4.out).mono ?_); (case side1 => repeat (first | exact (Kd.C_below HR0_2.out HB.out) | (with_reducible refine Kd.C_alloc ?_ _) | (with_reducible refine Kd.C_drewN ?_ _) | (with_reducible refine Kd.C_drew ?_))); (case side2 => exact HC0_2.out); rintro e w10 ⟨v587, rfl, ho0, hb⟩; refine ⟨_, rfl, ?_⟩; have n0_ := Aside0.mk (Kd.R_lower ho0 (below_size (by repeat (first | (with_reducible first | exact HB.out | apply below_alloc | apply pw_below_drewN | apply below_drew1 | refine below_set ?_ GE583.out) | exact HB.out)))); have n1_ := Aside0.mk (blk_below (g := gb583) (o := .cells #[.int .u8 a0_0, .int .u8 a0_1, .slice A0_2 l0_2.length c0_2] 24 (0, 0)) (by (with_reducible repeat (first | refine blk_drewN ?_ _ | refine blk_drew ?_ | refine blk_alloc ?_ _)); exact BK583.out) hb); have n2_ := Aside0.mk (below_step (by repeat (first | (with_reducible first | exact HB.out | apply below_alloc | apply pw_below_drewN | apply below_drew1 | refine below_set ?_ GE583.out) | exact HB.out)) hb); clear BK583; clear HB; have HO588 := n0_; have BK583 := n1_; have HB := n2_; clear n0_ n1_ n2_; (try clear hb); (try clear hb2); (try clear hk); (try clear hi); (try clear ho0)) | ((with_reducible refine gate_dst (N := 4) rfl ?_); refine box_event ?hg (N := 4) ?hd (cs := #[.int .i64 0, .slice none 0 0]) (t := 31) ?hr ?_; (case hd => rfl); (case hg => rfl); (case hr => first | (go_simp; done) | (go_simp; rfl)); intro gb589 hg w11 hbox hb; have n0_ := Aside0.mk (Kd.R_below (by (with_reducible repeat (first | apply Kd.R_alloc | apply Kd.R_drewN | apply Kd.R_drew)); exact HO588.out) hb); have n1_ := Aside0.mk (blk_below (g := gb583) (o := .cells #[.int .u8 a0_0, .int .u8 a0_1, .slice A0_2 l0_2.length c0_2] 24 (0, 0)) (by (with_reducible repeat (first | refine blk_drewN ?_ _ | refine blk_drew ?_ | refine blk_alloc ?_ _)); exact BK583.out) hb); have n2_ := Aside0.mk (below_step (by repeat (first | (with_reducible first | exact HB.out | apply below_alloc | apply pw_below_drewN | apply below_drew1 | refine below_set ?_ GE583.out) | exact HB.out)) hb); have n3_ := Aside0.mk (hbox); have n4_ := Aside0.mk ((by rw [hg]; exact (below_size (by repeat (first | (with_reducible first | exact HB.out | apply below_alloc | apply pw_below_drewN | apply below_drew1 | refine below_set ?_ GE583.out) | exact HB.out))) : w.heap.size ≤ gb589)); have n5_ := Aside0.mk ((by rw [hg]; exact (below_size (by repeat (first | (with_reducible first | exact HB.out | apply below_alloc | apply pw_below_drewN | apply below_drew1 | refine below_set ?_ GE583.out) | exact HB.out))) : w.heap.size ≤ gb589)); have n6_ := Aside0.mk ((by rw [hg]; exact Nat.ne_of_lt (blk_lt (g := gb583) (o := .cells #[.int .u8 a0_0, .int .u8 a0_1, .slice A0_2 l0_2.length c0_2] 24 (0, 0)) (by (with_reducible repeat (first | refine blk_drewN ?_ _ | refine blk_drew ?_ | refine blk_alloc ?_ _)); exact BK583.out)) : gb583 ≠ gb589)); have n7_ := Aside0.mk ((by rw [hg]; exact Nat.ne_of_gt (blk_lt (g := gb583) (o := .cells #[.int .u8 a0_0, .int .u8 a0_1, .slice A0_2 l0_2.length c0_2] 24 (0, 0)) (by (with_reducible repeat (first | refine blk_drewN ?_ _ | refine blk_drew ?_ | refine blk_alloc ?_ _)); exact BK583.out)) : gb589 ≠ gb583)); clear HO588; clear BK583; clear HB; have HO588 := n0_; have BK583 := n1_; have HB := n2_; have BK589 := n3_; have GW589 := n4_; have GE589 := n5_; have NB583_589 := n6_; have NB589_583 := n7_; clear n0_ n1_ n2_ n3_ n4_ n5_ n6_ n7_; clear hb hbox hg; have hnb12 := NB589_583.out; have hnc12 := NB583_589.out; have hcz13_0 : w11.cell? ⟨gb589, 0, none⟩ = some (.int .i64 0) := (blk_cell BK589.out 0).trans rfl; have hcz13_1 : w11.cell? ⟨gb589, 1, none⟩ = some (.slice none 0 0) := (blk_cell BK589.out 1).trans rfl; have hfz13_0 := blk_frozen BK589.out 0; have hfz13_1 := blk_frozen BK589.out 1; obtain ⟨Ao14, co14, eo14⟩ := Kd.R_slice HO588.out; subst eo14) | ((with_reducible refine gate_callee (f := 19) rfl ?_); refine goesL_ (some 18) rfl rfl Try.func19 (by kernel_rfl) rfl #[.agg #[.int .i64 t585, .slice Ao14 t586.length co14]] rfl (by (try simp only [List.map_toArray, List.map_cons, List.map_nil]); first | done | rfl | (simp only [List.length_drop, List.length_take]; rfl)) ?_; (with_reducible refine (wireloomlaw05_depth.calls t585 _ _ t586 t590 t593 _ ?side1 ?side2 A5.out).mono ?_); (case side1 => refine (Kd.R_reads' (e := 55) (base := w.heap.size) (ok := fun k_ => True) (n := t586.length) (c := co14) ?_).2.2; exact (by (with_reducible repeat (first | apply Kd.R_alloc | apply Kd.R_drewN | apply Kd.R_drew)); exact (Kd.R_mono (Kd.R_far (p := ⟨gb589, 1, none⟩) (Kd.R_far (p := ⟨gb589, 0, none⟩) (Kd.R_types HO588.out BK589.out (by decide)) (fun _ hk => hk.2) (.int .i64 t585)) (fun _ hk => hk.2) (.slice Ao14 t586.length co14)) (fun _ h_ => h_.1)))); (case side2 => exact (Kd.R_reads' HO588.out).2.1); rintro e w15 ⟨v591, rfl, ho0, hb⟩; refine ⟨_, rfl, ?_⟩; have n0_ := Aside0.mk (Kd.R_below (by (with_reducible repeat (first | apply Kd.R_alloc | apply Kd.R_drewN | apply Kd.R_drew)); exact (Kd.R_mono (Kd.R_far (p := ⟨gb589, 1, none⟩) (Kd.R_far (p := ⟨gb589, 0, none⟩) (Kd.R_types HO588.out BK589.out (by decide)) (fun _ hk => hk.2) (.int .i64 t585)) (fun _ hk => hk.2) (.slice Ao14 t586.length co14)) (fun _ h_ => h_.1))) hb); have n1_ := Aside0.mk (Kd.R_lower ho0 (below_size (by repeat (first | (with_reducible first | exact HB.out | apply below_alloc | apply pw_below_drewN | apply below_drew1 | refine below_set ?_ GE583.out | refine below_set ?_ GE589.out) | exact HB.out)))); have n2_ := Aside0.mk (blk_below (g := gb583) (o := .cells #[.int .u8 a0_0, .int .u8 a0_1, .slice A0_2 l0_2.length c0_2] 24 (0, 0)) (by (with_reducible repeat (first | refine blk_drewN ?_ _ | refine blk_drew ?_ | refine blk_alloc ?_ _)); refine blk_far ?_ NB583_589.out _; (with_reducible repeat (first | refine blk_drewN ?_ _ | refine blk_drew ?_ | refine blk_alloc ?_ _)); refine blk_far ?_ NB583_589.out _; (with_reducible repeat (first | refine blk_drewN ?_ _ | refine blk_drew ?_ | refine blk_alloc ?_ _)); exact BK583.out) hb); have n3_ := Aside0.mk (blk_below (g := gb589) (o := .cells #[.int .i64 t585, .slice Ao14 t586.length co14] 31 (0, 0)) (by (with_reducible repeat (first | refine blk_drewN ?_ _ | refine blk_drew ?_ | refine blk_alloc ?_ _)); refine blk_put (cs := #[.int .i64 t585, .slice none 0 0]) ?_ 1 _ rfl; (with_reducible repeat (first | refine blk_drewN ?_ _ | refine blk_drew ?_ | refine blk_alloc ?_ _)); refine blk_put (cs := #[.int .i64 0, .slice none 0 0]) ?_ 0 _ rfl; (with_reducible repeat (first | refine blk_drewN ?_ _ | refine blk_drew ?_ | refine blk_alloc ?_ _)); exact BK589.out) hb); have n4_ := Aside0.mk (below_step (by repeat (first | (with_reducible first | exact HB.out | apply below_alloc | apply pw_below_drewN | apply below_drew1 | refine below_set ?_ GE583.out | refine below_set ?_ GE589.out) | exact HB.out)) hb); clear HO588; clear BK583; clear BK589; clear HB; have HO588 := n0_; have HO592 := n1_; have BK583 := n2_; have BK589 := n3_; have HB := n4_; clear n0_ n1_ n2_ n3_ n4_; (try clear hb); (try clear hb2); (try clear hk); (try clear hi); (try clear ho0)) | ((with_reducible refine gate_dst (N := 5) rfl ?_); refine box_event ?hg (N := 5) ?hd (cs := #[.slice none 0 0, .int .i64 0]) (t := 37) ?hr ?_; (case hd => rfl); (case hg => rfl); (case hr => first | (go_simp; done) | (go_simp; rfl)); intro gb594 hg w16 hbox hb; have n0_ := Aside0.mk (Kd.R_below (by (with_reducible repeat (first | apply Kd.R_alloc | apply Kd.R_drewN | apply Kd.R_drew)); exact HO588.out) hb); have n1_ := Aside0.mk (Kd.R_below (by (with_reducible repeat (first | apply Kd.R_alloc | apply Kd.R_drewN | apply Kd.R_drew)); exact HO592.out) hb); have n2_ := Aside0.mk (blk_below (g := gb583) (o := .cells #[.int .u8 a0_0, .int .u8 a0_1, .slice A0_2 l0_2.length c0_2] 24 (0, 0)) (by (with_reducible repeat (first | refine blk_drewN ?_ _ | refine blk_drew ?_ | refine blk_alloc ?_ _)); exact BK583.out) hb); have n3_ := Aside0.mk (blk_below (g := gb589) (o := .cells #[.int .i64 t585, .slice Ao14 t586.length co14] 31 (0, 0)) (by (with_reducible repeat (first | refine blk_drewN ?_ _ | refine blk_drew ?_ | refine blk_alloc ?_ _)); exact BK589.out) hb); have n4_ := Aside0.mk (below_step (by repeat (first | (with_reducible first | exact HB.out | apply below_alloc | apply pw_below_drewN | apply below_drew1 | refine below_set ?_ GE583.out | refine below_set ?_ GE589.out) | exact HB.out)) hb); have n5_ := Aside0.mk (hbox); have n6_ := Aside0.mk ((by rw [hg]; exact (below_size (by repeat (first | (with_reducible first | exact HB.out | apply below_alloc | apply pw_below_drewN | apply below_drew1 | refine below_set ?_ GE583.out | refine below_set ?_ GE589.out) | exact HB.out))) : w.heap.size ≤ gb594)); have n7_ := Aside0.mk ((by rw [hg]; exact (below_size (by repeat (first | (with_reducible first | exact HB.out | apply below_alloc | apply pw_below_drewN | apply below_drew1 | refine below_set ?_ GE583.out | refine below_set ?_ GE589.out) | exact HB.out))) : w.heap.size ≤ gb594)); have n8_ := Aside0.mk ((by rw [hg]; exact Nat.ne_of_lt (blk_lt (g := gb583) (o := .cells #[.int .u8 a0_0, .int .u8 a0_1, .slice A0_2 l0_2.length c0_2] 24 (0, 0)) (by (with_reducible repeat (first | refine blk_drewN ?_ _ | refine blk_drew ?_ | refine blk_alloc ?_ _)); exact BK583.out)) : gb583 ≠ gb594)); have n9_ := Aside0.mk ((by rw [hg]; exact Nat.ne_of_gt (blk_lt (g := gb583) (o := .cells #[.int .u8 a0_0, .int .u8 a0_1, .slice A0_2 l0_2.length c0_2] 24 (0, 0)) (by (with_reducible repeat (first | refine blk_drewN ?_ _ | refine blk_drew ?_ | refine blk_alloc ?_ _)); exact BK583.out)) : gb594 ≠ gb583)); have n10_ := Aside0.mk ((by rw [hg]; exact Nat.ne_of_lt (blk_lt (g := gb589) (o := .cells #[.int .i64 t585, .slice Ao14 t586.length co14] 31 (0, 0)) (by (with_reducible repeat (first | refine blk_drewN ?_ _ | refine blk_drew ?_ | refine blk_alloc ?_ _)); exact BK589.out)) : gb589 ≠ gb594)); have n11_ := Aside0.mk ((by rw [hg]; exact Nat.ne_of_gt (blk_lt (g := gb589) (o := .cells #[.int .i64 t585, .slice Ao14 t586.length co14] 31 (0, 0)) (by (with_reducible repeat (first | refine blk_drewN ?_ _ | refine blk_drew ?_ | refine blk_alloc ?_ _)); exact BK589.out)) : gb594 ≠ gb589)); clear HO588; clear HO592; clear BK583; clear BK589; clear HB; have HO588 := n0_; have HO592 := n1_; have BK583 := n2_; have BK589 := n3_; have HB := n4_; have BK594 := n5_; have GW594 := n6_; have GE594 := n7_; have NB583_594 := n8_; have NB594_583 := n9_; have NB589_594 := n10_; have NB594_589 := n11_; clear n0_ n1_ n2_ n3_ n4_ n5_ n6_ n7_ n8_ n9_ n10_ n11_; clear hb hbox hg; obtain ⟨Ao17, co17, eo17⟩ := Kd.R_slice HO592.out; subst eo17; have hnb18 := NB594_583.out; have hnc18 := NB583_594.out; have hnb19 := NB594_589.out; have hnc19 := NB589_594.out; have hcz20_0 : w16.cell? ⟨gb594, 0, none⟩ = some (.slice none 0 0) := (blk_cell BK594.out 0).trans rfl; have hcz20_1 : w16.cell? ⟨gb594, 1, none⟩ = some (.int .i64 0) := (blk_cell BK594.out 1).trans rfl; have hfz20_0 := blk_frozen BK594.out 0; have hfz20_1 := blk_frozen BK594.out 1))
    (try simp only [Act.put, List.setIfInBounds_toArray, List.set_cons_zero, List.set_cons_succ])
    go_cut [36] (fun v36 wc => ∃ (kq : Nat) (x36_5 : Bool), v36 = .bool x36_5 ∧ Aside0 (wireloomlaw05_DigraphDepths.j0 kq true x36_5 t585 t586 t590 t593 = some r) ∧ Aside0 (kq ≤ k) ∧ Aside0 (Kd.R k55 55 wc w.heap.size (fun _ => True) (.slice Ao14 t586.length co14) t586) ∧ Aside0 (Kd.R (Kd.int .i64) 3 wc w.heap.size (fun _ => True) (.slice Ao17 t590.length co17) t590) ∧ Aside0 (wc.heap[gb583]? = some (.cells #[.int .u8 a0_0, .int .u8 a0_1, (.slice A0_2 l0_2.length c0_2)] 24 (0, 0))) ∧ Aside0 (wc.heap[gb589]? = some (.cells #[.int .i64 t585, (.slice Ao14 t586.length co14)] 31 (0, 0))) ∧ Aside0 (wc.heap[gb594]? = some (.cells #[(.slice Ao17 t590.length co17), .int .i64 t593] 37 (0, 0))) ∧ Aside0 (Below w.heap.size w wc))
    case first =>
      have H := HC6.out
      clear HC6
      replace H := Option.bind_eq_some_iff.mp H
      obtain ⟨⟨t595, t598⟩, A210, H⟩ := H
      replace H : (if ((t593 == 0) != (t598 == 0)) = true then (none) else (if t593 = 0 then (wireloomlaw05_DigraphDepths.j0 k true false t585 t586 t590 t593) else (wireloomlaw05_DigraphDepths.j0 k true (t593 != 50) t585 t586 t590 t593))) = some r := H
      have A21 := Aside0.mk A210
      clear A210
      by_cases c22 : ((t593 == 0) != (t598 == 0)) = true
      · rw [if_pos c22] at H
        exact absurd H (by simp)
      · rw [if_neg c22] at H
        have c22b0 : ((t593 == 0) != (t598 == 0)) = false := by simpa using c22
        (try (have c22b1 : decide ((t593 == 0) = (t598 == 0)) = true := by simpa using c22))
        (try (have c22b2 : ((t593 == 0) == (t598 == 0)) = true := by simpa using c22))
        clear c22
        (first | rw [c22b0] | (simp only [i64_w, i32_w]; rw [c22b0]) | skip)
        by_cases c23 : t593 = 0
        · rw [if_pos c23] at H
          have c23b0 : (t593 == 0) = true := beq_iff_eq.mpr c23
          have c23b1 : (t593 != 0) = false := bne_eq_false_iff_eq.mpr c23
          (try (have c23x : (t598 == 0) = true := by simpa [c23b0] using c22b0))
          clear c23
          have H' := Aside0.mk H
          clear H
          try go_wp2
          have n0_ : Aside0 (Kd.R k55 55 ((w16.setCell ⟨gb594, 0, none⟩ (.slice Ao17 t590.length co17)).setCell ⟨gb594, 1, none⟩ (.int .i64 t593)) w.heap.size (fun _ => True) (.slice Ao14 t586.length co14) t586) := ⟨by (with_reducible repeat (first | apply Kd.R_alloc | apply Kd.R_drewN | apply Kd.R_drew)); exact Kd.R_mono (Kd.R_far (p := ⟨gb594, 1, none⟩) (Kd.R_far (p := ⟨gb594, 0, none⟩) (Kd.R_types HO588.out BK594.out (by decide)) (fun _ hk => hk.2) (.slice Ao17 t590.length co17)) (fun _ hk => hk.2) (.int .i64 t593)) (fun _ hk => trivial)⟩
          have n1_ : Aside0 (Kd.R (Kd.int .i64) 3 ((w16.setCell ⟨gb594, 0, none⟩ (.slice Ao17 t590.length co17)).setCell ⟨gb594, 1, none⟩ (.int .i64 t593)) w.heap.size (fun _ => True) (.slice Ao17 t590.length co17) t590) := ⟨by (with_reducible repeat (first | apply Kd.R_alloc | apply Kd.R_drewN | apply Kd.R_drew)); exact Kd.R_mono (Kd.R_far (p := ⟨gb594, 1, none⟩) (Kd.R_far (p := ⟨gb594, 0, none⟩) (Kd.R_types HO592.out BK594.out (by decide)) (fun _ hk => hk.2) (.slice Ao17 t590.length co17)) (fun _ hk => hk.2) (.int .i64 t593)) (fun _ hk => trivial)⟩
          have n2_ : Aside0 (((w16.setCell ⟨gb594, 0, none⟩ (.slice Ao17 t590.length co17)).setCell ⟨gb594, 1, none⟩ (.int .i64 t593)).heap[gb583]? = some (.cells #[.int .u8 a0_0, .int .u8 a0_1, .slice A0_2 l0_2.length c0_2] 24 (0, 0))) := ⟨by (with_reducible repeat (first | refine blk_drewN ?_ _ | refine blk_drew ?_ | refine blk_alloc ?_ _)); refine blk_far ?_ NB583_594.out _; (with_reducible repeat (first | refine blk_drewN ?_ _ | refine blk_drew ?_ | refine blk_alloc ?_ _)); refine blk_far ?_ NB583_594.out _; (with_reducible repeat (first | refine blk_drewN ?_ _ | refine blk_drew ?_ | refine blk_alloc ?_ _)); exact BK583.out⟩
          have n3_ : Aside0 (((w16.setCell ⟨gb594, 0, none⟩ (.slice Ao17 t590.length co17)).setCell ⟨gb594, 1, none⟩ (.int .i64 t593)).heap[gb589]? = some (.cells #[.int .i64 t585, .slice Ao14 t586.length co14] 31 (0, 0))) := ⟨by (with_reducible repeat (first | refine blk_drewN ?_ _ | refine blk_drew ?_ | refine blk_alloc ?_ _)); refine blk_far ?_ NB589_594.out _; (with_reducible repeat (first | refine blk_drewN ?_ _ | refine blk_drew ?_ | refine blk_alloc ?_ _)); refine blk_far ?_ NB589_594.out _; (with_reducible repeat (first | refine blk_drewN ?_ _ | refine blk_drew ?_ | refine blk_alloc ?_ _)); exact BK589.out⟩
          have n4_ : Aside0 (((w16.setCell ⟨gb594, 0, none⟩ (.slice Ao17 t590.length co17)).setCell ⟨gb594, 1, none⟩ (.int .i64 t593)).heap[gb594]? = some (.cells #[.slice Ao17 t590.length co17, .int .i64 t593] 37 (0, 0))) := ⟨by (with_reducible repeat (first | refine blk_drewN ?_ _ | refine blk_drew ?_ | refine blk_alloc ?_ _)); refine blk_put (cs := #[.slice Ao17 t590.length co17, .int .i64 0]) ?_ 1 _ rfl; (with_reducible repeat (first | refine blk_drewN ?_ _ | refine blk_drew ?_ | refine blk_alloc ?_ _)); refine blk_put (cs := #[.slice none 0 0, .int .i64 0]) ?_ 0 _ rfl; (with_reducible repeat (first | refine blk_drewN ?_ _ | refine blk_drew ?_ | refine blk_alloc ?_ _)); exact BK594.out⟩
          have n5_ : Aside0 (Below w.heap.size w ((w16.setCell ⟨gb594, 0, none⟩ (.slice Ao17 t590.length co17)).setCell ⟨gb594, 1, none⟩ (.int .i64 t593))) := ⟨by repeat (first | (with_reducible first | exact HB.out | apply below_alloc | apply pw_below_drewN | apply below_drew1 | refine below_set ?_ GE583.out | refine below_set ?_ GE589.out | refine below_set ?_ GE594.out) | exact HB.out)⟩
          (try clear HO588)
          (try clear HO592)
          (try clear BK583)
          (try clear BK589)
          (try clear BK594)
          (try clear HB)
          generalize ((w16.setCell ⟨gb594, 0, none⟩ (.slice Ao17 t590.length co17)).setCell ⟨gb594, 1, none⟩ (.int .i64 t593)) = w24 at n0_ n1_ n2_ n3_ n4_ n5_ ⊢
          have HO588 := n0_
          have HO592 := n1_
          have BK583 := n2_
          have BK589 := n3_
          have BK594 := n4_
          have HB := n5_
          clear n0_ n1_ n2_ n3_ n4_ n5_
          have n0_ := Aside0.mk (Kd.R_drew HO588.out)
          have n1_ := Aside0.mk (Kd.R_drew HO592.out)
          have n2_ := Aside0.mk (blk_drew BK583.out)
          have n3_ := Aside0.mk (blk_drew BK589.out)
          have n4_ := Aside0.mk (blk_drew BK594.out)
          have n5_ := Aside0.mk (below_drew1 HB.out)
          clear HO588
          clear HO592
          clear BK583
          clear BK589
          clear BK594
          clear HB
          have HO588 := n0_
          have HO592 := n1_
          have BK583 := n2_
          have BK589 := n3_
          have BK594 := n4_
          have HB := n5_
          clear n0_ n1_ n2_ n3_ n4_ n5_
          refine start_ (n := 18) (S := fun w' => w'.cell? ⟨gb594, 0, none⟩ = some (.slice Ao17 t590.length co17) ∧ w'.cell? ⟨gb594, 1, none⟩ = some (.int .i64 t593) ∧ w'.cell? ⟨gb589, 0, none⟩ = some (.int .i64 t585) ∧ w'.cell? ⟨gb589, 1, none⟩ = some (.slice Ao14 t586.length co14)) (ds := []) #[false, false, false, false, false, false, false, false, false, false, false, false, false, false, false, false, false, false] (by kernel_rfl) rfl rfl ⟨(blk_cell BK594.out 0).trans rfl, (blk_cell BK594.out 1).trans rfl, (blk_cell BK589.out 0).trans rfl, (blk_cell BK589.out 1).trans rfl⟩ (fun hHeld => ?_); refine with_tabW wireloomlaw05_DigraphDepths.tab6 wireloomlaw05_DigraphDepths.bits6 (fun HT_ HW_ => ?_)
          generalize w24.drew = w25 at HO588 HO592 BK583 BK589 BK594 HB hHeld ⊢
          refine pure_ (i := 0) (N := some 19) (v := ?_) (a' := ?_) #[true, false, false, false, false, false, false, false, false, false, false, false, false, false, false, false, false, false] rfl rfl (any_of HT_.out (by kernel_rfl)) (fun _ _ _ h => h) (Or.inl ⟨by rfl, ?_⟩) ?_ ?_
          rotate_left
          · intro w'
            go_simp
            with_reducible rfl
          rotate_left
          · simp only [Act.put, List.setIfInBounds_toArray, List.set_cons_zero, List.set_cons_succ, i64_w, i32_w]
            rfl
          refine take_ (i := 1) (N := some 20) (v := ?_) (a' := ?_) #[true, true, false, false, false, false, false, false, false, false, false, false, false, false, false, false, false, false] rfl rfl (take_ofW HT_.out HW_.out (by kernel_rfl)) (fun _ _ _ h => h) (Or.inl ⟨by rfl, ?_⟩) hHeld ?_ ?_
          rotate_left
          · rintro w' ⟨s0, s1, s2, s3⟩
            go_simp
            with_reducible rfl
          rotate_left
          · simp only [Act.put, List.setIfInBounds_toArray, List.set_cons_zero, List.set_cons_succ, i64_w, i32_w]
            rfl
          refine pure_ (i := 2) (N := some 21) (v := ?_) (a' := ?_) #[true, true, true, false, false, false, false, false, false, false, false, false, false, false, false, false, false, false] rfl rfl (any_of HT_.out (by kernel_rfl)) (fun _ _ _ h => h) (Or.inl ⟨by rfl, ?_⟩) ?_ ?_
          rotate_left
          · intro w'
            go_simp
            with_reducible rfl
          rotate_left
          · simp only [Act.put, List.setIfInBounds_toArray, List.set_cons_zero, List.set_cons_succ, i64_w, i32_w]
            rfl
          refine take_ (i := 3) (N := some 22) (v := ?_) (a' := ?_) #[true, true, true, true, false, false, false, false, false, false, false, false, false, false, false, false, false, false] rfl rfl (take_ofW HT_.out HW_.out (by kernel_rfl)) (fun _ _ _ h => h) (Or.inl ⟨by rfl, ?_⟩) hHeld ?_ ?_
          rotate_left
          · rintro w' ⟨s0, s1, s2, s3⟩
            go_simp
            with_reducible rfl
          rotate_left
          · simp only [Act.put, List.setIfInBounds_toArray, List.set_cons_zero, List.set_cons_succ, i64_w, i32_w]
            rfl
          refine one_ (i := 4) (N := some 23) #[true, true, true, true, true, false, false, false, false, false, false, false, false, false, false, false, false, false] rfl rfl (one_of HT_.out (by kernel_rfl)) (by decide) (fun K hK => ?_)
          refine goes_ Try.func15 (by kernel_rfl) rfl #[.agg #[.int .i64 t585, .slice Ao14 t586.length co14]] (by rfl) rfl rfl (by (try simp only [List.map_toArray, List.map_cons, List.map_nil]); first | done | rfl | (simp only [List.length_drop, List.length_take]; rfl)) ?_
          with_reducible refine (wireloomlaw05_order.calls t585 _ _ t586 t595 t598 _ ?side1 ?side2 A21.out).mono ?_
          (case side1 => repeat (first | exact (Kd.R_reads' HO588.out).2.2 | (with_reducible refine Kd.C_alloc ?_ _) | (with_reducible refine Kd.C_drewN ?_ _) | (with_reducible refine Kd.C_drew ?_)))
          (case side2 => exact (Kd.R_reads' HO588.out).2.1)
          rintro e w26 ⟨v596, rfl, ho0, hb⟩
          refine ⟨_, rfl, ?_⟩
          have n0_ := Aside0.mk (Kd.R_below (by (with_reducible repeat (first | apply Kd.R_alloc | apply Kd.R_drewN | apply Kd.R_drew)); exact HO588.out) hb)
          have n1_ := Aside0.mk (Kd.R_elder' (by (with_reducible repeat (first | apply Kd.R_alloc | apply Kd.R_drewN | apply Kd.R_drew)); exact HO592.out) (Kd.R_base ho0) hb)
          have n2_ := Aside0.mk (Kd.R_lower (Kd.R_new' ho0 (Kd.R_lt (by (with_reducible repeat (first | apply Kd.R_alloc | apply Kd.R_drewN | apply Kd.R_drew)); exact HO592.out))) (below_size (by repeat (first | (with_reducible first | exact HB.out | apply below_alloc | apply pw_below_drewN | apply below_drew1 | refine below_set ?_ GE583.out | refine below_set ?_ GE589.out | refine below_set ?_ GE594.out) | exact HB.out))))
          have n3_ := Aside0.mk (blk_below (g := gb583) (o := .cells #[.int .u8 a0_0, .int .u8 a0_1, .slice A0_2 l0_2.length c0_2] 24 (0, 0)) (by (with_reducible repeat (first | refine blk_drewN ?_ _ | refine blk_drew ?_ | refine blk_alloc ?_ _)); exact BK583.out) hb)
          have n4_ := Aside0.mk (blk_below (g := gb589) (o := .cells #[.int .i64 t585, .slice Ao14 t586.length co14] 31 (0, 0)) (by (with_reducible repeat (first | refine blk_drewN ?_ _ | refine blk_drew ?_ | refine blk_alloc ?_ _)); exact BK589.out) hb)
          have n5_ := Aside0.mk (blk_below (g := gb594) (o := .cells #[.slice Ao17 t590.length co17, .int .i64 t593] 37 (0, 0)) (by (with_reducible repeat (first | refine blk_drewN ?_ _ | refine blk_drew ?_ | refine blk_alloc ?_ _)); exact BK594.out) hb)
          have n6_ := Aside0.mk (below_step (by repeat (first | (with_reducible first | exact HB.out | apply below_alloc | apply pw_below_drewN | apply below_drew1 | refine below_set ?_ GE583.out | refine below_set ?_ GE589.out | refine below_set ?_ GE594.out) | exact HB.out)) hb)
          clear HO588
          clear HO592
          clear BK583
          clear BK589
          clear BK594
          clear HB
          have HO588 := n0_
          have HO592 := n1_
          have HO597 := n2_
          have BK583 := n3_
          have BK589 := n4_
          have BK594 := n5_
          have HB := n6_
          clear n0_ n1_ n2_ n3_ n4_ n5_ n6_
          (try clear hb)
          (try clear hb2)
          (try clear hk)
          (try clear hi)
          (try clear ho0)
          refine hK.out _ _ ⟨(blk_cell BK594.out 0).trans rfl, (blk_cell BK594.out 1).trans rfl, (blk_cell BK589.out 0).trans rfl, (blk_cell BK589.out 1).trans rfl⟩ (fun hHeld => ?_)
          clear hK K
          refine norm_ (a' := ?_) ?_ ?_
          rotate_left
          · show Act.put _ (some 23) _ = _
            simp only [Act.put, List.setIfInBounds_toArray, List.set_cons_zero, List.set_cons_succ, i64_w, i32_w]
            rfl
          refine pure_ (i := 5) (N := some 24) (v := ?_) (a' := ?_) #[true, true, true, true, true, true, false, false, false, false, false, false, false, false, false, false, false, false] rfl rfl (any_of HT_.out (by kernel_rfl)) (fun _ _ _ h => h) (Or.inl ⟨by rfl, ?_⟩) ?_ ?_
          rotate_left
          · intro w'
            go_simp
            with_reducible rfl
          rotate_left
          · simp only [Act.put, List.setIfInBounds_toArray, List.set_cons_zero, List.set_cons_succ, i64_w, i32_w]
            rfl
          refine pure_ (i := 6) (N := some 25) (v := ?_) (a' := ?_) #[true, true, true, true, true, true, true, false, false, false, false, false, false, false, false, false, false, false] rfl rfl (any_of HT_.out (by kernel_rfl)) (fun _ _ _ h => h) (Or.inl ⟨by rfl, ?_⟩) ?_ ?_
          rotate_left
          · intro w'
            go_simp
            with_reducible rfl
          rotate_left
          · simp only [Act.put, List.setIfInBounds_toArray, List.set_cons_zero, List.set_cons_succ, i64_w, i32_w]
            rfl
          refine pure_ (i := 7) (N := some 26) (v := ?_) (a' := ?_) #[true, true, true, true, true, true, true, true, false, false, false, false, false, false, false, false, false, false] rfl rfl (any_of HT_.out (by kernel_rfl)) (fun _ _ _ h => h) (Or.inl ⟨by rfl, ?_⟩) ?_ ?_
          rotate_left
          · intro w'
            go_simp
            with_reducible rfl
          rotate_left
          · simp only [Act.put, List.setIfInBounds_toArray, List.set_cons_zero, List.set_cons_succ, i64_w, i32_w]
            rfl
          refine pure_ (i := 8) (N := some 27) (v := ?_) (a' := ?_) #[true, true, true, true, true, true, true, true, true, false, false, false, false, false, false, false, false, false] rfl rfl (any_of HT_.out (by kernel_rfl)) (fun _ _ _ h => h) (Or.inl ⟨by rfl, ?_⟩) ?_ ?_
          rotate_left
          · intro w'
            go_simp
            with_reducible rfl
          rotate_left
          · simp only [Act.put, List.setIfInBounds_toArray, List.set_cons_zero, List.set_cons_succ, i64_w, i32_w]
            rfl
          refine pure_ (i := 9) (N := some 28) (v := ?_) (a' := ?_) #[true, true, true, true, true, true, true, true, true, true, false, false, false, false, false, false, false, false] rfl rfl (any_of HT_.out (by kernel_rfl)) (fun _ _ _ h => h) (Or.inl ⟨by rfl, ?_⟩) ?_ ?_
          rotate_left
          · intro w'
            go_simp
            with_reducible rfl
          rotate_left
          · simp only [Act.put, List.setIfInBounds_toArray, List.set_cons_zero, List.set_cons_succ, i64_w, i32_w]
            rfl
          refine take_ (i := 10) (N := some 29) (v := ?_) (a' := ?_) #[true, true, true, true, true, true, true, true, true, true, true, false, false, false, false, false, false, false] rfl rfl (take_ofW HT_.out HW_.out (by kernel_rfl)) (fun _ _ _ h => h) (Or.inl ⟨by rfl, ?_⟩) hHeld ?_ ?_
          rotate_left
          · rintro w' ⟨s0, s1, s2, s3⟩
            go_simp
            with_reducible rfl
          rotate_left
          · simp only [Act.put, List.setIfInBounds_toArray, List.set_cons_zero, List.set_cons_succ, i64_w, i32_w]
            rfl
          refine pure_ (i := 11) (N := some 30) (v := ?_) (a' := ?_) #[true, true, true, true, true, true, true, true, true, true, true, true, false, false, false, false, false, false] rfl rfl (any_of HT_.out (by kernel_rfl)) (fun _ _ _ h => h) (Or.inl ⟨by rfl, ?_⟩) ?_ ?_
          rotate_left
          · intro w'
            go_simp
            with_reducible rfl
          rotate_left
          · simp only [Act.put, List.setIfInBounds_toArray, List.set_cons_zero, List.set_cons_succ, i64_w, i32_w]
            rfl
          refine pure_ (i := 12) (N := some 31) (v := ?_) (a' := ?_) #[true, true, true, true, true, true, true, true, true, true, true, true, true, false, false, false, false, false] rfl rfl (any_of HT_.out (by kernel_rfl)) (fun _ _ _ h => h) (Or.inl ⟨by rfl, ?_⟩) ?_ ?_
          rotate_left
          · intro w'
            go_simp
            with_reducible rfl
          rotate_left
          · simp only [Act.put, List.setIfInBounds_toArray, List.set_cons_zero, List.set_cons_succ, i64_w, i32_w]
            rfl
          refine pure_ (i := 13) (N := some 32) (v := undef) (a' := ?_) #[true, true, true, true, true, true, true, true, true, true, true, true, true, true, false, false, false, false] rfl rfl (any_of HT_.out (by kernel_rfl)) (fun _ _ _ h => h) (Or.inr ⟨by rfl, rfl⟩) ?_ ?_
          rotate_left
          · simp only [Act.put, List.setIfInBounds_toArray, List.set_cons_zero, List.set_cons_succ, i64_w, i32_w]
            rfl
          refine pure_ (i := 14) (N := some 33) (v := undef) (a' := ?_) #[true, true, true, true, true, true, true, true, true, true, true, true, true, true, true, false, false, false] rfl rfl (any_of HT_.out (by kernel_rfl)) (fun _ _ _ h => h) (Or.inr ⟨by rfl, rfl⟩) ?_ ?_
          rotate_left
          · simp only [Act.put, List.setIfInBounds_toArray, List.set_cons_zero, List.set_cons_succ, i64_w, i32_w]
            rfl
          refine pure_ (i := 15) (N := some 34) (v := undef) (a' := ?_) #[true, true, true, true, true, true, true, true, true, true, true, true, true, true, true, true, false, false] rfl rfl (any_of HT_.out (by kernel_rfl)) (fun _ _ _ h => h) (Or.inr ⟨by rfl, rfl⟩) ?_ ?_
          rotate_left
          · simp only [Act.put, List.setIfInBounds_toArray, List.set_cons_zero, List.set_cons_succ, i64_w, i32_w]
            rfl
          refine pure_ (i := 16) (N := some 35) (v := ?_) (a' := ?_) #[true, true, true, true, true, true, true, true, true, true, true, true, true, true, true, true, true, false] rfl rfl (any_of HT_.out (by kernel_rfl)) (fun _ _ _ h => h) (Or.inl ⟨by rfl, ?_⟩) ?_ ?_
          rotate_left
          · intro w'
            go_simp
            with_reducible rfl
          rotate_left
          · simp only [Act.put, List.setIfInBounds_toArray, List.set_cons_zero, List.set_cons_succ, i64_w, i32_w]
            rfl
          refine pure_ (i := 17) (N := some 36) (v := ?_) (a' := ?_) #[true, true, true, true, true, true, true, true, true, true, true, true, true, true, true, true, true, true] rfl rfl (any_of HT_.out (by kernel_rfl)) (fun _ _ _ h => h) (Or.inl ⟨by rfl, ?_⟩) ?_ ?_
          rotate_left
          · intro w'
            go_simp
            with_reducible rfl
          rotate_left
          · simp only [Act.put, List.setIfInBounds_toArray, List.set_cons_zero, List.set_cons_succ, i64_w, i32_w]
            rfl
          refine done_ (done_of HT_.out (by kernel_rfl)) ?_
          try go_wp2
          go_meet
          case rel => exact ⟨_, (false), (by first | rfl | (simp; done) | (simp [*]; done)), H', ⟨by first | omega | exact Nat.le_refl _⟩, ⟨by (with_reducible repeat (first | apply Kd.R_alloc | apply Kd.R_drewN | apply Kd.R_drew)); exact HO588.out⟩, ⟨by (with_reducible repeat (first | apply Kd.R_alloc | apply Kd.R_drewN | apply Kd.R_drew)); exact Kd.R_mono HO592.out (fun _ hk => trivial)⟩, ⟨by (with_reducible repeat (first | refine blk_drewN ?_ _ | refine blk_drew ?_ | refine blk_alloc ?_ _)); exact BK583.out⟩, ⟨by (with_reducible repeat (first | refine blk_drewN ?_ _ | refine blk_drew ?_ | refine blk_alloc ?_ _)); exact BK589.out⟩, ⟨by (with_reducible repeat (first | refine blk_drewN ?_ _ | refine blk_drew ?_ | refine blk_alloc ?_ _)); exact BK594.out⟩, ⟨by repeat (first | (with_reducible first | exact HB.out | apply below_alloc | apply pw_below_drewN | apply below_drew1 | refine below_set ?_ GE583.out | refine below_set ?_ GE589.out | refine below_set ?_ GE594.out) | exact HB.out)⟩⟩
        · rw [if_neg c23] at H
          have c23b0 : (t593 == 0) = false := beq_eq_false_iff_ne.mpr c23
          have c23b1 : (t593 != 0) = true := bne_iff_ne.mpr c23
          (try (have c23x : (t598 == 0) = false := by simpa [c23b0] using c22b0))
          have H' := Aside0.mk H
          clear H
          try go_wp2
          have n0_ : Aside0 (Kd.R k55 55 ((w16.setCell ⟨gb594, 0, none⟩ (.slice Ao17 t590.length co17)).setCell ⟨gb594, 1, none⟩ (.int .i64 t593)) w.heap.size (fun _ => True) (.slice Ao14 t586.length co14) t586) := ⟨by (with_reducible repeat (first | apply Kd.R_alloc | apply Kd.R_drewN | apply Kd.R_drew)); exact Kd.R_mono (Kd.R_far (p := ⟨gb594, 1, none⟩) (Kd.R_far (p := ⟨gb594, 0, none⟩) (Kd.R_types HO588.out BK594.out (by decide)) (fun _ hk => hk.2) (.slice Ao17 t590.length co17)) (fun _ hk => hk.2) (.int .i64 t593)) (fun _ hk => trivial)⟩
          have n1_ : Aside0 (Kd.R (Kd.int .i64) 3 ((w16.setCell ⟨gb594, 0, none⟩ (.slice Ao17 t590.length co17)).setCell ⟨gb594, 1, none⟩ (.int .i64 t593)) w.heap.size (fun _ => True) (.slice Ao17 t590.length co17) t590) := ⟨by (with_reducible repeat (first | apply Kd.R_alloc | apply Kd.R_drewN | apply Kd.R_drew)); exact Kd.R_mono (Kd.R_far (p := ⟨gb594, 1, none⟩) (Kd.R_far (p := ⟨gb594, 0, none⟩) (Kd.R_types HO592.out BK594.out (by decide)) (fun _ hk => hk.2) (.slice Ao17 t590.length co17)) (fun _ hk => hk.2) (.int .i64 t593)) (fun _ hk => trivial)⟩
          have n2_ : Aside0 (((w16.setCell ⟨gb594, 0, none⟩ (.slice Ao17 t590.length co17)).setCell ⟨gb594, 1, none⟩ (.int .i64 t593)).heap[gb583]? = some (.cells #[.int .u8 a0_0, .int .u8 a0_1, .slice A0_2 l0_2.length c0_2] 24 (0, 0))) := ⟨by (with_reducible repeat (first | refine blk_drewN ?_ _ | refine blk_drew ?_ | refine blk_alloc ?_ _)); refine blk_far ?_ NB583_594.out _; (with_reducible repeat (first | refine blk_drewN ?_ _ | refine blk_drew ?_ | refine blk_alloc ?_ _)); refine blk_far ?_ NB583_594.out _; (with_reducible repeat (first | refine blk_drewN ?_ _ | refine blk_drew ?_ | refine blk_alloc ?_ _)); exact BK583.out⟩
          have n3_ : Aside0 (((w16.setCell ⟨gb594, 0, none⟩ (.slice Ao17 t590.length co17)).setCell ⟨gb594, 1, none⟩ (.int .i64 t593)).heap[gb589]? = some (.cells #[.int .i64 t585, .slice Ao14 t586.length co14] 31 (0, 0))) := ⟨by (with_reducible repeat (first | refine blk_drewN ?_ _ | refine blk_drew ?_ | refine blk_alloc ?_ _)); refine blk_far ?_ NB589_594.out _; (with_reducible repeat (first | refine blk_drewN ?_ _ | refine blk_drew ?_ | refine blk_alloc ?_ _)); refine blk_far ?_ NB589_594.out _; (with_reducible repeat (first | refine blk_drewN ?_ _ | refine blk_drew ?_ | refine blk_alloc ?_ _)); exact BK589.out⟩
          have n4_ : Aside0 (((w16.setCell ⟨gb594, 0, none⟩ (.slice Ao17 t590.length co17)).setCell ⟨gb594, 1, none⟩ (.int .i64 t593)).heap[gb594]? = some (.cells #[.slice Ao17 t590.length co17, .int .i64 t593] 37 (0, 0))) := ⟨by (with_reducible repeat (first | refine blk_drewN ?_ _ | refine blk_drew ?_ | refine blk_alloc ?_ _)); refine blk_put (cs := #[.slice Ao17 t590.length co17, .int .i64 0]) ?_ 1 _ rfl; (with_reducible repeat (first | refine blk_drewN ?_ _ | refine blk_drew ?_ | refine blk_alloc ?_ _)); refine blk_put (cs := #[.slice none 0 0, .int .i64 0]) ?_ 0 _ rfl; (with_reducible repeat (first | refine blk_drewN ?_ _ | refine blk_drew ?_ | refine blk_alloc ?_ _)); exact BK594.out⟩
          have n5_ : Aside0 (Below w.heap.size w ((w16.setCell ⟨gb594, 0, none⟩ (.slice Ao17 t590.length co17)).setCell ⟨gb594, 1, none⟩ (.int .i64 t593))) := ⟨by repeat (first | (with_reducible first | exact HB.out | apply below_alloc | apply pw_below_drewN | apply below_drew1 | refine below_set ?_ GE583.out | refine below_set ?_ GE589.out | refine below_set ?_ GE594.out) | exact HB.out)⟩
          (try clear HO588)
          (try clear HO592)
          (try clear BK583)
          (try clear BK589)
          (try clear BK594)
          (try clear HB)
          generalize ((w16.setCell ⟨gb594, 0, none⟩ (.slice Ao17 t590.length co17)).setCell ⟨gb594, 1, none⟩ (.int .i64 t593)) = w27 at n0_ n1_ n2_ n3_ n4_ n5_ ⊢
          have HO588 := n0_
          have HO592 := n1_
          have BK583 := n2_
          have BK589 := n3_
          have BK594 := n4_
          have HB := n5_
          clear n0_ n1_ n2_ n3_ n4_ n5_
          have n0_ := Aside0.mk (Kd.R_drew HO588.out)
          have n1_ := Aside0.mk (Kd.R_drew HO592.out)
          have n2_ := Aside0.mk (blk_drew BK583.out)
          have n3_ := Aside0.mk (blk_drew BK589.out)
          have n4_ := Aside0.mk (blk_drew BK594.out)
          have n5_ := Aside0.mk (below_drew1 HB.out)
          clear HO588
          clear HO592
          clear BK583
          clear BK589
          clear BK594
          clear HB
          have HO588 := n0_
          have HO592 := n1_
          have BK583 := n2_
          have BK589 := n3_
          have BK594 := n4_
          have HB := n5_
          clear n0_ n1_ n2_ n3_ n4_ n5_
          refine start_ (n := 18) (S := fun w' => w'.cell? ⟨gb594, 0, none⟩ = some (.slice Ao17 t590.length co17) ∧ w'.cell? ⟨gb594, 1, none⟩ = some (.int .i64 t593) ∧ w'.cell? ⟨gb589, 0, none⟩ = some (.int .i64 t585) ∧ w'.cell? ⟨gb589, 1, none⟩ = some (.slice Ao14 t586.length co14)) (ds := []) #[false, false, false, false, false, false, false, false, false, false, false, false, false, false, false, false, false, false] (by kernel_rfl) rfl rfl ⟨(blk_cell BK594.out 0).trans rfl, (blk_cell BK594.out 1).trans rfl, (blk_cell BK589.out 0).trans rfl, (blk_cell BK589.out 1).trans rfl⟩ (fun hHeld => ?_); refine with_tabW wireloomlaw05_DigraphDepths.tab6 wireloomlaw05_DigraphDepths.bits6 (fun HT_ HW_ => ?_)
          generalize w27.drew = w28 at HO588 HO592 BK583 BK589 BK594 HB hHeld ⊢
          refine pure_ (i := 0) (N := some 19) (v := ?_) (a' := ?_) #[true, false, false, false, false, false, false, false, false, false, false, false, false, false, false, false, false, false] rfl rfl (any_of HT_.out (by kernel_rfl)) (fun _ _ _ h => h) (Or.inl ⟨by rfl, ?_⟩) ?_ ?_
          rotate_left
          · intro w'
            go_simp
            with_reducible rfl
          rotate_left
          · simp only [Act.put, List.setIfInBounds_toArray, List.set_cons_zero, List.set_cons_succ, i64_w, i32_w]
            rfl
          refine take_ (i := 1) (N := some 20) (v := ?_) (a' := ?_) #[true, true, false, false, false, false, false, false, false, false, false, false, false, false, false, false, false, false] rfl rfl (take_ofW HT_.out HW_.out (by kernel_rfl)) (fun _ _ _ h => h) (Or.inl ⟨by rfl, ?_⟩) hHeld ?_ ?_
          rotate_left
          · rintro w' ⟨s0, s1, s2, s3⟩
            go_simp
            with_reducible rfl
          rotate_left
          · simp only [Act.put, List.setIfInBounds_toArray, List.set_cons_zero, List.set_cons_succ, i64_w, i32_w]
            rfl
          refine pure_ (i := 2) (N := some 21) (v := ?_) (a' := ?_) #[true, true, true, false, false, false, false, false, false, false, false, false, false, false, false, false, false, false] rfl rfl (any_of HT_.out (by kernel_rfl)) (fun _ _ _ h => h) (Or.inl ⟨by rfl, ?_⟩) ?_ ?_
          rotate_left
          · intro w'
            go_simp
            with_reducible rfl
          rotate_left
          · simp only [Act.put, List.setIfInBounds_toArray, List.set_cons_zero, List.set_cons_succ, i64_w, i32_w]
            rfl
          refine take_ (i := 3) (N := some 22) (v := ?_) (a' := ?_) #[true, true, true, true, false, false, false, false, false, false, false, false, false, false, false, false, false, false] rfl rfl (take_ofW HT_.out HW_.out (by kernel_rfl)) (fun _ _ _ h => h) (Or.inl ⟨by rfl, ?_⟩) hHeld ?_ ?_
          rotate_left
          · rintro w' ⟨s0, s1, s2, s3⟩
            go_simp
            with_reducible rfl
          rotate_left
          · simp only [Act.put, List.setIfInBounds_toArray, List.set_cons_zero, List.set_cons_succ, i64_w, i32_w]
            rfl
          refine one_ (i := 4) (N := some 23) #[true, true, true, true, true, false, false, false, false, false, false, false, false, false, false, false, false, false] rfl rfl (one_of HT_.out (by kernel_rfl)) (by decide) (fun K hK => ?_)
          refine goes_ Try.func15 (by kernel_rfl) rfl #[.agg #[.int .i64 t585, .slice Ao14 t586.length co14]] (by rfl) rfl rfl (by (try simp only [List.map_toArray, List.map_cons, List.map_nil]); first | done | rfl | (simp only [List.length_drop, List.length_take]; rfl)) ?_
          with_reducible refine (wireloomlaw05_order.calls t585 _ _ t586 t595 t598 _ ?side1 ?side2 A21.out).mono ?_
          (case side1 => repeat (first | exact (Kd.R_reads' HO588.out).2.2 | (with_reducible refine Kd.C_alloc ?_ _) | (with_reducible refine Kd.C_drewN ?_ _) | (with_reducible refine Kd.C_drew ?_)))
          (case side2 => exact (Kd.R_reads' HO588.out).2.1)
          rintro e w29 ⟨v596, rfl, ho0, hb⟩
          refine ⟨_, rfl, ?_⟩
          have n0_ := Aside0.mk (Kd.R_below (by (with_reducible repeat (first | apply Kd.R_alloc | apply Kd.R_drewN | apply Kd.R_drew)); exact HO588.out) hb)
          have n1_ := Aside0.mk (Kd.R_elder' (by (with_reducible repeat (first | apply Kd.R_alloc | apply Kd.R_drewN | apply Kd.R_drew)); exact HO592.out) (Kd.R_base ho0) hb)
          have n2_ := Aside0.mk (Kd.R_lower (Kd.R_new' ho0 (Kd.R_lt (by (with_reducible repeat (first | apply Kd.R_alloc | apply Kd.R_drewN | apply Kd.R_drew)); exact HO592.out))) (below_size (by repeat (first | (with_reducible first | exact HB.out | apply below_alloc | apply pw_below_drewN | apply below_drew1 | refine below_set ?_ GE583.out | refine below_set ?_ GE589.out | refine below_set ?_ GE594.out) | exact HB.out))))
          have n3_ := Aside0.mk (blk_below (g := gb583) (o := .cells #[.int .u8 a0_0, .int .u8 a0_1, .slice A0_2 l0_2.length c0_2] 24 (0, 0)) (by (with_reducible repeat (first | refine blk_drewN ?_ _ | refine blk_drew ?_ | refine blk_alloc ?_ _)); exact BK583.out) hb)
          have n4_ := Aside0.mk (blk_below (g := gb589) (o := .cells #[.int .i64 t585, .slice Ao14 t586.length co14] 31 (0, 0)) (by (with_reducible repeat (first | refine blk_drewN ?_ _ | refine blk_drew ?_ | refine blk_alloc ?_ _)); exact BK589.out) hb)
          have n5_ := Aside0.mk (blk_below (g := gb594) (o := .cells #[.slice Ao17 t590.length co17, .int .i64 t593] 37 (0, 0)) (by (with_reducible repeat (first | refine blk_drewN ?_ _ | refine blk_drew ?_ | refine blk_alloc ?_ _)); exact BK594.out) hb)
          have n6_ := Aside0.mk (below_step (by repeat (first | (with_reducible first | exact HB.out | apply below_alloc | apply pw_below_drewN | apply below_drew1 | refine below_set ?_ GE583.out | refine below_set ?_ GE589.out | refine below_set ?_ GE594.out) | exact HB.out)) hb)
          clear HO588
          clear HO592
          clear BK583
          clear BK589
          clear BK594
          clear HB
          have HO588 := n0_
          have HO592 := n1_
          have HO597 := n2_
          have BK583 := n3_
          have BK589 := n4_
          have BK594 := n5_
          have HB := n6_
          clear n0_ n1_ n2_ n3_ n4_ n5_ n6_
          (try clear hb)
          (try clear hb2)
          (try clear hk)
          (try clear hi)
          (try clear ho0)
          refine hK.out _ _ ⟨(blk_cell BK594.out 0).trans rfl, (blk_cell BK594.out 1).trans rfl, (blk_cell BK589.out 0).trans rfl, (blk_cell BK589.out 1).trans rfl⟩ (fun hHeld => ?_)
          clear hK K
          refine norm_ (a' := ?_) ?_ ?_
          rotate_left
          · show Act.put _ (some 23) _ = _
            simp only [Act.put, List.setIfInBounds_toArray, List.set_cons_zero, List.set_cons_succ, i64_w, i32_w]
            rfl
          refine pure_ (i := 5) (N := some 24) (v := ?_) (a' := ?_) #[true, true, true, true, true, true, false, false, false, false, false, false, false, false, false, false, false, false] rfl rfl (any_of HT_.out (by kernel_rfl)) (fun _ _ _ h => h) (Or.inl ⟨by rfl, ?_⟩) ?_ ?_
          rotate_left
          · intro w'
            go_simp
            with_reducible rfl
          rotate_left
          · simp only [Act.put, List.setIfInBounds_toArray, List.set_cons_zero, List.set_cons_succ, i64_w, i32_w]
            rfl
          refine pure_ (i := 6) (N := some 25) (v := ?_) (a' := ?_) #[true, true, true, true, true, true, true, false, false, false, false, false, false, false, false, false, false, false] rfl rfl (any_of HT_.out (by kernel_rfl)) (fun _ _ _ h => h) (Or.inl ⟨by rfl, ?_⟩) ?_ ?_
          rotate_left
          · intro w'
            go_simp
            with_reducible rfl
          rotate_left
          · simp only [Act.put, List.setIfInBounds_toArray, List.set_cons_zero, List.set_cons_succ, i64_w, i32_w]
            rfl
          refine pure_ (i := 7) (N := some 26) (v := ?_) (a' := ?_) #[true, true, true, true, true, true, true, true, false, false, false, false, false, false, false, false, false, false] rfl rfl (any_of HT_.out (by kernel_rfl)) (fun _ _ _ h => h) (Or.inl ⟨by rfl, ?_⟩) ?_ ?_
          rotate_left
          · intro w'
            go_simp
            with_reducible rfl
          rotate_left
          · simp only [Act.put, List.setIfInBounds_toArray, List.set_cons_zero, List.set_cons_succ, i64_w, i32_w]
            rfl
          refine pure_ (i := 8) (N := some 27) (v := ?_) (a' := ?_) #[true, true, true, true, true, true, true, true, true, false, false, false, false, false, false, false, false, false] rfl rfl (any_of HT_.out (by kernel_rfl)) (fun _ _ _ h => h) (Or.inl ⟨by rfl, ?_⟩) ?_ ?_
          rotate_left
          · intro w'
            go_simp
            with_reducible rfl
          rotate_left
          · simp only [Act.put, List.setIfInBounds_toArray, List.set_cons_zero, List.set_cons_succ, i64_w, i32_w]
            rfl
          refine pure_ (i := 9) (N := some 28) (v := ?_) (a' := ?_) #[true, true, true, true, true, true, true, true, true, true, false, false, false, false, false, false, false, false] rfl rfl (any_of HT_.out (by kernel_rfl)) (fun _ _ _ h => h) (Or.inl ⟨by rfl, ?_⟩) ?_ ?_
          rotate_left
          · intro w'
            go_simp
            with_reducible rfl
          rotate_left
          · simp only [Act.put, List.setIfInBounds_toArray, List.set_cons_zero, List.set_cons_succ, i64_w, i32_w]
            rfl
          refine take_ (i := 10) (N := some 29) (v := ?_) (a' := ?_) #[true, true, true, true, true, true, true, true, true, true, true, false, false, false, false, false, false, false] rfl rfl (take_ofW HT_.out HW_.out (by kernel_rfl)) (fun _ _ _ h => h) (Or.inl ⟨by rfl, ?_⟩) hHeld ?_ ?_
          rotate_left
          · rintro w' ⟨s0, s1, s2, s3⟩
            go_simp
            with_reducible rfl
          rotate_left
          · simp only [Act.put, List.setIfInBounds_toArray, List.set_cons_zero, List.set_cons_succ, i64_w, i32_w]
            rfl
          refine pure_ (i := 11) (N := some 30) (v := ?_) (a' := ?_) #[true, true, true, true, true, true, true, true, true, true, true, true, false, false, false, false, false, false] rfl rfl (any_of HT_.out (by kernel_rfl)) (fun _ _ _ h => h) (Or.inl ⟨by rfl, ?_⟩) ?_ ?_
          rotate_left
          · intro w'
            go_simp
            with_reducible rfl
          rotate_left
          · simp only [Act.put, List.setIfInBounds_toArray, List.set_cons_zero, List.set_cons_succ, i64_w, i32_w]
            rfl
          refine pure_ (i := 12) (N := some 31) (v := ?_) (a' := ?_) #[true, true, true, true, true, true, true, true, true, true, true, true, true, false, false, false, false, false] rfl rfl (any_of HT_.out (by kernel_rfl)) (fun _ _ _ h => h) (Or.inl ⟨by rfl, ?_⟩) ?_ ?_
          rotate_left
          · intro w'
            go_simp
            with_reducible rfl
          rotate_left
          · simp only [Act.put, List.setIfInBounds_toArray, List.set_cons_zero, List.set_cons_succ, i64_w, i32_w]
            rfl
          refine pure_ (i := 13) (N := some 32) (v := ?_) (a' := ?_) #[true, true, true, true, true, true, true, true, true, true, true, true, true, true, false, false, false, false] rfl rfl (any_of HT_.out (by kernel_rfl)) (fun _ _ _ h => h) (Or.inl ⟨by rfl, ?_⟩) ?_ ?_
          rotate_left
          · intro w'
            go_simp
            with_reducible rfl
          rotate_left
          · simp only [Act.put, List.setIfInBounds_toArray, List.set_cons_zero, List.set_cons_succ, i64_w, i32_w]
            rfl
          refine take_ (i := 14) (N := some 33) (v := ?_) (a' := ?_) #[true, true, true, true, true, true, true, true, true, true, true, true, true, true, true, false, false, false] rfl rfl (take_ofW HT_.out HW_.out (by kernel_rfl)) (fun _ _ _ h => h) (Or.inl ⟨by rfl, ?_⟩) hHeld ?_ ?_
          rotate_left
          · rintro w' ⟨s0, s1, s2, s3⟩
            go_simp
            with_reducible rfl
          rotate_left
          · simp only [Act.put, List.setIfInBounds_toArray, List.set_cons_zero, List.set_cons_succ, i64_w, i32_w]
            rfl
          refine pure_ (i := 15) (N := some 34) (v := ?_) (a' := ?_) #[true, true, true, true, true, true, true, true, true, true, true, true, true, true, true, true, false, false] rfl rfl (any_of HT_.out (by kernel_rfl)) (fun _ _ _ h => h) (Or.inl ⟨by rfl, ?_⟩) ?_ ?_
          rotate_left
          · intro w'
            go_simp
            with_reducible rfl
          rotate_left
          · simp only [Act.put, List.setIfInBounds_toArray, List.set_cons_zero, List.set_cons_succ, i64_w, i32_w]
            rfl
          refine pure_ (i := 16) (N := some 35) (v := ?_) (a' := ?_) #[true, true, true, true, true, true, true, true, true, true, true, true, true, true, true, true, true, false] rfl rfl (any_of HT_.out (by kernel_rfl)) (fun _ _ _ h => h) (Or.inl ⟨by rfl, ?_⟩) ?_ ?_
          rotate_left
          · intro w'
            go_simp
            with_reducible rfl
          rotate_left
          · simp only [Act.put, List.setIfInBounds_toArray, List.set_cons_zero, List.set_cons_succ, i64_w, i32_w]
            rfl
          refine pure_ (i := 17) (N := some 36) (v := ?_) (a' := ?_) #[true, true, true, true, true, true, true, true, true, true, true, true, true, true, true, true, true, true] rfl rfl (any_of HT_.out (by kernel_rfl)) (fun _ _ _ h => h) (Or.inl ⟨by rfl, ?_⟩) ?_ ?_
          rotate_left
          · intro w'
            go_simp
            with_reducible rfl
          rotate_left
          · simp only [Act.put, List.setIfInBounds_toArray, List.set_cons_zero, List.set_cons_succ, i64_w, i32_w]
            rfl
          refine done_ (done_of HT_.out (by kernel_rfl)) ?_
          try go_wp2
          go_meet
          case rel => exact ⟨_, ((t593 != 50)), (by first | rfl | (simp; done) | (simp [*]; done)), H', ⟨by first | omega | exact Nat.le_refl _⟩, ⟨by (with_reducible repeat (first | apply Kd.R_alloc | apply Kd.R_drewN | apply Kd.R_drew)); exact HO588.out⟩, ⟨by (with_reducible repeat (first | apply Kd.R_alloc | apply Kd.R_drewN | apply Kd.R_drew)); exact Kd.R_mono HO592.out (fun _ hk => trivial)⟩, ⟨by (with_reducible repeat (first | refine blk_drewN ?_ _ | refine blk_drew ?_ | refine blk_alloc ?_ _)); exact BK583.out⟩, ⟨by (with_reducible repeat (first | refine blk_drewN ?_ _ | refine blk_drew ?_ | refine blk_alloc ?_ _)); exact BK589.out⟩, ⟨by (with_reducible repeat (first | refine blk_drewN ?_ _ | refine blk_drew ?_ | refine blk_alloc ?_ _)); exact BK594.out⟩, ⟨by repeat (first | (with_reducible first | exact HB.out | apply below_alloc | apply pw_below_drewN | apply below_drew1 | refine below_set ?_ GE583.out | refine below_set ?_ GE589.out | refine below_set ?_ GE594.out) | exact HB.out)⟩⟩
    case rest =>
      clear HC6
      try clear c1
      try clear c2
      try clear p2
      try clear c3
      try clear c7
      try clear c10
      try clear c11
      try clear c12
      try clear c15
      try clear c18
      try clear c19
      try clear c22
      try clear c22b0
      try clear c22b1
      try clear c22b2
      try clear c23
      try clear c23b0
      try clear c23b1
      try clear hcz13_0
      try clear hcz13_1
      try clear hcz20_0
      try clear hcz20_1
      try clear hcz9_0
      try clear hcz9_1
      try clear hcz9_2
      try clear hfz13_0
      try clear hfz13_1
      try clear hfz20_0
      try clear hfz20_1
      try clear hfz9_0
      try clear hfz9_1
      try clear hfz9_2
      obtain ⟨kq, x36_5, rfl, HA, HJ5, HO_590001, HO_595000, BK583, BK589, BK594, HB⟩ := hcut
      cases kq with
      | zero => exact absurd HA.out (by simp [wireloomlaw05_DigraphDepths.j0])
      | succ kj5 =>
        have H := HA.out
        clear HA
        simp only [wireloomlaw05_DigraphDepths.j0] at H
        by_cases c30 : x36_5 = true
        · subst c30
          have H1 : (none) = some r := by rw [if_pos rfl] at H; exact H
          clear H
          have H := H1
          clear H1
          exact absurd H (by simp)
        · replace c30 := Bool.eq_false_iff.mpr c30
          subst c30
          have H1 : (if t593 = 0 then (if (t590.length : Int) = t585 then (wireloomlaw05_DigraphDepths.l0 kj5 true (([] : List Int)) 0 t585 t586 t590 t593) else (none)) else (some true)) = some r := by rw [if_neg (show ¬ (false = true) by decide)] at H; exact H
          clear H
          have H := H1
          clear H1
          by_cases c31 : t593 = 0
          · rw [if_pos c31] at H
            have c31b0 : (t593 == 0) = true := beq_iff_eq.mpr c31
            have c31b1 : (t593 != 0) = false := bne_eq_false_iff_eq.mpr c31
            (try (have c31x : (t598 == 0) = true := by simpa [c31b0] using c22b0))
            clear c31
            by_cases c32 : (t590.length : Int) = t585
            · rw [if_pos c32] at H
              have c32b0 : ((t590.length : Int) == t585) = true := beq_iff_eq.mpr c32
              have c32b1 : ((t590.length : Int) != t585) = false := bne_eq_false_iff_eq.mpr c32
              clear c32
              obtain ⟨y599, hy599⟩ : ∃ y_ : List Int, y_ = (([] : List Int)) := ⟨_, rfl⟩
              replace H : (wireloomlaw05_DigraphDepths.l0 kj5 true y599 0 t585 t586 t590 t593) = some r := by first | (rw [hy599]; with_reducible exact H) | (have H2_ := (Option.bind_some _ _).symm.trans H; rw [hy599]; with_reducible exact H2_) | (have H2_ := (Option.bind_some _ _).symm.trans H; with_reducible exact H2_) | with_reducible exact H | (rw [hy599]; exact H) | exact H
              have Ny599 := Aside0.mk hy599
              clear hy599
              have H' := Aside0.mk H
              clear H
              have hnb33 := NB594_583.out
              have hnc33 := NB583_594.out
              have hnb34 := NB594_589.out
              have hnc34 := NB589_594.out
              have hcz35_0 : wc.cell? ⟨gb594, 0, none⟩ = some (.slice Ao17 t590.length co17) := (blk_cell BK594.out 0).trans rfl
              have hcz35_1 : wc.cell? ⟨gb594, 1, none⟩ = some (.int .i64 t593) := (blk_cell BK594.out 1).trans rfl
              have hfz35_0 := blk_frozen BK594.out 0
              have hfz35_1 := blk_frozen BK594.out 1
              have hnb36 := NB589_583.out
              have hnc36 := NB583_589.out
              have hcz37_0 : wc.cell? ⟨gb589, 0, none⟩ = some (.int .i64 t585) := (blk_cell BK589.out 0).trans rfl
              have hcz37_1 : wc.cell? ⟨gb589, 1, none⟩ = some (.slice Ao14 t586.length co14) := (blk_cell BK589.out 1).trans rfl
              have hfz37_0 := blk_frozen BK589.out 0
              have hfz37_1 := blk_frozen BK589.out 1
              go_wp2_with (first | ((with_reducible refine gate_dst (N := 47) rfl ?_); refine Kd.R_lit (Kd.int .i64) _ 3 ?hg (N := 47) ?hd (xs := ([] : List Int)) (inner := []) (ok := fun _ => True) (okp := fun _ => True) ?hr ?hp (fun _ hk => hk) trivial (Below.refl _ _) (Nat.le_refl _) (by simp) ?_; (case hd => rfl); (case hg => rfl); (case hr => first | (go_simp; done) | (go_simp; rfl)); (case hp => exact (Reps.none _ _)); intro v600 w38 ho39 hb hg_ hnew_; clear hg_ hnew_; (first | rw [← Ny599.out] at ho39 | (simp only [Int.reduceToNat] at ho39; rw [← Ny599.out] at ho39)); have n0_ := Aside0.mk (Kd.R_below (by (with_reducible repeat (first | apply Kd.R_alloc | apply Kd.R_drewN | apply Kd.R_drew)); exact HO_590001.out) hb); have n1_ := Aside0.mk (Kd.R_elder' (by (with_reducible repeat (first | apply Kd.R_alloc | apply Kd.R_drewN | apply Kd.R_drew)); exact HO_595000.out) (Kd.R_base ho39) hb); have n2_ := Aside0.mk (Kd.R_lower (Kd.R_new' ho39 (Kd.R_lt (by (with_reducible repeat (first | apply Kd.R_alloc | apply Kd.R_drewN | apply Kd.R_drew)); exact HO_595000.out))) (below_size (by repeat (first | (with_reducible first | exact HB.out | apply below_alloc | apply pw_below_drewN | apply below_drew1 | refine below_set ?_ GE583.out | refine below_set ?_ GE589.out | refine below_set ?_ GE594.out) | exact HB.out)))); have n3_ := Aside0.mk (blk_below (g := gb583) (o := .cells #[.int .u8 a0_0, .int .u8 a0_1, .slice A0_2 l0_2.length c0_2] 24 (0, 0)) (by (with_reducible repeat (first | refine blk_drewN ?_ _ | refine blk_drew ?_ | refine blk_alloc ?_ _)); exact BK583.out) hb); have n4_ := Aside0.mk (blk_below (g := gb589) (o := .cells #[.int .i64 t585, .slice Ao14 t586.length co14] 31 (0, 0)) (by (with_reducible repeat (first | refine blk_drewN ?_ _ | refine blk_drew ?_ | refine blk_alloc ?_ _)); exact BK589.out) hb); have n5_ := Aside0.mk (blk_below (g := gb594) (o := .cells #[.slice Ao17 t590.length co17, .int .i64 t593] 37 (0, 0)) (by (with_reducible repeat (first | refine blk_drewN ?_ _ | refine blk_drew ?_ | refine blk_alloc ?_ _)); exact BK594.out) hb); have n6_ := Aside0.mk (below_step (by repeat (first | (with_reducible first | exact HB.out | apply below_alloc | apply pw_below_drewN | apply below_drew1 | refine below_set ?_ GE583.out | refine below_set ?_ GE589.out | refine below_set ?_ GE594.out) | exact HB.out)) hb); clear HO_590001; clear HO_595000; clear BK583; clear BK589; clear BK594; clear HB; have HO_590001 := n0_; have HO_595000 := n1_; have HO601 := n2_; have BK583 := n3_; have BK589 := n4_; have BK594 := n5_; have HB := n6_; clear n0_ n1_ n2_ n3_ n4_ n5_ n6_; clear hb ho39))
              go_loopg [6, 7] kj5 (fun kq v6 v7 w' => ∃ (x6_2 : List Int) (x7_2 : Int), v7 = .int .i64 x7_2 ∧ Aside0 (wireloomlaw05_DigraphDepths.l0 kq true x6_2 x7_2 t585 t586 t590 t593 = some r) ∧ Aside0 (kq ≤ kj5) ∧ Aside0 (Kd.R (Kd.int .i64) 3 w' w.heap.size (fun k_ => some k_ ≠ ((.slice Ao17 t590.length co17) : Value).ownBlock) v6 x6_2) ∧ Aside0 (Kd.R k55 55 w' w.heap.size (fun _ => True) (.slice Ao14 t586.length co14) t586) ∧ Aside0 (Kd.R (Kd.int .i64) 3 w' w.heap.size (fun k_ => some k_ ≠ (v6 : Value).ownBlock) (.slice Ao17 t590.length co17) t590) ∧ Aside0 (w'.heap[gb583]? = some (.cells #[.int .u8 a0_0, .int .u8 a0_1, (.slice A0_2 l0_2.length c0_2)] 24 (0, 0))) ∧ Aside0 (w'.heap[gb589]? = some (.cells #[.int .i64 t585, (.slice Ao14 t586.length co14)] 31 (0, 0))) ∧ Aside0 (w'.heap[gb594]? = some (.cells #[(.slice Ao17 t590.length co17), .int .i64 t593] 37 (0, 0))) ∧ Aside0 (Below w.heap.size w w'))
              case atStart => exact ⟨(y599), (0), (by first | rfl | (simp; done) | (simp [*]; done)), H', ⟨Nat.le_refl _⟩, ⟨by (with_reducible repeat (first | apply Kd.R_alloc | apply Kd.R_drewN | apply Kd.R_drew)); exact Kd.R_mono HO601.out (fun _ hk => hk.2)⟩, ⟨by (with_reducible repeat (first | apply Kd.R_alloc | apply Kd.R_drewN | apply Kd.R_drew)); exact HO_590001.out⟩, ⟨by (with_reducible repeat (first | apply Kd.R_alloc | apply Kd.R_drewN | apply Kd.R_drew)); exact Kd.R_mono HO_595000.out (fun _ hk => hk.2)⟩, ⟨by (with_reducible repeat (first | refine blk_drewN ?_ _ | refine blk_drew ?_ | refine blk_alloc ?_ _)); exact BK583.out⟩, ⟨by (with_reducible repeat (first | refine blk_drewN ?_ _ | refine blk_drew ?_ | refine blk_alloc ?_ _)); exact BK589.out⟩, ⟨by (with_reducible repeat (first | refine blk_drewN ?_ _ | refine blk_drew ?_ | refine blk_alloc ?_ _)); exact BK594.out⟩, ⟨by repeat (first | (with_reducible first | exact HB.out | apply below_alloc | apply pw_below_drewN | apply below_drew1 | refine below_set ?_ GE583.out | refine below_set ?_ GE589.out | refine below_set ?_ GE594.out) | exact HB.out)⟩⟩
              case round =>
                clear H'
                try clear c1
                try clear c2
                try clear p2
                try clear c3
                try clear c7
                try clear c10
                try clear c11
                try clear c12
                try clear c15
                try clear c18
                try clear c19
                try clear c22
                try clear c22b0
                try clear c22b1
                try clear c22b2
                try clear c23
                try clear c23b0
                try clear c23b1
                try clear c30
                try clear c31
                try clear c31b0
                try clear c31b1
                try clear c32
                try clear c32b0
                try clear c32b1
                try clear c33
                try clear c34
                try clear c36
                try clear hcz13_0
                try clear hcz13_1
                try clear hcz20_0
                try clear hcz20_1
                try clear hcz35_0
                try clear hcz35_1
                try clear hcz37_0
                try clear hcz37_1
                try clear hcz9_0
                try clear hcz9_1
                try clear hcz9_2
                try clear hfz13_0
                try clear hfz13_1
                try clear hfz20_0
                try clear hfz20_1
                try clear hfz35_0
                try clear hfz35_1
                try clear hfz37_0
                try clear hfz37_1
                try clear hfz9_0
                try clear hfz9_1
                try clear hfz9_2
                try clear p2
                obtain ⟨x6_2, x7_2, rfl, HA, HK2, HO_6, HO_590001, HO_595000, BK583, BK589, BK594, HB⟩ := hrel
                cases gk with
                | zero => exact absurd HA.out (by simp [wireloomlaw05_DigraphDepths.l0])
                | succ k2 =>
                  have H := HA.out
                  clear HA
                  simp only [wireloomlaw05_DigraphDepths.l0] at H
                  by_cases c40 : x7_2 < t585
                  · rw [if_pos c40] at H
                    have c40b0 : decide (x7_2 < t585) = true := decide_eq_true c40
                    clear c40
                    have H' := Aside0.mk H
                    clear H
                    have hnb41 := NB589_583.out
                    have hnc41 := NB583_589.out
                    have hnb42 := NB589_594.out
                    have hnc42 := NB594_589.out
                    have hcz43_0 : wr.cell? ⟨gb589, 0, none⟩ = some (.int .i64 t585) := (blk_cell BK589.out 0).trans rfl
                    have hcz43_1 : wr.cell? ⟨gb589, 1, none⟩ = some (.slice Ao14 t586.length co14) := (blk_cell BK589.out 1).trans rfl
                    have hfz43_0 := blk_frozen BK589.out 0
                    have hfz43_1 := blk_frozen BK589.out 1
                    go_wp2
                    go_loopg [6, 8] k2 (fun kq v6 v8 w' => ∃ (x6_3 : List Int) (x8_3 : Int), v8 = .int .i64 x8_3 ∧ Aside0 (wireloomlaw05_DigraphDepths.l1 kq true x6_3 x7_2 x8_3 t585 t586 t590 t593 = some r) ∧ Aside0 (kq ≤ k2) ∧ Aside0 (Kd.R (Kd.int .i64) 3 w' w.heap.size (fun k_ => some k_ ≠ ((.slice Ao17 t590.length co17) : Value).ownBlock) v6 x6_3) ∧ Aside0 (Kd.R k55 55 w' w.heap.size (fun _ => True) (.slice Ao14 t586.length co14) t586) ∧ Aside0 (Kd.R (Kd.int .i64) 3 w' w.heap.size (fun k_ => some k_ ≠ (v6 : Value).ownBlock) (.slice Ao17 t590.length co17) t590) ∧ Aside0 (w'.heap[gb583]? = some (.cells #[.int .u8 a0_0, .int .u8 a0_1, (.slice A0_2 l0_2.length c0_2)] 24 (0, 0))) ∧ Aside0 (w'.heap[gb589]? = some (.cells #[.int .i64 t585, (.slice Ao14 t586.length co14)] 31 (0, 0))) ∧ Aside0 (w'.heap[gb594]? = some (.cells #[(.slice Ao17 t590.length co17), .int .i64 t593] 37 (0, 0))) ∧ Aside0 (Below w.heap.size w w'))
                    case atStart => exact ⟨(x6_2), (0), (by first | rfl | (simp; done) | (simp [*]; done)), H', ⟨Nat.le_refl _⟩, ⟨by (with_reducible repeat (first | apply Kd.R_alloc | apply Kd.R_drewN | apply Kd.R_drew)); exact HO_6.out⟩, ⟨by (with_reducible repeat (first | apply Kd.R_alloc | apply Kd.R_drewN | apply Kd.R_drew)); exact HO_590001.out⟩, ⟨by (with_reducible repeat (first | apply Kd.R_alloc | apply Kd.R_drewN | apply Kd.R_drew)); exact HO_595000.out⟩, ⟨by (with_reducible repeat (first | refine blk_drewN ?_ _ | refine blk_drew ?_ | refine blk_alloc ?_ _)); exact BK583.out⟩, ⟨by (with_reducible repeat (first | refine blk_drewN ?_ _ | refine blk_drew ?_ | refine blk_alloc ?_ _)); exact BK589.out⟩, ⟨by (with_reducible repeat (first | refine blk_drewN ?_ _ | refine blk_drew ?_ | refine blk_alloc ?_ _)); exact BK594.out⟩, ⟨by repeat (first | (with_reducible first | exact HB.out | apply below_alloc | apply pw_below_drewN | apply below_drew1 | refine below_set ?_ GE583.out | refine below_set ?_ GE589.out | refine below_set ?_ GE594.out) | exact HB.out)⟩⟩
                    case round =>
                      clear H'
                      try clear c1
                      try clear c2
                      try clear p2
                      try clear c3
                      try clear c4
                      try clear c7
                      try clear c10
                      try clear c11
                      try clear c12
                      try clear c15
                      try clear c18
                      try clear c19
                      try clear c22
                      try clear c22b0
                      try clear c22b1
                      try clear c22b2
                      try clear c23
                      try clear c23b0
                      try clear c23b1
                      try clear c30
                      try clear c31
                      try clear c31b0
                      try clear c31b1
                      try clear c32
                      try clear c32b0
                      try clear c32b1
                      try clear c33
                      try clear c34
                      try clear c36
                      try clear c40
                      try clear c40b0
                      try clear c41
                      try clear c42
                      try clear hcz13_0
                      try clear hcz13_1
                      try clear hcz20_0
                      try clear hcz20_1
                      try clear hcz35_0
                      try clear hcz35_1
                      try clear hcz37_0
                      try clear hcz37_1
                      try clear hcz43_0
                      try clear hcz43_1
                      try clear hcz9_0
                      try clear hcz9_1
                      try clear hcz9_2
                      try clear hfz13_0
                      try clear hfz13_1
                      try clear hfz20_0
                      try clear hfz20_1
                      try clear hfz35_0
                      try clear hfz35_1
                      try clear hfz37_0
                      try clear hfz37_1
                      try clear hfz43_0
                      try clear hfz43_1
                      try clear hfz9_0
                      try clear hfz9_1
                      try clear hfz9_2
                      try clear p2
                      obtain ⟨x6_3, x8_3, rfl, HA, HK3, HO_6, HO_590001, HO_595000, BK583, BK589, BK594, HB⟩ := hrel
                      cases gk with
                      | zero => exact absurd HA.out (by simp [wireloomlaw05_DigraphDepths.l1])
                      | succ k3 =>
                        have H := HA.out
                        clear HA
                        simp only [wireloomlaw05_DigraphDepths.l1] at H
                        by_cases c44 : x8_3 < t585
                        · rw [if_pos c44] at H
                          have c44b0 : decide (x8_3 < t585) = true := decide_eq_true c44
                          clear c44
                          by_cases c45 : 0 ≤ x8_3
                          · rw [if_pos c45] at H
                            have c45b0 : decide (0 ≤ x8_3) = true := decide_eq_true c45
                            clear c45
                            by_cases c46 : x8_3 < (t590.length : Int)
                            · rw [if_pos c46] at H
                              have c46b0 : decide (x8_3 < (t590.length : Int)) = true := decide_eq_true c46
                              clear c46
                              by_cases c47 : (rd t590 x8_3) = x7_2
                              · rw [if_pos c47] at H
                                have c47b0 : ((rd t590 x8_3) == x7_2) = true := beq_iff_eq.mpr c47
                                have c47b1 : ((rd t590 x8_3) != x7_2) = false := bne_eq_false_iff_eq.mpr c47
                                clear c47
                                by_cases c48 : x6_3.length < 17592186044416
                                · rw [if_pos c48] at H
                                  have LMc48 := Aside0.mk c48
                                  clear c48
                                  obtain ⟨y603, hy603⟩ : ∃ y_ : List Int, y_ = (x6_3 ++ [x8_3]) := ⟨_, rfl⟩
                                  replace H : (wireloomlaw05_DigraphDepths.l1 k3 true y603 x7_2 (wrap64 (x8_3 + 1)) t585 t586 t590 t593) = some r := by first | (rw [hy603]; with_reducible exact H) | (have H2_ := (Option.bind_some _ _).symm.trans H; rw [hy603]; with_reducible exact H2_) | (have H2_ := (Option.bind_some _ _).symm.trans H; with_reducible exact H2_) | with_reducible exact H | (rw [hy603]; exact H) | exact H
                                  have Ny603 := Aside0.mk hy603
                                  clear hy603
                                  have H' := Aside0.mk H
                                  clear H
                                  have hnb49 := NB589_583.out
                                  have hnc49 := NB583_589.out
                                  have hnb50 := NB589_594.out
                                  have hnc50 := NB594_589.out
                                  have hcz51_0 : wr.cell? ⟨gb589, 0, none⟩ = some (.int .i64 t585) := (blk_cell BK589.out 0).trans rfl
                                  have hcz51_1 : wr.cell? ⟨gb589, 1, none⟩ = some (.slice Ao14 t586.length co14) := (blk_cell BK589.out 1).trans rfl
                                  have hfz51_0 := blk_frozen BK589.out 0
                                  have hfz51_1 := blk_frozen BK589.out 1
                                  have hnb52 := NB594_583.out
                                  have hnc52 := NB583_594.out
                                  have hcz53_0 : wr.cell? ⟨gb594, 0, none⟩ = some (.slice Ao17 t590.length co17) := (blk_cell BK594.out 0).trans rfl
                                  have hcz53_1 : wr.cell? ⟨gb594, 1, none⟩ = some (.int .i64 t593) := (blk_cell BK594.out 1).trans rfl
                                  have hfz53_0 := blk_frozen BK594.out 0
                                  have hfz53_1 := blk_frozen BK594.out 1
                                  have p602 : 0 ≤ (x8_3 : Int) := of_decide_eq_true (by first | (with_reducible assumption) | assumption)
                                  have q602 : x8_3 < (t590.length : Int) := of_decide_eq_true (by first | (with_reducible assumption) | assumption)
                                  obtain ⟨ad602, e602, hx602_0⟩ := Kd.at_int (Kd.R_reads' HO_595000.out).2.2 x8_3 p602 q602
                                  cases e602
                                  replace p602 := eq_true p602
                                  replace q602 := eq_true q602
                                  go_wp2_with (first | ((with_reducible refine gate_builtin (b := .append) (xs := #[.tmp 67, .tmp 69]) rfl ?_); at_builtin; refine Kd.R_append (Kd.int .i64) (w0 := w) w.heap.size rfl (.tmp 67) (.tmp 69) 26 3 (.int .i64 0) 8 rfl Try.underlying26 info3 rfl (by decide) (by omega) u6 x6_3 x8_3 [.int .i64 x8_3] (fun k_ => some k_ ≠ (.slice (some ad602) t590.length co17 : Value).ownBlock) (fun _ => False) rfl rfl ?aP (fun _ hk => hk.elim) ?aF ?aO ?aB ?aS ?aL ?_; (case aP => exact rfl); (case aB => exact (by repeat (first | (with_reducible first | exact HB.out | apply below_alloc | apply pw_below_drewN | apply below_drew1 | refine below_set ?_ GE583.out | refine below_set ?_ GE589.out | refine below_set ?_ GE594.out) | exact HB.out))); (case aF => exact (fun k_ hk => Kd.fresh' (Kd.R_lt (by (with_reducible repeat (first | apply Kd.R_alloc | apply Kd.R_drewN | apply Kd.R_drew)); exact HO_595000.out)) k_ hk)); (case aO => exact (by (with_reducible repeat (first | apply Kd.R_alloc | apply Kd.R_drewN | apply Kd.R_drew)); exact HO_6.out)); (case aS => exact (below_size (by repeat (first | (with_reducible first | exact HB.out | apply below_alloc | apply pw_below_drewN | apply below_drew1 | refine below_set ?_ GE583.out | refine below_set ?_ GE589.out | refine below_set ?_ GE594.out) | exact HB.out)))); (case aL => have := LMc48.out; omega); intro v604 w54 ho hb hg hat; rw [← Ny603.out] at ho; have n0_ := Aside0.mk (Kd.R_over' (by (with_reducible repeat (first | apply Kd.R_alloc | apply Kd.R_drewN | apply Kd.R_drew)); exact HO_590001.out) (Kd.R_typed (by (with_reducible repeat (first | apply Kd.R_alloc | apply Kd.R_drewN | apply Kd.R_drew)); exact HO_6.out)) (by decide) hg); have n1_ := Aside0.mk (Kd.R_after (ok := (fun _ => True)) (by (with_reducible repeat (first | apply Kd.R_alloc | apply Kd.R_drewN | apply Kd.R_drew)); exact Kd.R_mono HO_595000.out (fun _ hk => ⟨trivial, hk⟩)) hg hat); have n2_ := Aside0.mk (blk_grown (g := gb583) (o := .cells #[.int .u8 a0_0, .int .u8 a0_1, .slice A0_2 l0_2.length c0_2] 24 (0, 0)) (by (with_reducible repeat (first | refine blk_drewN ?_ _ | refine blk_drew ?_ | refine blk_alloc ?_ _)); exact BK583.out) hg (Kd.R_ne HO_6.out BK583.out (by decide))); have n3_ := Aside0.mk (blk_grown (g := gb589) (o := .cells #[.int .i64 t585, .slice Ao14 t586.length co14] 31 (0, 0)) (by (with_reducible repeat (first | refine blk_drewN ?_ _ | refine blk_drew ?_ | refine blk_alloc ?_ _)); exact BK589.out) hg (Kd.R_ne HO_6.out BK589.out (by decide))); have n4_ := Aside0.mk (blk_grown (g := gb594) (o := .cells #[.slice (some ad602) t590.length co17, .int .i64 t593] 37 (0, 0)) (by (with_reducible repeat (first | refine blk_drewN ?_ _ | refine blk_drew ?_ | refine blk_alloc ?_ _)); exact BK594.out) hg (Kd.R_ne HO_6.out BK594.out (by decide))); have n5_ := Aside0.mk (hb); have n6_ := Aside0.mk (ho); clear HO_590001; clear HO_595000; clear BK583; clear BK589; clear BK594; clear HB; clear HO_6; have HO_590001 := n0_; have HO_595000 := n1_; have BK583 := n2_; have BK589 := n3_; have BK594 := n4_; have HB := n5_; have HO605 := n6_; clear n0_ n1_ n2_ n3_ n4_ n5_ n6_; clear ho hb hg hat))
                                  go_roundg k3
                                  case measure => have := HJ5.out; have := HK2.out; have := HK3.out; omega
                                  case rel => exact ⟨(y603), (wrap64 (x8_3 + 1)), (by first | rfl | (simp; done) | (simp [*]; done)), H', ⟨by have := HJ5.out; have := HK2.out; have := HK3.out; omega⟩, ⟨by (with_reducible repeat (first | apply Kd.R_alloc | apply Kd.R_drewN | apply Kd.R_drew)); exact HO605.out⟩, ⟨by (with_reducible repeat (first | apply Kd.R_alloc | apply Kd.R_drewN | apply Kd.R_drew)); exact HO_590001.out⟩, ⟨by (with_reducible repeat (first | apply Kd.R_alloc | apply Kd.R_drewN | apply Kd.R_drew)); exact Kd.R_mono HO_595000.out (fun _ hk => hk.2)⟩, ⟨by (with_reducible repeat (first | refine blk_drewN ?_ _ | refine blk_drew ?_ | refine blk_alloc ?_ _)); exact BK583.out⟩, ⟨by (with_reducible repeat (first | refine blk_drewN ?_ _ | refine blk_drew ?_ | refine blk_alloc ?_ _)); exact BK589.out⟩, ⟨by (with_reducible repeat (first | refine blk_drewN ?_ _ | refine blk_drew ?_ | refine blk_alloc ?_ _)); exact BK594.out⟩, ⟨by repeat (first | (with_reducible first | exact HB.out | apply below_alloc | apply pw_below_drewN | apply below_drew1 | refine below_set ?_ GE583.out | refine below_set ?_ GE589.out | refine below_set ?_ GE594.out) | exact HB.out)⟩⟩
                                · rw [if_neg c48] at H
                                  exact absurd H (by simp)
                              · rw [if_neg c47] at H
                                have c47b0 : ((rd t590 x8_3) == x7_2) = false := beq_eq_false_iff_ne.mpr c47
                                have c47b1 : ((rd t590 x8_3) != x7_2) = true := bne_iff_ne.mpr c47
                                have H' := Aside0.mk H
                                clear H
                                have hnb55 := NB589_583.out
                                have hnc55 := NB583_589.out
                                have hnb56 := NB589_594.out
                                have hnc56 := NB594_589.out
                                have hcz57_0 : wr.cell? ⟨gb589, 0, none⟩ = some (.int .i64 t585) := (blk_cell BK589.out 0).trans rfl
                                have hcz57_1 : wr.cell? ⟨gb589, 1, none⟩ = some (.slice Ao14 t586.length co14) := (blk_cell BK589.out 1).trans rfl
                                have hfz57_0 := blk_frozen BK589.out 0
                                have hfz57_1 := blk_frozen BK589.out 1
                                have hnb58 := NB594_583.out
                                have hnc58 := NB583_594.out
                                have hcz59_0 : wr.cell? ⟨gb594, 0, none⟩ = some (.slice Ao17 t590.length co17) := (blk_cell BK594.out 0).trans rfl
                                have hcz59_1 : wr.cell? ⟨gb594, 1, none⟩ = some (.int .i64 t593) := (blk_cell BK594.out 1).trans rfl
                                have hfz59_0 := blk_frozen BK594.out 0
                                have hfz59_1 := blk_frozen BK594.out 1
                                have p602 : 0 ≤ (x8_3 : Int) := of_decide_eq_true (by first | (with_reducible assumption) | assumption)
                                have q602 : x8_3 < (t590.length : Int) := of_decide_eq_true (by first | (with_reducible assumption) | assumption)
                                obtain ⟨ad602, e602, hx602_0⟩ := Kd.at_int (Kd.R_reads' HO_595000.out).2.2 x8_3 p602 q602
                                cases e602
                                replace p602 := eq_true p602
                                replace q602 := eq_true q602
                                go_wp2
                                go_roundg k3
                                case measure => have := HJ5.out; have := HK2.out; have := HK3.out; omega
                                case rel => exact ⟨(x6_3), (wrap64 (x8_3 + 1)), (by first | rfl | (simp; done) | (simp [*]; done)), H', ⟨by have := HJ5.out; have := HK2.out; have := HK3.out; omega⟩, ⟨by (with_reducible repeat (first | apply Kd.R_alloc | apply Kd.R_drewN | apply Kd.R_drew)); exact HO_6.out⟩, ⟨by (with_reducible repeat (first | apply Kd.R_alloc | apply Kd.R_drewN | apply Kd.R_drew)); exact HO_590001.out⟩, ⟨by (with_reducible repeat (first | apply Kd.R_alloc | apply Kd.R_drewN | apply Kd.R_drew)); exact HO_595000.out⟩, ⟨by (with_reducible repeat (first | refine blk_drewN ?_ _ | refine blk_drew ?_ | refine blk_alloc ?_ _)); exact BK583.out⟩, ⟨by (with_reducible repeat (first | refine blk_drewN ?_ _ | refine blk_drew ?_ | refine blk_alloc ?_ _)); exact BK589.out⟩, ⟨by (with_reducible repeat (first | refine blk_drewN ?_ _ | refine blk_drew ?_ | refine blk_alloc ?_ _)); exact BK594.out⟩, ⟨by repeat (first | (with_reducible first | exact HB.out | apply below_alloc | apply pw_below_drewN | apply below_drew1 | refine below_set ?_ GE583.out | refine below_set ?_ GE589.out | refine below_set ?_ GE594.out) | exact HB.out)⟩⟩
                            · rw [if_neg c46] at H
                              exact absurd H (by simp)
                          · rw [if_neg c45] at H
                            exact absurd H (by simp)
                        · rw [if_neg c44] at H
                          have c44b0 : decide (x8_3 < t585) = false := decide_eq_false c44
                          clear c44
                          have H' := Aside0.mk H
                          clear H
                          have hnb60 := NB589_583.out
                          have hnc60 := NB583_589.out
                          have hnb61 := NB589_594.out
                          have hnc61 := NB594_589.out
                          have hcz62_0 : wr.cell? ⟨gb589, 0, none⟩ = some (.int .i64 t585) := (blk_cell BK589.out 0).trans rfl
                          have hcz62_1 : wr.cell? ⟨gb589, 1, none⟩ = some (.slice Ao14 t586.length co14) := (blk_cell BK589.out 1).trans rfl
                          have hfz62_0 := blk_frozen BK589.out 0
                          have hfz62_1 := blk_frozen BK589.out 1
                          go_wp2
                          go_roundg k3
                          case measure => have := HJ5.out; have := HK2.out; have := HK3.out; omega
                          case rel => exact ⟨(x6_3), (wrap64 (x7_2 + 1)), (by first | rfl | (simp; done) | (simp [*]; done)), H', ⟨by have := HJ5.out; have := HK2.out; have := HK3.out; omega⟩, ⟨by (with_reducible repeat (first | apply Kd.R_alloc | apply Kd.R_drewN | apply Kd.R_drew)); exact HO_6.out⟩, ⟨by (with_reducible repeat (first | apply Kd.R_alloc | apply Kd.R_drewN | apply Kd.R_drew)); exact HO_590001.out⟩, ⟨by (with_reducible repeat (first | apply Kd.R_alloc | apply Kd.R_drewN | apply Kd.R_drew)); exact HO_595000.out⟩, ⟨by (with_reducible repeat (first | refine blk_drewN ?_ _ | refine blk_drew ?_ | refine blk_alloc ?_ _)); exact BK583.out⟩, ⟨by (with_reducible repeat (first | refine blk_drewN ?_ _ | refine blk_drew ?_ | refine blk_alloc ?_ _)); exact BK589.out⟩, ⟨by (with_reducible repeat (first | refine blk_drewN ?_ _ | refine blk_drew ?_ | refine blk_alloc ?_ _)); exact BK594.out⟩, ⟨by repeat (first | (with_reducible first | exact HB.out | apply below_alloc | apply pw_below_drewN | apply below_drew1 | refine below_set ?_ GE583.out | refine below_set ?_ GE589.out | refine below_set ?_ GE594.out) | exact HB.out)⟩⟩
                  · rw [if_neg c40] at H
                    have c40b0 : decide (x7_2 < t585) = false := decide_eq_false c40
                    clear c40
                    have H' := Aside0.mk H
                    clear H
                    have hnb63 := NB589_583.out
                    have hnc63 := NB583_589.out
                    have hnb64 := NB589_594.out
                    have hnc64 := NB594_589.out
                    have hcz65_0 : wr.cell? ⟨gb589, 0, none⟩ = some (.int .i64 t585) := (blk_cell BK589.out 0).trans rfl
                    have hcz65_1 : wr.cell? ⟨gb589, 1, none⟩ = some (.slice Ao14 t586.length co14) := (blk_cell BK589.out 1).trans rfl
                    have hfz65_0 := blk_frozen BK589.out 0
                    have hfz65_1 := blk_frozen BK589.out 1
                    go_wp2
                    go_loopg [9] k2 (fun kq v9 w' => ∃ (x9_3 : Int), v9 = .int .i64 x9_3 ∧ Aside0 (wireloomlaw05_DigraphDepths.l2 kq true x6_2 x9_3 t585 t586 t590 t593 = some r) ∧ Aside0 (kq ≤ k2) ∧ Aside0 (Kd.R (Kd.int .i64) 3 w' w.heap.size (fun k_ => some k_ ≠ ((.slice Ao17 t590.length co17) : Value).ownBlock) u6 x6_2) ∧ Aside0 (Kd.R k55 55 w' w.heap.size (fun _ => True) (.slice Ao14 t586.length co14) t586) ∧ Aside0 (Kd.R (Kd.int .i64) 3 w' w.heap.size (fun k_ => some k_ ≠ (u6 : Value).ownBlock) (.slice Ao17 t590.length co17) t590) ∧ Aside0 (w'.heap[gb583]? = some (.cells #[.int .u8 a0_0, .int .u8 a0_1, (.slice A0_2 l0_2.length c0_2)] 24 (0, 0))) ∧ Aside0 (w'.heap[gb589]? = some (.cells #[.int .i64 t585, (.slice Ao14 t586.length co14)] 31 (0, 0))) ∧ Aside0 (w'.heap[gb594]? = some (.cells #[(.slice Ao17 t590.length co17), .int .i64 t593] 37 (0, 0))) ∧ Aside0 (Below w.heap.size w w'))
                    case atStart => exact ⟨(0), (by first | rfl | (simp; done) | (simp [*]; done)), H', ⟨Nat.le_refl _⟩, ⟨by (with_reducible repeat (first | apply Kd.R_alloc | apply Kd.R_drewN | apply Kd.R_drew)); exact HO_6.out⟩, ⟨by (with_reducible repeat (first | apply Kd.R_alloc | apply Kd.R_drewN | apply Kd.R_drew)); exact HO_590001.out⟩, ⟨by (with_reducible repeat (first | apply Kd.R_alloc | apply Kd.R_drewN | apply Kd.R_drew)); exact HO_595000.out⟩, ⟨by (with_reducible repeat (first | refine blk_drewN ?_ _ | refine blk_drew ?_ | refine blk_alloc ?_ _)); exact BK583.out⟩, ⟨by (with_reducible repeat (first | refine blk_drewN ?_ _ | refine blk_drew ?_ | refine blk_alloc ?_ _)); exact BK589.out⟩, ⟨by (with_reducible repeat (first | refine blk_drewN ?_ _ | refine blk_drew ?_ | refine blk_alloc ?_ _)); exact BK594.out⟩, ⟨by repeat (first | (with_reducible first | exact HB.out | apply below_alloc | apply pw_below_drewN | apply below_drew1 | refine below_set ?_ GE583.out | refine below_set ?_ GE589.out | refine below_set ?_ GE594.out) | exact HB.out)⟩⟩
                    case round =>
                      clear H'
                      try clear c1
                      try clear c2
                      try clear p2
                      try clear c3
                      try clear c4
                      try clear c5
                      try clear c6
                      try clear p6
                      try clear q6
                      try clear hx6
                      try clear c7
                      try clear c10
                      try clear c11
                      try clear c12
                      try clear c15
                      try clear c18
                      try clear c19
                      try clear c22
                      try clear c22b0
                      try clear c22b1
                      try clear c22b2
                      try clear c23
                      try clear c23b0
                      try clear c23b1
                      try clear c30
                      try clear c31
                      try clear c31b0
                      try clear c31b1
                      try clear c32
                      try clear c32b0
                      try clear c32b1
                      try clear c33
                      try clear c34
                      try clear c36
                      try clear c40
                      try clear c40b0
                      try clear c41
                      try clear c42
                      try clear c44
                      try clear c44b0
                      try clear c45
                      try clear c45b0
                      try clear c46
                      try clear c46b0
                      try clear c47
                      try clear c47b0
                      try clear c47b1
                      try clear c48
                      try clear c49
                      try clear c50
                      try clear c52
                      try clear c55
                      try clear c56
                      try clear c58
                      try clear c60
                      try clear p60
                      try clear q60
                      try clear hx60
                      try clear c61
                      try clear c63
                      try clear c64
                      try clear p64
                      try clear hcz13_0
                      try clear hcz13_1
                      try clear hcz20_0
                      try clear hcz20_1
                      try clear hcz35_0
                      try clear hcz35_1
                      try clear hcz37_0
                      try clear hcz37_1
                      try clear hcz43_0
                      try clear hcz43_1
                      try clear hcz51_0
                      try clear hcz51_1
                      try clear hcz53_0
                      try clear hcz53_1
                      try clear hcz57_0
                      try clear hcz57_1
                      try clear hcz59_0
                      try clear hcz59_1
                      try clear hcz62_0
                      try clear hcz62_1
                      try clear hcz65_0
                      try clear hcz65_1
                      try clear hcz9_0
                      try clear hcz9_1
                      try clear hcz9_2
                      try clear hfz13_0
                      try clear hfz13_1
                      try clear hfz20_0
                      try clear hfz20_1
                      try clear hfz35_0
                      try clear hfz35_1
                      try clear hfz37_0
                      try clear hfz37_1
                      try clear hfz43_0
                      try clear hfz43_1
                      try clear hfz51_0
                      try clear hfz51_1
                      try clear hfz53_0
                      try clear hfz53_1
                      try clear hfz57_0
                      try clear hfz57_1
                      try clear hfz59_0
                      try clear hfz59_1
                      try clear hfz62_0
                      try clear hfz62_1
                      try clear hfz65_0
                      try clear hfz65_1
                      try clear hfz9_0
                      try clear hfz9_1
                      try clear hfz9_2
                      try clear hx602_0
                      try clear p2
                      try clear p602
                      try clear q602
                      obtain ⟨x9_3, rfl, HA, HK3, HO_6, HO_590001, HO_595000, BK583, BK589, BK594, HB⟩ := hrel
                      cases gk with
                      | zero => exact absurd HA.out (by simp [wireloomlaw05_DigraphDepths.l2])
                      | succ k3 =>
                        have H := HA.out
                        clear HA
                        simp only [wireloomlaw05_DigraphDepths.l2] at H
                        by_cases c66 : x9_3 < t585
                        · rw [if_pos c66] at H
                          have c66b0 : decide (x9_3 < t585) = true := decide_eq_true c66
                          clear c66
                          have H' := Aside0.mk H
                          clear H
                          have hnb67 := NB589_583.out
                          have hnc67 := NB583_589.out
                          have hnb68 := NB589_594.out
                          have hnc68 := NB594_589.out
                          have hcz69_0 : wr.cell? ⟨gb589, 0, none⟩ = some (.int .i64 t585) := (blk_cell BK589.out 0).trans rfl
                          have hcz69_1 : wr.cell? ⟨gb589, 1, none⟩ = some (.slice Ao14 t586.length co14) := (blk_cell BK589.out 1).trans rfl
                          have hfz69_0 := blk_frozen BK589.out 0
                          have hfz69_1 := blk_frozen BK589.out 1
                          go_wp2
                          go_loopg [10, 11] k3 (fun kq v10 v11 w' => ∃ (x10_4 : Int) (x11_4 : Int), v10 = .int .i64 x10_4 ∧ v11 = .int .i64 x11_4 ∧ Aside0 (wireloomlaw05_DigraphDepths.l3 kq true x6_2 x9_3 x10_4 x11_4 t585 t586 t590 t593 = some r) ∧ Aside0 (kq ≤ k3) ∧ Aside0 (Kd.R (Kd.int .i64) 3 w' w.heap.size (fun k_ => some k_ ≠ ((.slice Ao17 t590.length co17) : Value).ownBlock) u6 x6_2) ∧ Aside0 (Kd.R k55 55 w' w.heap.size (fun _ => True) (.slice Ao14 t586.length co14) t586) ∧ Aside0 (Kd.R (Kd.int .i64) 3 w' w.heap.size (fun k_ => some k_ ≠ (u6 : Value).ownBlock) (.slice Ao17 t590.length co17) t590) ∧ Aside0 (w'.heap[gb583]? = some (.cells #[.int .u8 a0_0, .int .u8 a0_1, (.slice A0_2 l0_2.length c0_2)] 24 (0, 0))) ∧ Aside0 (w'.heap[gb589]? = some (.cells #[.int .i64 t585, (.slice Ao14 t586.length co14)] 31 (0, 0))) ∧ Aside0 (w'.heap[gb594]? = some (.cells #[(.slice Ao17 t590.length co17), .int .i64 t593] 37 (0, 0))) ∧ Aside0 (Below w.heap.size w w'))
                          case atStart => exact ⟨(0), (0), (by first | rfl | (simp; done) | (simp [*]; done)), (by first | rfl | (simp; done) | (simp [*]; done)), H', ⟨Nat.le_refl _⟩, ⟨by (with_reducible repeat (first | apply Kd.R_alloc | apply Kd.R_drewN | apply Kd.R_drew)); exact HO_6.out⟩, ⟨by (with_reducible repeat (first | apply Kd.R_alloc | apply Kd.R_drewN | apply Kd.R_drew)); exact HO_590001.out⟩, ⟨by (with_reducible repeat (first | apply Kd.R_alloc | apply Kd.R_drewN | apply Kd.R_drew)); exact HO_595000.out⟩, ⟨by (with_reducible repeat (first | refine blk_drewN ?_ _ | refine blk_drew ?_ | refine blk_alloc ?_ _)); exact BK583.out⟩, ⟨by (with_reducible repeat (first | refine blk_drewN ?_ _ | refine blk_drew ?_ | refine blk_alloc ?_ _)); exact BK589.out⟩, ⟨by (with_reducible repeat (first | refine blk_drewN ?_ _ | refine blk_drew ?_ | refine blk_alloc ?_ _)); exact BK594.out⟩, ⟨by repeat (first | (with_reducible first | exact HB.out | apply below_alloc | apply pw_below_drewN | apply below_drew1 | refine below_set ?_ GE583.out | refine below_set ?_ GE589.out | refine below_set ?_ GE594.out) | exact HB.out)⟩⟩
                          case round =>
                            clear H'
                            try clear c1
                            try clear c2
                            try clear p2
                            try clear c3
                            try clear c4
                            try clear c5
                            try clear c6
                            try clear p6
                            try clear q6
                            try clear hx6
                            try clear c7
                            try clear c10
                            try clear c11
                            try clear c12
                            try clear c15
                            try clear c18
                            try clear c19
                            try clear c22
                            try clear c22b0
                            try clear c22b1
                            try clear c22b2
                            try clear c23
                            try clear c23b0
                            try clear c23b1
                            try clear c30
                            try clear c31
                            try clear c31b0
                            try clear c31b1
                            try clear c32
                            try clear c32b0
                            try clear c32b1
                            try clear c33
                            try clear c34
                            try clear c36
                            try clear c40
                            try clear c40b0
                            try clear c41
                            try clear c42
                            try clear c44
                            try clear c44b0
                            try clear c45
                            try clear c45b0
                            try clear c46
                            try clear c46b0
                            try clear c47
                            try clear c47b0
                            try clear c47b1
                            try clear c48
                            try clear c49
                            try clear c50
                            try clear c52
                            try clear c55
                            try clear c56
                            try clear c58
                            try clear c60
                            try clear p60
                            try clear q60
                            try clear hx60
                            try clear c61
                            try clear c63
                            try clear c64
                            try clear p64
                            try clear c66
                            try clear c66b0
                            try clear c67
                            try clear c68
                            try clear hcz13_0
                            try clear hcz13_1
                            try clear hcz20_0
                            try clear hcz20_1
                            try clear hcz35_0
                            try clear hcz35_1
                            try clear hcz37_0
                            try clear hcz37_1
                            try clear hcz43_0
                            try clear hcz43_1
                            try clear hcz51_0
                            try clear hcz51_1
                            try clear hcz53_0
                            try clear hcz53_1
                            try clear hcz57_0
                            try clear hcz57_1
                            try clear hcz59_0
                            try clear hcz59_1
                            try clear hcz62_0
                            try clear hcz62_1
                            try clear hcz65_0
                            try clear hcz65_1
                            try clear hcz69_0
                            try clear hcz69_1
                            try clear hcz9_0
                            try clear hcz9_1
                            try clear hcz9_2
                            try clear hfz13_0
                            try clear hfz13_1
                            try clear hfz20_0
                            try clear hfz20_1
                            try clear hfz35_0
                            try clear hfz35_1
                            try clear hfz37_0
                            try clear hfz37_1
                            try clear hfz43_0
                            try clear hfz43_1
                            try clear hfz51_0
                            try clear hfz51_1
                            try clear hfz53_0
                            try clear hfz53_1
                            try clear hfz57_0
                            try clear hfz57_1
                            try clear hfz59_0
                            try clear hfz59_1
                            try clear hfz62_0
                            try clear hfz62_1
                            try clear hfz65_0
                            try clear hfz65_1
                            try clear hfz69_0
                            try clear hfz69_1
                            try clear hfz9_0
                            try clear hfz9_1
                            try clear hfz9_2
                            try clear hx602_0
                            try clear p2
                            try clear p6
                            try clear p60
                            try clear p602
                            try clear p64
                            try clear q6
                            try clear q60
                            try clear q602
                            obtain ⟨x10_4, x11_4, rfl, rfl, HA, HK4, HO_6, HO_590001, HO_595000, BK583, BK589, BK594, HB⟩ := hrel
                            cases gk with
                            | zero => exact absurd HA.out (by simp [wireloomlaw05_DigraphDepths.l3])
                            | succ k4 =>
                              have H := HA.out
                              clear HA
                              simp only [wireloomlaw05_DigraphDepths.l3] at H
                              by_cases c70 : x11_4 < (t586.length : Int)
                              · rw [if_pos c70] at H
                                have c70b0 : decide (x11_4 < (t586.length : Int)) = true := decide_eq_true c70
                                clear c70
                                by_cases c71 : 0 ≤ x11_4
                                · rw [if_pos c71] at H
                                  have c71b0 : decide (0 ≤ x11_4) = true := decide_eq_true c71
                                  clear c71
                                  by_cases c72 : ((rd_T55 t586 x11_4).f1) = x9_3
                                  · rw [if_pos c72] at H
                                    have c72b0 : (((rd_T55 t586 x11_4).f1) == x9_3) = true := beq_iff_eq.mpr c72
                                    have c72b1 : (((rd_T55 t586 x11_4).f1) != x9_3) = false := bne_eq_false_iff_eq.mpr c72
                                    clear c72
                                    by_cases c73 : 0 ≤ ((rd_T55 t586 x11_4).f0)
                                    · rw [if_pos c73] at H
                                      have c73b0 : decide (0 ≤ ((rd_T55 t586 x11_4).f0)) = true := decide_eq_true c73
                                      clear c73
                                      by_cases c74 : ((rd_T55 t586 x11_4).f0) < (t590.length : Int)
                                      · rw [if_pos c74] at H
                                        have c74b0 : decide (((rd_T55 t586 x11_4).f0) < (t590.length : Int)) = true := decide_eq_true c74
                                        clear c74
                                        obtain ⟨ji75, hji75⟩ : ∃ j_ : Int, (mx x10_4 (wrap64 ((rd t590 ((rd_T55 t586 x11_4).f0)) + 1))) = j_ := ⟨_, rfl⟩
                                        replace H : (wireloomlaw05_DigraphDepths.l3 k4 true x6_2 x9_3 ji75 (wrap64 (x11_4 + 1)) t585 t586 t590 t593) = some r := by first | (rw [hji75] at H; exact H) | (simp only [hji75] at H ⊢; exact H)
                                        have hji75_ : (if x10_4 < (wrap64 ((rd t590 ((rd_T55 t586 x11_4).f0)) + 1)) then (wrap64 ((rd t590 ((rd_T55 t586 x11_4).f0)) + 1)) else x10_4) = ji75 := hji75
                                        have H' := Aside0.mk H
                                        clear H
                                        have hnb76 := NB589_583.out
                                        have hnc76 := NB583_589.out
                                        have hnb77 := NB589_594.out
                                        have hnc77 := NB594_589.out
                                        have hcz78_0 : wr.cell? ⟨gb589, 0, none⟩ = some (.int .i64 t585) := (blk_cell BK589.out 0).trans rfl
                                        have hcz78_1 : wr.cell? ⟨gb589, 1, none⟩ = some (.slice Ao14 t586.length co14) := (blk_cell BK589.out 1).trans rfl
                                        have hfz78_0 := blk_frozen BK589.out 0
                                        have hfz78_1 := blk_frozen BK589.out 1
                                        have p607 : 0 ≤ (x11_4 : Int) := of_decide_eq_true (by first | (with_reducible assumption) | assumption)
                                        have q607 : x11_4 < (t586.length : Int) := of_decide_eq_true (by first | (with_reducible assumption) | assumption)
                                        obtain ⟨ad607, e607, hx607_0, hx607_1⟩ := at_T55 (Kd.R_reads' HO_590001.out).2.2 x11_4 p607 q607
                                        cases e607
                                        replace p607 := eq_true p607
                                        replace q607 := eq_true q607
                                        try go_wp2
                                        have n0_ := Aside0.mk (Kd.R_drew HO_6.out)
                                        have n1_ := Aside0.mk (Kd.R_drew HO_590001.out)
                                        have n2_ := Aside0.mk (Kd.R_drew HO_595000.out)
                                        have n3_ := Aside0.mk (blk_drew BK583.out)
                                        have n4_ := Aside0.mk (blk_drew BK589.out)
                                        have n5_ := Aside0.mk (blk_drew BK594.out)
                                        have n6_ := Aside0.mk (below_drew1 HB.out)
                                        clear HO_6
                                        clear HO_590001
                                        clear HO_595000
                                        clear BK583
                                        clear BK589
                                        clear BK594
                                        clear HB
                                        have HO_6 := n0_
                                        have HO_590001 := n1_
                                        have HO_595000 := n2_
                                        have BK583 := n3_
                                        have BK589 := n4_
                                        have BK594 := n5_
                                        have HB := n6_
                                        clear n0_ n1_ n2_ n3_ n4_ n5_ n6_
                                        have p608 : 0 ≤ (x11_4 : Int) := of_decide_eq_true (by first | (with_reducible assumption) | assumption)
                                        have q608 : x11_4 < (t586.length : Int) := of_decide_eq_true (by first | (with_reducible assumption) | assumption)
                                        obtain ⟨ad608, e608, hx608_0, hx608_1⟩ := at_T55 (Kd.R_reads' HO_590001.out).2.2 x11_4 p608 q608
                                        obtain rfl : ad607 = ad608 := (by injection e608)
                                        replace p608 := eq_true p608
                                        replace q608 := eq_true q608
                                        have p609 : 0 ≤ (((rd_T55 t586 x11_4).f0) : Int) := of_decide_eq_true (by first | (with_reducible assumption) | assumption)
                                        have q609 : ((rd_T55 t586 x11_4).f0) < (t590.length : Int) := of_decide_eq_true (by first | (with_reducible assumption) | assumption)
                                        obtain ⟨ad609, e609, hx609_0⟩ := Kd.at_int (Kd.R_reads' HO_595000.out).2.2 ((rd_T55 t586 x11_4).f0) p609 q609
                                        cases e609
                                        replace p609 := eq_true p609
                                        replace q609 := eq_true q609
                                        refine start_ (n := 14) (S := fun w' => w'.cell? ⟨gb594, 0, none⟩ = some (.slice (some ad609) t590.length co17) ∧ w'.cell? ⟨gb594, 1, none⟩ = some (.int .i64 t593) ∧ w'.cell? ⟨gb589, 0, none⟩ = some (.int .i64 t585) ∧ w'.cell? ⟨gb589, 1, none⟩ = some (.slice (some ad607) t586.length co14) ∧ w'.cell? (ad607.add ((x11_4).toNat * 2)) = some (.int .i64 ((rd_T55 t586 x11_4).f0)) ∧ w'.cell? ⟨(ad607.add ((x11_4).toNat * 2)).block, (ad607.add ((x11_4).toNat * 2)).off + 1, none⟩ = some (.int .i64 ((rd_T55 t586 x11_4).f1)) ∧ w'.cell? (ad609.add (((rd_T55 t586 x11_4).f0)).toNat) = some (.int .i64 (rd t590 ((rd_T55 t586 x11_4).f0)))) (ds := []) #[false, false, false, false, false, false, false, false, false, false, false, false, false, false] (by kernel_rfl) rfl rfl ⟨(blk_cell BK594.out 0).trans rfl, (blk_cell BK594.out 1).trans rfl, (blk_cell BK589.out 0).trans rfl, (blk_cell BK589.out 1).trans rfl, hx608_0, hx608_1, hx609_0⟩ (fun hHeld => ?_); refine with_tabW wireloomlaw05_DigraphDepths.tab29 wireloomlaw05_DigraphDepths.bits29 (fun HT_ HW_ => ?_)
                                        generalize wr.drew = w79 at HO_6 HO_590001 HO_595000 BK583 BK589 BK594 HB hx608_0 hx608_1 hx609_0 hHeld ⊢
                                        refine pure_ (i := 0) (N := some 92) (v := ?_) (a' := ?_) #[true, false, false, false, false, false, false, false, false, false, false, false, false, false] rfl rfl (any_of HT_.out (by kernel_rfl)) (fun _ _ _ h => h) (Or.inl ⟨by rfl, ?_⟩) ?_ ?_
                                        rotate_left
                                        · intro w'
                                          go_simp
                                          with_reducible rfl
                                        rotate_left
                                        · simp only [Act.put, List.setIfInBounds_toArray, List.set_cons_zero, List.set_cons_succ, i64_w, i32_w]
                                          rfl
                                        refine pure_ (i := 1) (N := some 93) (v := ?_) (a' := ?_) #[true, true, false, false, false, false, false, false, false, false, false, false, false, false] rfl rfl (any_of HT_.out (by kernel_rfl)) (fun _ _ _ h => h) (Or.inl ⟨by rfl, ?_⟩) ?_ ?_
                                        rotate_left
                                        · intro w'
                                          go_simp
                                          with_reducible rfl
                                        rotate_left
                                        · simp only [Act.put, List.setIfInBounds_toArray, List.set_cons_zero, List.set_cons_succ, i64_w, i32_w]
                                          rfl
                                        refine pure_ (i := 3) (N := some 95) (v := ?_) (a' := ?_) #[true, true, false, true, false, false, false, false, false, false, false, false, false, false] rfl rfl (any_of HT_.out (by kernel_rfl)) (fun _ _ _ h => h) (Or.inl ⟨by rfl, ?_⟩) ?_ ?_
                                        rotate_left
                                        · intro w'
                                          go_simp
                                          with_reducible rfl
                                        rotate_left
                                        · simp only [Act.put, List.setIfInBounds_toArray, List.set_cons_zero, List.set_cons_succ, i64_w, i32_w]
                                          rfl
                                        refine pure_ (i := 5) (N := some 97) (v := ?_) (a' := ?_) #[true, true, false, true, false, true, false, false, false, false, false, false, false, false] rfl rfl (any_of HT_.out (by kernel_rfl)) (fun _ _ _ h => h) (Or.inl ⟨by rfl, ?_⟩) ?_ ?_
                                        rotate_left
                                        · intro w'
                                          go_simp
                                          with_reducible rfl
                                        rotate_left
                                        · simp only [Act.put, List.setIfInBounds_toArray, List.set_cons_zero, List.set_cons_succ, i64_w, i32_w]
                                          rfl
                                        refine take_ (i := 2) (N := some 94) (v := ?_) (a' := ?_) #[true, true, true, true, false, true, false, false, false, false, false, false, false, false] rfl rfl (take_ofW HT_.out HW_.out (by kernel_rfl)) (fun _ _ _ h => h) (Or.inl ⟨by rfl, ?_⟩) hHeld ?_ ?_
                                        rotate_left
                                        · rintro w' ⟨s0, s1, s2, s3, s4, s5, s6⟩
                                          go_simp
                                          with_reducible rfl
                                        rotate_left
                                        · simp only [Act.put, List.setIfInBounds_toArray, List.set_cons_zero, List.set_cons_succ, i64_w, i32_w]
                                          rfl
                                        refine take_ (i := 4) (N := some 96) (v := ?_) (a' := ?_) #[true, true, true, true, true, true, false, false, false, false, false, false, false, false] rfl rfl (take_ofW HT_.out HW_.out (by kernel_rfl)) (fun _ _ _ h => h) (Or.inl ⟨by rfl, ?_⟩) hHeld ?_ ?_
                                        rotate_left
                                        · rintro w' ⟨s0, s1, s2, s3, s4, s5, s6⟩
                                          go_simp
                                          with_reducible rfl
                                        rotate_left
                                        · simp only [Act.put, List.setIfInBounds_toArray, List.set_cons_zero, List.set_cons_succ, i64_w, i32_w]
                                          rfl
                                        refine pure_ (i := 6) (N := some 98) (v := ?_) (a' := ?_) #[true, true, true, true, true, true, true, false, false, false, false, false, false, false] rfl rfl (any_of HT_.out (by kernel_rfl)) (fun _ _ _ h => h) (Or.inl ⟨by rfl, ?_⟩) ?_ ?_
                                        rotate_left
                                        · intro w'
                                          go_simp
                                          with_reducible rfl
                                        rotate_left
                                        · simp only [Act.put, List.setIfInBounds_toArray, List.set_cons_zero, List.set_cons_succ, i64_w, i32_w]
                                          rfl
                                        refine pure_ (i := 7) (N := some 99) (v := ?_) (a' := ?_) #[true, true, true, true, true, true, true, true, false, false, false, false, false, false] rfl rfl (any_of HT_.out (by kernel_rfl)) (fun _ _ _ h => h) (Or.inl ⟨by rfl, ?_⟩) ?_ ?_
                                        rotate_left
                                        · intro w'
                                          go_simp
                                          with_reducible rfl
                                        rotate_left
                                        · simp only [Act.put, List.setIfInBounds_toArray, List.set_cons_zero, List.set_cons_succ, i64_w, i32_w]
                                          rfl
                                        refine take_ (i := 8) (N := some 100) (v := ?_) (a' := ?_) #[true, true, true, true, true, true, true, true, true, false, false, false, false, false] rfl rfl (take_ofW HT_.out HW_.out (by kernel_rfl)) (fun _ _ _ h => h) (Or.inl ⟨by rfl, ?_⟩) hHeld ?_ ?_
                                        rotate_left
                                        · rintro w' ⟨s0, s1, s2, s3, s4, s5, s6⟩
                                          go_simp
                                          with_reducible rfl
                                        rotate_left
                                        · simp only [Act.put, List.setIfInBounds_toArray, List.set_cons_zero, List.set_cons_succ, i64_w, i32_w]
                                          rfl
                                        refine pure_ (i := 9) (N := some 101) (v := ?_) (a' := ?_) #[true, true, true, true, true, true, true, true, true, true, false, false, false, false] rfl rfl (any_of HT_.out (by kernel_rfl)) (fun _ _ _ h => h) (Or.inl ⟨by rfl, ?_⟩) ?_ ?_
                                        rotate_left
                                        · intro w'
                                          go_simp
                                          with_reducible rfl
                                        rotate_left
                                        · simp only [Act.put, List.setIfInBounds_toArray, List.set_cons_zero, List.set_cons_succ, i64_w, i32_w]
                                          rfl
                                        refine take_ (i := 10) (N := some 102) (v := ?_) (a' := ?_) #[true, true, true, true, true, true, true, true, true, true, true, false, false, false] rfl rfl (take_ofW HT_.out HW_.out (by kernel_rfl)) (fun _ _ _ h => h) (Or.inl ⟨by rfl, ?_⟩) hHeld ?_ ?_
                                        rotate_left
                                        · rintro w' ⟨s0, s1, s2, s3, s4, s5, s6⟩
                                          go_simp
                                          with_reducible rfl
                                        rotate_left
                                        · simp only [Act.put, List.setIfInBounds_toArray, List.set_cons_zero, List.set_cons_succ, i64_w, i32_w]
                                          rfl
                                        refine pure_ (i := 11) (N := some 103) (v := ?_) (a' := ?_) #[true, true, true, true, true, true, true, true, true, true, true, true, false, false] rfl rfl (any_of HT_.out (by kernel_rfl)) (fun _ _ _ h => h) (Or.inl ⟨by rfl, ?_⟩) ?_ ?_
                                        rotate_left
                                        · intro w'
                                          go_simp
                                          with_reducible rfl
                                        rotate_left
                                        · simp only [Act.put, List.setIfInBounds_toArray, List.set_cons_zero, List.set_cons_succ, i64_w, i32_w]
                                          rfl
                                        refine pure_ (i := 12) (N := some 104) (v := ?_) (a' := ?_) #[true, true, true, true, true, true, true, true, true, true, true, true, true, false] rfl rfl (any_of HT_.out (by kernel_rfl)) (fun _ _ _ h => h) (Or.inl ⟨by rfl, ?_⟩) ?_ ?_
                                        rotate_left
                                        · intro w'
                                          go_simp
                                          with_reducible rfl
                                        rotate_left
                                        · simp only [Act.put, List.setIfInBounds_toArray, List.set_cons_zero, List.set_cons_succ, i64_w, i32_w]
                                          rfl
                                        refine pure_ (i := 13) (N := some 10) (v := ?_) (a' := ?_) #[true, true, true, true, true, true, true, true, true, true, true, true, true, true] rfl rfl (any_of HT_.out (by kernel_rfl)) (fun _ _ _ h => h) (Or.inl ⟨by rfl, ?_⟩) ?_ ?_
                                        rotate_left
                                        · intro w'
                                          go_simp
                                          with_reducible rfl
                                        rotate_left
                                        · simp only [Act.put, List.setIfInBounds_toArray, List.set_cons_zero, List.set_cons_succ, i64_w, i32_w]
                                          rfl
                                        refine done_ (done_of HT_.out (by kernel_rfl)) ?_
                                        try go_wp2
                                        go_roundg k4
                                        case measure => have := HJ5.out; have := HK2.out; have := HK3.out; have := HK4.out; omega
                                        case rel => exact ⟨(ji75), (wrap64 (x11_4 + 1)), (by first | rfl | (simp; done) | (simp only [← hji75] <;> (first | rfl | simp)) | (simp [*]; done)), (by first | rfl | (simp; done) | (simp [*]; done)), H', ⟨by have := HJ5.out; have := HK2.out; have := HK3.out; have := HK4.out; omega⟩, ⟨by (with_reducible repeat (first | apply Kd.R_alloc | apply Kd.R_drewN | apply Kd.R_drew)); exact HO_6.out⟩, ⟨by (with_reducible repeat (first | apply Kd.R_alloc | apply Kd.R_drewN | apply Kd.R_drew)); exact HO_590001.out⟩, ⟨by (with_reducible repeat (first | apply Kd.R_alloc | apply Kd.R_drewN | apply Kd.R_drew)); exact HO_595000.out⟩, ⟨by (with_reducible repeat (first | refine blk_drewN ?_ _ | refine blk_drew ?_ | refine blk_alloc ?_ _)); exact BK583.out⟩, ⟨by (with_reducible repeat (first | refine blk_drewN ?_ _ | refine blk_drew ?_ | refine blk_alloc ?_ _)); exact BK589.out⟩, ⟨by (with_reducible repeat (first | refine blk_drewN ?_ _ | refine blk_drew ?_ | refine blk_alloc ?_ _)); exact BK594.out⟩, ⟨by repeat (first | (with_reducible first | exact HB.out | apply below_alloc | apply pw_below_drewN | apply below_drew1 | refine below_set ?_ GE583.out | refine below_set ?_ GE589.out | refine below_set ?_ GE594.out) | exact HB.out)⟩⟩
                                      · rw [if_neg c74] at H
                                        exact absurd H (by simp)
                                    · rw [if_neg c73] at H
                                      exact absurd H (by simp)
                                  · rw [if_neg c72] at H
                                    have c72b0 : (((rd_T55 t586 x11_4).f1) == x9_3) = false := beq_eq_false_iff_ne.mpr c72
                                    have c72b1 : (((rd_T55 t586 x11_4).f1) != x9_3) = true := bne_iff_ne.mpr c72
                                    have H' := Aside0.mk H
                                    clear H
                                    have hnb80 := NB589_583.out
                                    have hnc80 := NB583_589.out
                                    have hnb81 := NB589_594.out
                                    have hnc81 := NB594_589.out
                                    have hcz82_0 : wr.cell? ⟨gb589, 0, none⟩ = some (.int .i64 t585) := (blk_cell BK589.out 0).trans rfl
                                    have hcz82_1 : wr.cell? ⟨gb589, 1, none⟩ = some (.slice Ao14 t586.length co14) := (blk_cell BK589.out 1).trans rfl
                                    have hfz82_0 := blk_frozen BK589.out 0
                                    have hfz82_1 := blk_frozen BK589.out 1
                                    have p607 : 0 ≤ (x11_4 : Int) := of_decide_eq_true (by first | (with_reducible assumption) | assumption)
                                    have q607 : x11_4 < (t586.length : Int) := of_decide_eq_true (by first | (with_reducible assumption) | assumption)
                                    obtain ⟨ad607, e607, hx607_0, hx607_1⟩ := at_T55 (Kd.R_reads' HO_590001.out).2.2 x11_4 p607 q607
                                    cases e607
                                    replace p607 := eq_true p607
                                    replace q607 := eq_true q607
                                    go_wp2
                                    go_roundg k4
                                    case measure => have := HJ5.out; have := HK2.out; have := HK3.out; have := HK4.out; omega
                                    case rel => exact ⟨(x10_4), (wrap64 (x11_4 + 1)), (by first | rfl | (simp; done) | (simp [*]; done)), (by first | rfl | (simp; done) | (simp [*]; done)), H', ⟨by have := HJ5.out; have := HK2.out; have := HK3.out; have := HK4.out; omega⟩, ⟨by (with_reducible repeat (first | apply Kd.R_alloc | apply Kd.R_drewN | apply Kd.R_drew)); exact HO_6.out⟩, ⟨by (with_reducible repeat (first | apply Kd.R_alloc | apply Kd.R_drewN | apply Kd.R_drew)); exact HO_590001.out⟩, ⟨by (with_reducible repeat (first | apply Kd.R_alloc | apply Kd.R_drewN | apply Kd.R_drew)); exact HO_595000.out⟩, ⟨by (with_reducible repeat (first | refine blk_drewN ?_ _ | refine blk_drew ?_ | refine blk_alloc ?_ _)); exact BK583.out⟩, ⟨by (with_reducible repeat (first | refine blk_drewN ?_ _ | refine blk_drew ?_ | refine blk_alloc ?_ _)); exact BK589.out⟩, ⟨by (with_reducible repeat (first | refine blk_drewN ?_ _ | refine blk_drew ?_ | refine blk_alloc ?_ _)); exact BK594.out⟩, ⟨by repeat (first | (with_reducible first | exact HB.out | apply below_alloc | apply pw_below_drewN | apply below_drew1 | refine below_set ?_ GE583.out | refine below_set ?_ GE589.out | refine below_set ?_ GE594.out) | exact HB.out)⟩⟩
                                · rw [if_neg c71] at H
                                  exact absurd H (by simp)
                              · rw [if_neg c70] at H
                                have c70b0 : decide (x11_4 < (t586.length : Int)) = false := decide_eq_false c70
                                clear c70
                                by_cases c83 : 0 ≤ x9_3
                                · rw [if_pos c83] at H
                                  have c83b0 : decide (0 ≤ x9_3) = true := decide_eq_true c83
                                  clear c83
                                  by_cases c84 : x9_3 < (t590.length : Int)
                                  · rw [if_pos c84] at H
                                    have c84b0 : decide (x9_3 < (t590.length : Int)) = true := decide_eq_true c84
                                    clear c84
                                    by_cases c85 : (rd t590 x9_3) = x10_4
                                    · rw [if_pos c85] at H
                                      have c85b0 : ((rd t590 x9_3) == x10_4) = true := beq_iff_eq.mpr c85
                                      have c85b1 : ((rd t590 x9_3) != x10_4) = false := bne_eq_false_iff_eq.mpr c85
                                      clear c85
                                      have H' := Aside0.mk H
                                      clear H
                                      have hnb86 := NB589_583.out
                                      have hnc86 := NB583_589.out
                                      have hnb87 := NB589_594.out
                                      have hnc87 := NB594_589.out
                                      have hcz88_0 : wr.cell? ⟨gb589, 0, none⟩ = some (.int .i64 t585) := (blk_cell BK589.out 0).trans rfl
                                      have hcz88_1 : wr.cell? ⟨gb589, 1, none⟩ = some (.slice Ao14 t586.length co14) := (blk_cell BK589.out 1).trans rfl
                                      have hfz88_0 := blk_frozen BK589.out 0
                                      have hfz88_1 := blk_frozen BK589.out 1
                                      have hnb89 := NB594_583.out
                                      have hnc89 := NB583_594.out
                                      have hcz90_0 : wr.cell? ⟨gb594, 0, none⟩ = some (.slice Ao17 t590.length co17) := (blk_cell BK594.out 0).trans rfl
                                      have hcz90_1 : wr.cell? ⟨gb594, 1, none⟩ = some (.int .i64 t593) := (blk_cell BK594.out 1).trans rfl
                                      have hfz90_0 := blk_frozen BK594.out 0
                                      have hfz90_1 := blk_frozen BK594.out 1
                                      have p610 : 0 ≤ (x9_3 : Int) := of_decide_eq_true (by first | (with_reducible assumption) | assumption)
                                      have q610 : x9_3 < (t590.length : Int) := of_decide_eq_true (by first | (with_reducible assumption) | assumption)
                                      obtain ⟨ad610, e610, hx610_0⟩ := Kd.at_int (Kd.R_reads' HO_595000.out).2.2 x9_3 p610 q610
                                      cases e610
                                      replace p610 := eq_true p610
                                      replace q610 := eq_true q610
                                      go_wp2
                                      go_roundg k4
                                      case measure => have := HJ5.out; have := HK2.out; have := HK3.out; have := HK4.out; omega
                                      case rel => exact ⟨(wrap64 (x9_3 + 1)), (by first | rfl | (simp; done) | (simp [*]; done)), H', ⟨by have := HJ5.out; have := HK2.out; have := HK3.out; have := HK4.out; omega⟩, ⟨by (with_reducible repeat (first | apply Kd.R_alloc | apply Kd.R_drewN | apply Kd.R_drew)); exact HO_6.out⟩, ⟨by (with_reducible repeat (first | apply Kd.R_alloc | apply Kd.R_drewN | apply Kd.R_drew)); exact HO_590001.out⟩, ⟨by (with_reducible repeat (first | apply Kd.R_alloc | apply Kd.R_drewN | apply Kd.R_drew)); exact HO_595000.out⟩, ⟨by (with_reducible repeat (first | refine blk_drewN ?_ _ | refine blk_drew ?_ | refine blk_alloc ?_ _)); exact BK583.out⟩, ⟨by (with_reducible repeat (first | refine blk_drewN ?_ _ | refine blk_drew ?_ | refine blk_alloc ?_ _)); exact BK589.out⟩, ⟨by (with_reducible repeat (first | refine blk_drewN ?_ _ | refine blk_drew ?_ | refine blk_alloc ?_ _)); exact BK594.out⟩, ⟨by repeat (first | (with_reducible first | exact HB.out | apply below_alloc | apply pw_below_drewN | apply below_drew1 | refine below_set ?_ GE583.out | refine below_set ?_ GE589.out | refine below_set ?_ GE594.out) | exact HB.out)⟩⟩
                                    · rw [if_neg c85] at H
                                      exact absurd H (by simp)
                                  · rw [if_neg c84] at H
                                    exact absurd H (by simp)
                                · rw [if_neg c83] at H
                                  exact absurd H (by simp)
                        · rw [if_neg c66] at H
                          have c66b0 : decide (x9_3 < t585) = false := decide_eq_false c66
                          clear c66
                          replace H := Option.bind_eq_some_iff.mp H
                          obtain ⟨t606, A910, H⟩ := H
                          replace H : (if t606 = 0 then (some true) else (none)) = some r := H
                          have A91 := Aside0.mk A910
                          clear A910
                          by_cases c92 : t606 = 0
                          · rw [if_pos c92] at H
                            have c92b0 : (t606 == 0) = true := beq_iff_eq.mpr c92
                            have c92b1 : (t606 != 0) = false := bne_eq_false_iff_eq.mpr c92
                            clear c92
                            obtain rfl := Option.some.inj H
                            have hnb93 := NB589_583.out
                            have hnc93 := NB583_589.out
                            have hnb94 := NB589_594.out
                            have hnc94 := NB594_589.out
                            have hcz95_0 : wr.cell? ⟨gb589, 0, none⟩ = some (.int .i64 t585) := (blk_cell BK589.out 0).trans rfl
                            have hcz95_1 : wr.cell? ⟨gb589, 1, none⟩ = some (.slice Ao14 t586.length co14) := (blk_cell BK589.out 1).trans rfl
                            have hfz95_0 := blk_frozen BK589.out 0
                            have hfz95_1 := blk_frozen BK589.out 1
                            obtain ⟨Ao96, co96, eo96⟩ := Kd.R_slice HO_6.out
                            subst eo96
                            go_wp2_with (first | ((with_reducible refine gate_callee (f := 21) rfl ?_); refine goesL_ (some 117) rfl rfl Try.func21 (by kernel_rfl) rfl #[.int .i64 t585, .slice Ao14 t586.length co14, .slice Ao96 x6_2.length co96] rfl (by (try simp only [List.map_toArray, List.map_cons, List.map_nil]); first | done | rfl | (simp only [List.length_drop, List.length_take]; rfl)) ?_; (with_reducible refine (digraph_Check.calls t585 _ _ t586 _ _ x6_2 t606 _ ?side1 ?side2 ?side3 ?side4 A91.out).mono ?_); (case side1 => repeat (first | exact (Kd.R_reads' HO_590001.out).2.2 | (with_reducible refine Kd.C_alloc ?_ _) | (with_reducible refine Kd.C_drewN ?_ _) | (with_reducible refine Kd.C_drew ?_))); (case side2 => exact (Kd.R_reads' HO_590001.out).2.1); (case side3 => repeat (first | exact (Kd.R_reads' HO_6.out).2.2 | (with_reducible refine Kd.C_alloc ?_ _) | (with_reducible refine Kd.C_drewN ?_ _) | (with_reducible refine Kd.C_drew ?_))); (case side4 => exact (Kd.R_reads' HO_6.out).2.1); rintro e w97 ⟨rfl, hb⟩; refine ⟨_, rfl, ?_⟩; have n0_ := Aside0.mk (Kd.R_below (by (with_reducible repeat (first | apply Kd.R_alloc | apply Kd.R_drewN | apply Kd.R_drew)); exact HO_6.out) hb); have n1_ := Aside0.mk (Kd.R_below (by (with_reducible repeat (first | apply Kd.R_alloc | apply Kd.R_drewN | apply Kd.R_drew)); exact HO_590001.out) hb); have n2_ := Aside0.mk (Kd.R_below (by (with_reducible repeat (first | apply Kd.R_alloc | apply Kd.R_drewN | apply Kd.R_drew)); exact HO_595000.out) hb); have n3_ := Aside0.mk (blk_below (g := gb583) (o := .cells #[.int .u8 a0_0, .int .u8 a0_1, .slice A0_2 l0_2.length c0_2] 24 (0, 0)) (by (with_reducible repeat (first | refine blk_drewN ?_ _ | refine blk_drew ?_ | refine blk_alloc ?_ _)); exact BK583.out) hb); have n4_ := Aside0.mk (blk_below (g := gb589) (o := .cells #[.int .i64 t585, .slice Ao14 t586.length co14] 31 (0, 0)) (by (with_reducible repeat (first | refine blk_drewN ?_ _ | refine blk_drew ?_ | refine blk_alloc ?_ _)); exact BK589.out) hb); have n5_ := Aside0.mk (blk_below (g := gb594) (o := .cells #[.slice Ao17 t590.length co17, .int .i64 t593] 37 (0, 0)) (by (with_reducible repeat (first | refine blk_drewN ?_ _ | refine blk_drew ?_ | refine blk_alloc ?_ _)); exact BK594.out) hb); have n6_ := Aside0.mk (below_step (by repeat (first | (with_reducible first | exact HB.out | apply below_alloc | apply pw_below_drewN | apply below_drew1 | refine below_set ?_ GE583.out | refine below_set ?_ GE589.out | refine below_set ?_ GE594.out) | exact HB.out)) hb); clear HO_6; clear HO_590001; clear HO_595000; clear BK583; clear BK589; clear BK594; clear HB; have HO_6 := n0_; have HO_590001 := n1_; have HO_595000 := n2_; have BK583 := n3_; have BK589 := n4_; have BK594 := n5_; have HB := n6_; clear n0_ n1_ n2_ n3_ n4_ n5_ n6_; (try clear hb); (try clear hb2); (try clear hk); (try clear hi)))
                            go_ret
                            exact ⟨by first | rfl | (simp [errW_none, errW_some] <;> rfl) | (simp [*, errW_none, errW_some] <;> rfl), by repeat (first | (with_reducible first | exact HB.out | apply below_alloc | apply pw_below_drewN | apply below_drew1 | refine below_set ?_ GE583.out | refine below_set ?_ GE589.out | refine below_set ?_ GE594.out) | exact HB.out)⟩
                          · rw [if_neg c92] at H
                            exact absurd H (by simp)
            · rw [if_neg c32] at H
              exact absurd H (by simp)
          · rw [if_neg c31] at H
            have c31b0 : (t593 == 0) = false := beq_eq_false_iff_ne.mpr c31
            have c31b1 : (t593 != 0) = true := bne_iff_ne.mpr c31
            (try (have c31x : (t598 == 0) = false := by simpa [c31b0] using c22b0))
            obtain rfl := Option.some.inj H
            have hnb98 := NB594_583.out
            have hnc98 := NB583_594.out
            have hnb99 := NB594_589.out
            have hnc99 := NB589_594.out
            have hcz100_0 : wc.cell? ⟨gb594, 0, none⟩ = some (.slice Ao17 t590.length co17) := (blk_cell BK594.out 0).trans rfl
            have hcz100_1 : wc.cell? ⟨gb594, 1, none⟩ = some (.int .i64 t593) := (blk_cell BK594.out 1).trans rfl
            have hfz100_0 := blk_frozen BK594.out 0
            have hfz100_1 := blk_frozen BK594.out 1
            go_wp2
            go_ret
            exact ⟨by first | rfl | (simp [errW_none, errW_some] <;> rfl) | (simp [*, errW_none, errW_some] <;> rfl), by repeat (first | (with_reducible first | exact HB.out | apply below_alloc | apply pw_below_drewN | apply below_drew1 | refine below_set ?_ GE583.out | refine below_set ?_ GE589.out | refine below_set ?_ GE594.out) | exact HB.out)⟩
  · replace c3 := Bool.eq_false_iff.mpr c3
    subst c3
    have H1 : (none) = some r := by rw [if_neg (show ¬ (false = true) by decide)] at H; exact H
    clear H
    have H := H1
    clear H1
    exact absurd H (by simp)
end Go.Proofs.Ytlldjinejckbaaa.PD

end
section
namespace Go.Proofs.Ytlldjinejckbaaa.Pg
open Go Go.RowKit Go.Proofs.YtlldjinejckbaaaW.PrintWords Go.Proofs.Ytlldjinejckbaaa.Mod Go.Proofs.Ytlldjinejckbaaa.Gs Go.Proofs.Ytlldjinejckbaaa.Lb Go.Proofs.Ytlldjinejckbaaa.Ng Go.Proofs.Ytlldjinejckbaaa.Rc Go.Proofs.Ytlldjinejckbaaa.PD
def E (l : List S55) (u v : Int) : Prop := ∃ e ∈ l, e.f0 = u ∧ e.f1 = v
def Ok (n : Nat) (l : List S55) : Prop := ∀ e ∈ l, 0 ≤ e.f0 ∧ e.f0 < n ∧ 0 ≤ e.f1 ∧ e.f1 < n
theorem E.ok {n : Nat} {l : List S55} (h : Ok n l) {u v : Int} (e : E l u v) : 0 ≤ u ∧ u < n ∧ 0 ≤ v ∧ v < n := by
  obtain ⟨x, hx, rfl, rfl⟩ := e
  exact h x hx
theorem compactUpTo_strict (d : Array Int) (hs : d.toList.Pairwise (· ≤ ·)) : ∀ m, m ≤ d.size → (Lib.compactUpTo d m).Pairwise (· < ·) ∧ (∀ x, x ∈ Lib.compactUpTo d m ↔ ∃ j, j < m ∧ d[j]! = x) := by
  have hle : ∀ i j, i ≤ j → j < d.size → d[i]! ≤ d[j]! := fun i j hij hj => by
    rw [getElem!_pos d i (by omega), getElem!_pos d j hj]
    rcases Nat.lt_or_eq_of_le hij with h | h
    · have := List.pairwise_iff_getElem.1 hs i j (by simp; omega) (by simpa using hj) h
      simpa using this
    · subst h; exact Int.le_refl _
  intro m
  induction m with
  | zero => intro _; simp [Lib.compactUpTo]
  | succ m ih =>
    intro hm
    obtain ⟨h1, h2⟩ := ih (by omega)
    rw [Lib.compactUpTo_succ]
    by_cases hk : Lib.keeps d m = true
    · rw [if_pos hk]
      refine ⟨?_, fun x => ?_⟩
      · rw [List.pairwise_append]
        refine ⟨h1, by simp, fun a ha b hb => ?_⟩
        rw [List.mem_singleton] at hb
        subst hb
        obtain ⟨j, hj, rfl⟩ := (h2 a).1 ha
        unfold Lib.keeps at hk
        rw [decide_eq_true_eq] at hk
        rcases hk with hk | hk
        · omega
        · have h3 := hle j (m - 1) (by omega) (by omega)
          have h4 := hle (m - 1) m (by omega) (by omega)
          omega
      · rw [List.mem_append, List.mem_singleton, h2]
        constructor
        · rintro (⟨j, hj, e⟩ | e)
          · exact ⟨j, by omega, e⟩
          · exact ⟨m, by omega, e.symm⟩
        · rintro ⟨j, hj, e⟩
          rcases Nat.lt_or_eq_of_le (Nat.le_of_lt_succ hj) with h | h
          · exact .inl ⟨j, h, e⟩
          · subst h; exact .inr e.symm
    · rw [if_neg hk, List.append_nil]
      refine ⟨h1, fun x => ?_⟩
      rw [h2]
      constructor
      · rintro ⟨j, hj, e⟩; exact ⟨j, by omega, e⟩
      · rintro ⟨j, hj, e⟩
        rcases Nat.lt_or_eq_of_le (Nat.le_of_lt_succ hj) with h | h
        · exact ⟨j, h, e⟩
        · subst h
          unfold Lib.keeps at hk
          rw [decide_eq_true_eq] at hk
          have h5 : ¬ j = 0 := fun h => hk (.inl h)
          have h6 : d[j]! = d[j - 1]! := Classical.byContradiction fun h => hk (.inr h)
          exact ⟨j - 1, by omega, by rw [← h6]; exact e⟩
theorem sortI_sorted (xs : List Int) : (sortI xs).Pairwise (· ≤ ·) := by
  unfold sortI
  have := List.pairwise_mergeSort (le := fun x y : Int => decide (x ≤ y)) (fun a b c h1 h2 => by simp at *; omega) (fun a b => by simp; omega) xs
  exact this.imp (fun h => by simpa using h)
theorem tidyRow (xs : List Int) : (Lib.compact (sortI xs)).Pairwise (· < ·) ∧ ∀ x, x ∈ Lib.compact (sortI xs) ↔ x ∈ xs := by
  unfold Lib.compact
  obtain ⟨h1, h2⟩ := compactUpTo_strict (sortI xs).toArray (by simpa using sortI_sorted xs) (sortI xs).length (by simp)
  refine ⟨h1, fun x => ?_⟩
  rw [h2, ← mem_sortI (r := xs)]
  constructor
  · rintro ⟨j, hj, rfl⟩
    rw [getElem!_pos (sortI xs).toArray j (by simpa using hj)]
    simp
  · intro h
    obtain ⟨j, hj, rfl⟩ := List.mem_iff_getElem.1 h
    exact ⟨j, hj, by rw [getElem!_pos (sortI xs).toArray j (by simpa using hj)]; simp⟩
theorem row_tidy (rows : List (List Int)) (v : Int) : row (tidy rows) v = Lib.compact (sortI (row rows v)) := by
  unfold row tidy
  rw [List.getD_eq_getElem?_getD, List.getD_eq_getElem?_getD, List.getElem?_map]
  cases h : rows[v.toNat]? with
  | none => simp [sortI, Lib.compact, Lib.compactUpTo]
  | some r => rfl
theorem row_built {n : Nat} : ∀ (l : List S55), Ok n l → ∀ (v x : Int), 0 ≤ v → v < n → ((x ∈ row (built n l true) v ↔ E l v x) ∧ (x ∈ row (built n l false) v ↔ E l x v)) := by
  have key : ∀ (l : List S55) (R : Bool → List (List Int)), Ok n l → (∀ b, (R b).length = n) → ∀ (b : Bool) (v x : Int), 0 ≤ v → v < n → (x ∈ row (l.foldl addE R b) v ↔ x ∈ row (R b) v ∨ (if b then E l v x else E l x v)) := by
    intro l
    induction l with
    | nil => intro R _ _ b v x _ _; cases b <;> simp [E]
    | cons e l ih =>
      intro R hok hR b v x h0 h1
      obtain ⟨e0, e1, e2, e3⟩ := hok e (by simp)
      rw [List.foldl_cons, ih (addE R e) (fun z hz => hok z (by simp [hz])) (fun b => by rw [addE_length]; exact hR b) b v x h0 h1]
      have hrow : x ∈ row (addE R e b) v ↔ x ∈ row (R b) v ∨ (if b then e.f0 = v ∧ e.f1 = x else e.f0 = x ∧ e.f1 = v) := by
        unfold addE
        cases b with
        | true =>
          rw [upd_other _ _ _ (by decide), upd_same]
          unfold row
          rw [List.getD_eq_getElem?_getD, List.getElem?_set]
          by_cases hv : e.f0 = v
          · rw [if_pos (by omega), if_pos (by rw [hR]; omega)]
            subst hv
            simp [List.getD_eq_getElem?_getD, eq_comm]
          · rw [if_neg (by omega), ← List.getD_eq_getElem?_getD]
            simp [hv]
        | false =>
          rw [upd_same, upd_other _ _ _ (by decide)]
          unfold row
          rw [List.getD_eq_getElem?_getD, List.getElem?_set]
          by_cases hv : e.f1 = v
          · rw [if_pos (by omega), if_pos (by rw [hR]; omega)]
            subst hv
            simp [List.getD_eq_getElem?_getD, eq_comm]
          · rw [if_neg (by omega), ← List.getD_eq_getElem?_getD]
            simp [hv]
      rw [hrow]
      have hE : ∀ a c, E (e :: l) a c ↔ (e.f0 = a ∧ e.f1 = c) ∨ E l a c := fun a c => by
        unfold E
        simp
      cases b with
      | true => simp only [if_true]; rw [hE]; exact or_assoc
      | false => simp only [Bool.false_eq_true, if_false]; rw [hE]; exact or_assoc
  intro l hok v x h0 h1
  have e : ∀ b : Bool, x ∈ row ((fun _ => List.replicate n ([] : List Int)) b) v ↔ False := fun b => by
    unfold row
    simp only [List.getD_eq_getElem?_getD, List.getElem?_replicate]
    split <;> simp
  have h1' := key l (fun _ => List.replicate n []) hok (fun _ => by simp) true v x h0 h1
  have h2' := key l (fun _ => List.replicate n []) hok (fun _ => by simp) false v x h0 h1
  rw [e true] at h1'
  rw [e false] at h2'
  exact ⟨by unfold built; rw [h1']; simp, by unfold built; rw [h2']; simp⟩
abbrev nx (n : Nat) (l : List S55) : List (List Int) := tidy (built n l true)
abbrev pv (n : Nat) (l : List S55) : List (List Int) := tidy (built n l false)
theorem mem_nx {n : Nat} {l : List S55} (h : Ok n l) {v : Int} (x : Int) (h0 : 0 ≤ v) (h1 : v < n) : x ∈ row (nx n l) v ↔ E l v x := by
  rw [row_tidy, (tidyRow _).2]; exact (row_built l h v x h0 h1).1
theorem mem_pv {n : Nat} {l : List S55} (h : Ok n l) {v : Int} (x : Int) (h0 : 0 ≤ v) (h1 : v < n) : x ∈ row (pv n l) v ↔ E l x v := by
  rw [row_tidy, (tidyRow _).2]; exact (row_built l h v x h0 h1).2
theorem row_strict (rows : List (List Int)) (v : Int) : (row (tidy rows) v).Pairwise (· < ·) := by rw [row_tidy]; exact (tidyRow _).1
theorem row_nodup (rows : List (List Int)) (v : Int) : (row (tidy rows) v).Nodup := (row_strict rows v).imp (fun h => by omega)
theorem strict_ext {a b : List Int} (ha : a.Pairwise (· < ·)) (hb : b.Pairwise (· < ·)) (h : ∀ x, x ∈ a ↔ x ∈ b) : a = b := by
  have na : a.Nodup := ha.imp (fun h => by omega)
  have nb : b.Nodup := hb.imp (fun h => by omega)
  have hp : a.Perm b := (List.perm_ext_iff_of_nodup na nb).2 h
  exact List.Perm.eq_of_pairwise (le := fun x y : Int => x < y) (fun x y _ _ h1 h2 => by omega) ha hb hp
theorem nodup_len {n : Nat} {a : List Int} (hn : a.Nodup) (h : ∀ x ∈ a, 0 ≤ x ∧ x < (n : Int)) : a.length ≤ n := by
  have hs : a ⊆ (List.range n).map (fun k : Nat => (k : Int)) := fun x hx => by
    obtain ⟨h0, h1⟩ := h x hx
    exact List.mem_map.2 ⟨x.toNat, List.mem_range.2 (by omega), by omega⟩
  have := hn.length_le_of_subset hs
  simpa using this
theorem nodup_all {n : Nat} {a : List Int} (hn : a.Nodup) (h : ∀ x ∈ a, 0 ≤ x ∧ x < (n : Int)) (hl : a.length = n) : ∀ x : Int, 0 ≤ x → x < n → x ∈ a := by
  have hs : a ⊆ (List.range n).map (fun k : Nat => (k : Int)) := fun x hx => by
    obtain ⟨h0, h1⟩ := h x hx
    exact List.mem_map.2 ⟨x.toNat, List.mem_range.2 (by omega), by omega⟩
  intro x h0 h1
  refine Classical.byContradiction fun hx => ?_
  have hs2 : (x :: a) ⊆ (List.range n).map (fun k : Nat => (k : Int)) := fun y hy => by
    rcases List.mem_cons.1 hy with hy | hy
    · subst hy; exact List.mem_map.2 ⟨y.toNat, List.mem_range.2 (by omega), by omega⟩
    · exact hs hy
  have := (List.nodup_cons.2 ⟨hx, hn⟩).length_le_of_subset hs2
  simp at this
  omega
end Go.Proofs.Ytlldjinejckbaaa.Pg

end
section
namespace Go.Proofs.Ytlldjinejckbaaa.Po
open Go Go.RowKit Go.Proofs.YtlldjinejckbaaaW.PrintWords Go.Proofs.Ytlldjinejckbaaa.Mod Go.Proofs.Ytlldjinejckbaaa.Lb Go.Proofs.Ytlldjinejckbaaa.Ng Go.Proofs.Ytlldjinejckbaaa.Rc Go.Proofs.Ytlldjinejckbaaa.PD Go.Proofs.Ytlldjinejckbaaa.Pg Go.Proofs.Ytlldjinejckbaaa.Od Go.Proofs.Ytlldjinejckbaaa.Ins
def Avail (n : Nat) (l : List S55) (out : List Int) (v : Int) : Prop := 0 ≤ v ∧ v < n ∧ v ∉ out ∧ ∀ u, E l u v → u ∈ out
def Greedy (n : Nat) (l : List S55) (out : List Int) : Prop := ∀ k : Nat, k < out.length → Avail n l (out.take k) (rd out k) ∧ ∀ u, Avail n l (out.take k) u → rd out k ≤ u
theorem rd_get {l : List Int} {k : Nat} (h : k < l.length) : rd l (k : Int) = l[k] := by
  unfold rd
  rw [Int.toNat_natCast, List.getD_eq_getElem?_getD, List.getElem?_eq_getElem h]
  rfl
theorem Greedy.nil (n : Nat) (l : List S55) : Greedy n l [] := fun k hk => absurd hk (Nat.not_lt_zero k)
theorem Greedy.snoc {n : Nat} {l : List S55} {out : List Int} (h : Greedy n l out) {v : Int} (ha : Avail n l out v) (hm : ∀ u, Avail n l out u → v ≤ u) : Greedy n l (out ++ [v]) := by
  intro k hk
  rw [List.length_append, List.length_singleton] at hk
  rcases Nat.lt_or_eq_of_le (Nat.le_of_lt_succ hk) with hk | hk
  · have e1 : (out ++ [v]).take k = out.take k := by rw [List.take_append_of_le_length (Nat.le_of_lt hk)]
    have e2 : rd (out ++ [v]) (k : Int) = rd out (k : Int) := by rw [rd_get hk, rd_get (by simp; omega), List.getElem_append_left hk]
    rw [e1, e2]; exact h k hk
  · subst hk
    have e1 : (out ++ [v]).take out.length = out := by simp
    have e2 : rd (out ++ [v]) (out.length : Int) = v := by rw [rd_get (by simp)]; simp
    rw [e1, e2]; exact ⟨ha, hm⟩
theorem Greedy.range {n : Nat} {l : List S55} {out : List Int} (h : Greedy n l out) : ∀ v ∈ out, 0 ≤ v ∧ v < (n : Int) := by
  intro v hv
  obtain ⟨k, hk, rfl⟩ := List.mem_iff_getElem.1 hv
  have := (h k hk).1
  rw [rd_get hk] at this
  exact ⟨this.1, this.2.1⟩
theorem Greedy.nodup {n : Nat} {l : List S55} {out : List Int} (h : Greedy n l out) : out.Nodup := by
  rw [List.nodup_iff_pairwise_ne, List.pairwise_iff_getElem]
  intro i j hi hj hij e
  have h2 := (h j hj).1.2.2.1
  rw [rd_get hj] at h2
  apply h2
  rw [List.mem_iff_getElem]
  exact ⟨i, by rw [List.length_take]; omega, by rw [List.getElem_take]; exact e⟩
theorem Greedy.before {n : Nat} {l : List S55} {out : List Int} (h : Greedy n l out) {k : Nat} (hk : k < out.length) {u : Int} (he : E l u (rd out k)) : u ∈ out.take k := (h k hk).1.2.2.2 u he
theorem Greedy.closed {n : Nat} {l : List S55} {out : List Int} (h : Greedy n l out) {u v : Int} (hv : v ∈ out) (he : E l u v) : u ∈ out := by
  obtain ⟨k, hk, rfl⟩ := List.mem_iff_getElem.1 hv
  rw [← rd_get hk] at he
  exact List.mem_of_mem_take (h.before hk he)
theorem Greedy.len {n : Nat} {l : List S55} {out : List Int} (h : Greedy n l out) : out.length ≤ n := nodup_len h.nodup h.range
theorem start1_spec (prevs : List (List Int)) (n : Nat) : ∀ k, k ≤ n → (start1 prevs n k).1.length = n ∧ (∀ v : Int, 0 ≤ v → v < k → rd (start1 prevs n k).1 v = ((row prevs v).length : Int)) ∧
    (start1 prevs n k).2.Pairwise (· < ·) ∧ (∀ v, v ∈ (start1 prevs n k).2 ↔ 0 ≤ v ∧ v < (k : Int) ∧ row prevs v = []) := by
  intro k
  induction k with
  | zero => intro _; refine ⟨by simp [start1], fun v h0 h1 => by omega, by simp [start1], fun v => ?_⟩; simp [start1]; intro h0 h1; omega
  | succ k ih =>
    intro hk
    obtain ⟨h1, h2, h3, h4⟩ := ih (by omega)
    rw [start1_succ]
    refine ⟨by simp [h1], fun v hv0 hv1 => ?_, ?_, fun v => ?_⟩
    · by_cases e : v = (k : Int)
      · subst e
        have := rd_set_same (start1 prevs n k).1 (k : Int) ((row prevs k).length : Int) hv0 (by rw [h1]; omega)
        rw [Int.toNat_natCast] at this
        exact this
      · have := rd_set_other (start1 prevs n k).1 v (k : Int) ((row prevs k).length : Int) hv0 (by omega) e
        rw [Int.toNat_natCast] at this
        rw [this]
        exact h2 v hv0 (by omega)
    · split
      · rw [List.pairwise_append]
        refine ⟨h3, by simp, fun a ha b hb => ?_⟩
        rw [List.mem_singleton] at hb
        have := ((h4 a).1 ha).2.1
        omega
      · exact h3
    · split
      · rename_i hz
        have hz2 : row prevs (k : Int) = [] := List.length_eq_zero_iff.1 (by omega)
        rw [List.mem_append, List.mem_singleton, h4]
        constructor
        · rintro (⟨a, b, c⟩ | rfl)
          · exact ⟨a, by omega, c⟩
          · exact ⟨by omega, by omega, hz2⟩
        · rintro ⟨a, b, c⟩
          by_cases e : v = (k : Int)
          · exact .inr e
          · exact .inl ⟨a, by omega, c⟩
      · rename_i hz
        rw [h4]
        constructor
        · rintro ⟨a, b, c⟩; exact ⟨a, by omega, c⟩
        · rintro ⟨a, b, c⟩
          by_cases e : v = (k : Int)
          · subst e; rw [c] at hz; simp at hz
          · exact ⟨a, by omega, c⟩
theorem insert_strict (r : List Int) (x : Int) (h : r.Pairwise (· < ·)) (hx : x ∉ r) : (insertAt r (r.countP (· < x)) x).Pairwise (· < ·) ∧ ∀ y, y ∈ insertAt r (r.countP (· < x)) x ↔ y = x ∨ y ∈ r := by
  have hle := insert_sorted r x (h.imp (fun h => by omega))
  have hp : (insertAt r (r.countP (· < x)) x).Perm (x :: r) := by
    unfold insertAt
    have := List.perm_middle (a := x) (l₁ := r.take (r.countP (· < x))) (l₂ := r.drop (r.countP (· < x)))
    rwa [List.take_append_drop] at this
  have hn : (insertAt r (r.countP (· < x)) x).Nodup := hp.nodup_iff.2 (List.nodup_cons.2 ⟨hx, h.imp (fun h => by omega)⟩)
  refine ⟨?_, fun y => by rw [hp.mem_iff, List.mem_cons]⟩
  rw [List.pairwise_iff_getElem] at hle ⊢
  intro i j hi hj hij
  have h1 := hle i j hi hj hij
  have h2 := List.pairwise_iff_getElem.1 (List.nodup_iff_pairwise_ne.1 hn) i j hi hj hij
  omega
theorem wrap_small {x : Int} (h0 : -1000000 ≤ x) (h1 : x ≤ 1000000) : wrap64 x = x := by unfold wrap64; omega
theorem takeRow_spec : ∀ (xs w r : List Int), xs.Nodup → (∀ y ∈ xs, 0 ≤ y ∧ y < (w.length : Int)) → (∀ y ∈ xs, 1 ≤ rd w y ∧ rd w y ≤ 100000) → r.Pairwise (· < ·) → (∀ y ∈ xs, y ∉ r) →
    (takeRow xs w r).1.length = w.length ∧ (∀ y : Int, 0 ≤ y → rd (takeRow xs w r).1 y = rd w y - (if y ∈ xs then 1 else 0)) ∧ (takeRow xs w r).2.Pairwise (· < ·) ∧ ∀ y, y ∈ (takeRow xs w r).2 ↔ y ∈ r ∨ (y ∈ xs ∧ rd w y = 1)
  | [], w, r, _, _, _, hr, _ => ⟨rfl, fun y _ => by simp [takeRow], hr, fun y => by simp [takeRow]⟩
  | x :: xs, w, r, hn, hx, hb, hr, hnr => by
    obtain ⟨hx0, hx1⟩ := hx x (by simp)
    obtain ⟨hb0, hb1⟩ := hb x (by simp)
    rw [List.nodup_cons] at hn
    have hw : wrap64 (rd w x - 1) = rd w x - 1 := wrap_small (by omega) (by omega)
    have hset : ∀ y, 0 ≤ y → rd (w.set x.toNat (rd w x - 1)) y = if y = x then rd w x - 1 else rd w y := fun y hy => by
      by_cases e : y = x
      · subst e; rw [if_pos rfl, rd_set_same _ _ _ hx0 hx1]
      · rw [if_neg e, rd_set_other _ _ _ _ hy hx0 e]
    have hxs : ∀ y ∈ xs, y ≠ x := fun y hy e => hn.1 (by rw [← e]; exact hy)
    have h1 : ∀ y ∈ xs, 0 ≤ y ∧ y < ((w.set x.toNat (rd w x - 1)).length : Int) := fun y hy => by rw [List.length_set]; exact hx y (List.mem_cons_of_mem _ hy)
    have h2 : ∀ y ∈ xs, 1 ≤ rd (w.set x.toNat (rd w x - 1)) y ∧ rd (w.set x.toNat (rd w x - 1)) y ≤ 100000 := fun y hy => by
      rw [hset y (hx y (List.mem_cons_of_mem _ hy)).1, if_neg (hxs y hy)]; exact hb y (List.mem_cons_of_mem _ hy)
    have fin : ∀ (r' : List Int), r'.Pairwise (· < ·) → (∀ y ∈ xs, y ∉ r') → (∀ y, y ∈ r' ↔ y ∈ r ∨ (y = x ∧ rd w x = 1)) →
        (takeRow xs (w.set x.toNat (rd w x - 1)) r').1.length = w.length ∧ (∀ y : Int, 0 ≤ y → rd (takeRow xs (w.set x.toNat (rd w x - 1)) r').1 y = rd w y - (if y ∈ x :: xs then 1 else 0)) ∧
        (takeRow xs (w.set x.toNat (rd w x - 1)) r').2.Pairwise (· < ·) ∧ ∀ y, y ∈ (takeRow xs (w.set x.toNat (rd w x - 1)) r').2 ↔ y ∈ r ∨ (y ∈ x :: xs ∧ rd w y = 1) := by
      intro r' hr' hnr' hm
      obtain ⟨a, b, c, d⟩ := takeRow_spec xs (w.set x.toNat (rd w x - 1)) r' hn.2 h1 h2 hr' hnr'
      refine ⟨by rw [a, List.length_set], fun y hy => ?_, c, fun y => ?_⟩
      · rw [b y hy, hset y hy]
        by_cases e : y = x
        · subst e; rw [if_pos rfl, if_neg hn.1, if_pos (by simp)]; omega
        · rw [if_neg e]
          by_cases hyx : y ∈ xs
          · rw [if_pos hyx, if_pos (by simp [hyx])]
          · rw [if_neg hyx, if_neg (by simp [hyx, e])]
      · rw [d, hm]
        constructor
        · rintro ((h | ⟨e, h⟩) | ⟨h, h'⟩)
          · exact .inl h
          · subst e; exact .inr ⟨by simp, h⟩
          · rw [hset y (hx y (List.mem_cons_of_mem _ h)).1, if_neg (hxs y h)] at h'
            exact .inr ⟨by simp [h], h'⟩
        · rintro (h | ⟨h, h'⟩)
          · exact .inl (.inl h)
          · rcases List.mem_cons.1 h with e | h
            · subst e; exact .inl (.inr ⟨rfl, h'⟩)
            · exact .inr ⟨h, by rw [hset y (hx y (List.mem_cons_of_mem _ h)).1, if_neg (hxs y h)]; exact h'⟩
    unfold takeRow
    rw [hw]
    by_cases hz : rd w x - 1 = 0
    · rw [if_pos hz]
      obtain ⟨i1, i2⟩ := insert_strict r x hr (hnr x (by simp))
      exact fin _ i1 (fun y hy => by rw [i2]; rintro (e | e); exact hxs y hy e; exact hnr y (by simp [hy]) e) (fun y => by rw [i2]; constructor; (rintro (e | e); exact .inr ⟨e, by omega⟩; exact .inl e); (rintro (e | e); exact .inr e; exact .inl e.1))
    · rw [if_neg hz]
      exact fin r hr (fun y hy => hnr y (by simp [hy])) (fun y => ⟨fun h => .inl h, fun h => h.elim id (fun h => absurd h.2 (by omega))⟩)
theorem countP_out (L : List Int) (hn : L.Nodup) (out : List Int) (v : Int) (hv : v ∉ out) : L.countP (fun u => decide (u ∉ out ++ [v])) + (if v ∈ L then 1 else 0) = L.countP (fun u => decide (u ∉ out)) := by
  induction L with
  | nil => simp
  | cons a L ih =>
    rw [List.nodup_cons] at hn
    have ih := ih hn.2
    rw [List.countP_cons, List.countP_cons]
    by_cases e : a = v
    · subst e
      rw [if_neg hn.1] at ih
      simp [hv] at ih ⊢
      omega
    · have e1 : (decide (a ∉ out ++ [v])) = decide (a ∉ out) := by simp [e]
      rw [e1]
      have e2 : (v ∈ a :: L) ↔ v ∈ L := by simp [Ne.symm e]
      by_cases hL : v ∈ L
      · rw [if_pos hL] at ih; rw [if_pos (e2.2 hL)]; omega
      · rw [if_neg hL] at ih; rw [if_neg (fun h => hL (e2.1 h))]; omega
structure KInv (n : Nat) (l : List S55) (w r out : List Int) : Prop where
  wl : w.length = n
  g : Greedy n l out
  cnt : ∀ v : Int, 0 ≤ v → v < n → v ∉ out → rd w v = ((row (pv n l) v).countP (fun u => decide (u ∉ out)) : Nat)
  rs : r.Pairwise (· < ·)
  rm : ∀ v, v ∈ r ↔ Avail n l out v
theorem KInv.step {n : Nat} (hn : n ≤ 1000) {l : List S55} (hl : Ok n l) {w q out : List Int} {v : Int} (h : KInv n l w (v :: q) out) : KInv n l (takeRow (row (nx n l) v) w q).1 (takeRow (row (nx n l) v) w q).2 (out ++ [v]) := by
  have hv : Avail n l out v := (h.rm v).1 (by simp)
  obtain ⟨hv0, hv1, hvo, hvp⟩ := hv
  have hrow : ∀ y, y ∈ row (nx n l) v ↔ E l v y := fun y => mem_nx hl y hv0 hv1
  have hq := List.pairwise_cons.1 h.rs
  have hs : ∀ y ∈ row (nx n l) v, 0 ≤ y ∧ y < (n : Int) ∧ y ∉ out ∧ y ≠ v := fun y hy => by
    have he := (hrow y).1 hy
    obtain ⟨_, _, y0, y1⟩ := he.ok hl
    exact ⟨y0, y1, fun hyo => hvo (h.g.closed hyo he), fun e => by subst e; exact hvo (hvp _ he)⟩
  have hb : ∀ y ∈ row (nx n l) v, 1 ≤ rd w y ∧ rd w y ≤ 100000 := fun y hy => by
    obtain ⟨y0, y1, y2, y3⟩ := hs y hy
    rw [h.cnt y y0 y1 y2]
    have h1 : 0 < (row (pv n l) y).countP (fun u => decide (u ∉ out)) := List.countP_pos_iff.2 ⟨v, (mem_pv hl v y0 y1).2 ((hrow y).1 hy), by simpa using hvo⟩
    have h2 : (row (pv n l) y).countP (fun u => decide (u ∉ out)) ≤ (row (pv n l) y).length := List.countP_le_length
    have h3 : (row (pv n l) y).length ≤ n := nodup_len (row_nodup _ _) (fun u hu => by have := ((mem_pv hl u y0 y1).1 hu).ok hl; exact ⟨this.1, this.2.1⟩)
    omega
  obtain ⟨t1, t2, t3, t4⟩ := takeRow_spec (row (nx n l) v) w q (row_nodup _ _) (fun y hy => by rw [h.wl]; exact ⟨(hs y hy).1, (hs y hy).2.1⟩) hb hq.2 (fun y hy hyq => hvo (((h.rm y).1 (by simp [hyq])).2.2.2 v ((hrow y).1 hy)))
  have hcnt : ∀ y : Int, 0 ≤ y → y < n → y ∉ out ++ [v] → rd (takeRow (row (nx n l) v) w q).1 y = ((row (pv n l) y).countP (fun u => decide (u ∉ out ++ [v])) : Nat) := fun y y0 y1 hy => by
    have hyo : y ∉ out := fun h => hy (by simp [h])
    have hc := countP_out (row (pv n l) y) (row_nodup _ _) out v hvo
    rw [t2 y y0, h.cnt y y0 y1 hyo]
    by_cases he : y ∈ row (nx n l) v
    · rw [if_pos he]
      rw [if_pos ((mem_pv hl v y0 y1).2 ((hrow y).1 he))] at hc
      omega
    · rw [if_neg he]
      rw [if_neg (fun h => he ((hrow y).2 ((mem_pv hl v y0 y1).1 h)))] at hc
      omega
  refine ⟨by rw [t1, h.wl], h.g.snoc ⟨hv0, hv1, hvo, hvp⟩ (fun u hu => ?_), hcnt, t3, fun y => ?_⟩
  · have hur := (h.rm u).2 hu
    rcases List.mem_cons.1 hur with e | hur
    · omega
    · have := hq.1 u hur; omega
  · rw [t4]
    have hcz : ∀ (o : List Int), 0 ≤ y → y < n → ((row (pv n l) y).countP (fun u => decide (u ∉ o)) = 0 ↔ ∀ u, E l u y → u ∈ o) := fun o y0 y1 => by
      rw [List.countP_eq_zero]
      constructor
      · intro h u hu
        have := h u ((mem_pv hl u y0 y1).2 hu)
        simpa using this
      · intro h u hu
        have := h u ((mem_pv hl u y0 y1).1 hu)
        simpa using this
    constructor
    · rintro (hyq | ⟨hyr, hy1⟩)
      · obtain ⟨y0, y1, y2, y3⟩ := (h.rm y).1 (by simp [hyq])
        have := hq.1 y hyq
        exact ⟨y0, y1, by simp [y2]; omega, fun u hu => by simp [y3 u hu]⟩
      · obtain ⟨y0, y1, y2, y3⟩ := hs y hyr
        refine ⟨y0, y1, by simp [y2, y3], (hcz _ y0 y1).1 ?_⟩
        have hc := countP_out (row (pv n l) y) (row_nodup _ _) out v hvo
        rw [if_pos ((mem_pv hl v y0 y1).2 ((hrow y).1 hyr))] at hc
        rw [h.cnt y y0 y1 y2] at hy1
        omega
    · rintro ⟨y0, y1, y2, y3⟩
      have hyo : y ∉ out := fun h => y2 (by simp [h])
      have hyv : y ≠ v := fun h => y2 (by simp [h])
      by_cases hall : ∀ u, E l u y → u ∈ out
      · have := (h.rm y).2 ⟨y0, y1, hyo, hall⟩
        rcases List.mem_cons.1 this with e | hyq
        · exact absurd e hyv
        · exact .inl hyq
      · have hev : E l v y := Classical.byContradiction fun hne => hall fun u hu => by
          have := y3 u hu
          rcases List.mem_append.1 this with h | h
          · exact h
          · rw [List.mem_singleton] at h; subst h; exact absurd hu hne
        refine .inr ⟨(hrow y).2 hev, ?_⟩
        have hc := countP_out (row (pv n l) y) (row_nodup _ _) out v hvo
        rw [if_pos ((mem_pv hl v y0 y1).2 hev), (hcz _ y0 y1).2 y3] at hc
        rw [h.cnt y y0 y1 hyo]
        omega
theorem ordGo_spec {n : Nat} (hn : n ≤ 1000) {l : List S55} (hl : Ok n l) : ∀ (k : Nat) (w r out : List Int), KInv n l w r out → out.length + k = n + 1 → ∃ o, ordGo (nx n l) k w r out = some o ∧ Greedy n l o ∧ ∀ v, ¬ Avail n l o v
  | 0, w, r, out, h, hk => by have := h.g.len; omega
  | k + 1, w, [], out, h, hk => ⟨out, rfl, h.g, fun v hv => by have := (h.rm v).2 hv; simp at this⟩
  | k + 1, w, v :: q, out, h, hk => by
    have hq := List.pairwise_cons.1 h.rs
    have hql : q.length ≤ n := nodup_len (hq.2.imp (fun h => by omega)) (fun u hu => by have := (h.rm u).1 (by simp [hu]); exact ⟨this.1, this.2.1⟩)
    unfold ordGo
    rw [if_neg (by omega)]
    exact ordGo_spec hn hl k _ _ _ (h.step hn hl) (by rw [List.length_append, List.length_singleton]; omega)
theorem order_spec {n : Nat} (hn : n ≤ 1000) {l : List S55} (hl : Ok n l) : ∃ o, orderOf n l = some (if o.length < n then ([], 50) else (o, 0)) ∧ Greedy n l o ∧ ∀ v, ¬ Avail n l o v := by
  obtain ⟨s1, s2, s3, s4⟩ := start1_spec (pv n l) n n (Nat.le_refl _)
  have h0 : KInv n l (start1 (pv n l) n n).1 (start1 (pv n l) n n).2 [] := by
    refine ⟨s1, Greedy.nil n l, fun v h0 h1 _ => ?_, s3, fun v => ?_⟩
    · rw [s2 v h0 h1]
      congr 1
      rw [List.countP_eq_length.2 (fun u _ => by simp)]
    · rw [s4]
      constructor
      · rintro ⟨a, b, c⟩
        exact ⟨a, b, by simp, fun u hu => by have := (mem_pv hl u a b).2 hu; rw [c] at this; simp at this⟩
      · rintro ⟨a, b, _, c⟩
        refine ⟨a, b, List.eq_nil_iff_forall_not_mem.2 fun u hu => ?_⟩
        have := c u ((mem_pv hl u a b).1 hu)
        simp at this
  obtain ⟨o, ho, hg, ha⟩ := ordGo_spec hn hl (n + 1) _ _ _ h0 (by simp)
  exact ⟨o, by unfold orderOf; rw [ho]; rfl, hg, ha⟩
end Go.Proofs.Ytlldjinejckbaaa.Po

end
section
namespace Go.Proofs.Ytlldjinejckbaaa.Pd
open Go Go.RowKit Go.Proofs.YtlldjinejckbaaaW.PrintWords Go.Proofs.Ytlldjinejckbaaa.Mod Go.Proofs.Ytlldjinejckbaaa.Lb Go.Proofs.Ytlldjinejckbaaa.Ng Go.Proofs.Ytlldjinejckbaaa.Rc Go.Proofs.Ytlldjinejckbaaa.PD Go.Proofs.Ytlldjinejckbaaa.Pg Go.Proofs.Ytlldjinejckbaaa.Od Go.Proofs.Ytlldjinejckbaaa.Po Go.Proofs.Ytlldjinejckbaaa.Dp
theorem stepD_fold (v : Int) (hv : 0 ≤ v) : ∀ (xs cur : List Int), xs.Nodup → v ∉ xs → (∀ y ∈ xs, 0 ≤ y ∧ y < (cur.length : Int)) → -1000 ≤ rd cur v → rd cur v ≤ 100000 →
    (xs.foldl (stepD v) cur).length = cur.length ∧ ∀ y : Int, 0 ≤ y → rd (xs.foldl (stepD v) cur) y = if y ∈ xs then max (rd cur y) (rd cur v + 1) else rd cur y
  | [], cur, _, _, _, _, _ => ⟨rfl, fun y _ => by simp⟩
  | x :: xs, cur, hn, hvx, hx, hb0, hb1 => by
    rw [List.nodup_cons] at hn
    obtain ⟨hx0, hx1⟩ := hx x (by simp)
    have hw : wrap64 (rd cur v + 1) = rd cur v + 1 := Po.wrap_small (by omega) (by omega)
    have hne : v ≠ x := fun e => hvx (by simp [e])
    have hset : ∀ y, 0 ≤ y → rd (stepD v cur x) y = if y = x then max (rd cur x) (rd cur v + 1) else rd cur y := fun y hy => by
      unfold stepD
      rw [hw]
      by_cases e : y = x
      · subst e; rw [if_pos rfl, rd_set_same _ _ _ hx0 hx1]
      · rw [if_neg e, rd_set_other _ _ _ _ hy hx0 e]
    have hvv : rd (stepD v cur x) v = rd cur v := by rw [hset v hv, if_neg hne]
    obtain ⟨a, b⟩ := stepD_fold v hv xs (stepD v cur x) hn.2 (fun h => hvx (by simp [h])) (fun y hy => by rw [stepD_len]; exact hx y (by simp [hy])) (by rw [hvv]; exact hb0) (by rw [hvv]; exact hb1)
    rw [List.foldl_cons]
    refine ⟨by rw [a, stepD_len], fun y hy => ?_⟩
    rw [b y hy, hset y hy, hvv]
    by_cases e : y = x
    · subst e; rw [if_neg hn.1, if_pos rfl, if_pos (by simp)]
    · rw [if_neg e]
      by_cases h : y ∈ xs
      · rw [if_pos h, if_pos (by simp [h])]
      · rw [if_neg h, if_neg (by simp [h, e])]
structure DInv (n : Nat) (l : List S55) (P cur : List Int) : Prop where
  len : cur.length = n
  lo : ∀ w : Int, 0 ≤ w → w < n → 0 ≤ rd cur w ∧ rd cur w ≤ (P.length : Int)
  ge : ∀ u w : Int, u ∈ P → E l u w → rd cur u + 1 ≤ rd cur w
  inP : ∀ u ∈ P, rd cur u < (P.length : Int)
  at_ : ∀ w : Int, 0 ≤ w → w < n → rd cur w = 0 ∨ ∃ u, u ∈ P ∧ E l u w ∧ rd cur w = rd cur u + 1
theorem DInv.step {n : Nat} {l : List S55} (hl : Ok n l) {P cur : List Int} {v : Int} (h : DInv n l P cur) (hP : P.length ≤ 1000) (hv0 : 0 ≤ v) (hv1 : v < n) (hvs : ¬ E l v v) (hvP : ∀ u ∈ P, ¬ E l v u) (hP0 : ∀ u ∈ P, 0 ≤ u) :
    DInv n l (P ++ [v]) ((row (nx n l) v).foldl (stepD v) cur) := by
  have hrow : ∀ y, y ∈ row (nx n l) v ↔ E l v y := fun y => mem_nx hl y hv0 hv1
  obtain ⟨b0, b1⟩ := h.lo v hv0 hv1
  obtain ⟨s1, s2⟩ := stepD_fold v hv0 (row (nx n l) v) cur (row_nodup _ _) (fun hm => hvs ((hrow v).1 hm)) (fun y hy => by rw [h.len]; have := ((hrow y).1 hy).ok hl; exact ⟨this.2.2.1, this.2.2.2⟩) (by omega) (by omega)
  have hold : ∀ u, 0 ≤ u → (u ∈ P ∨ u = v) → rd ((row (nx n l) v).foldl (stepD v) cur) u = rd cur u := fun u hu hm => by
    rw [s2 u hu, if_neg]
    intro hr
    have he := (hrow u).1 hr
    rcases hm with hm | hm
    · exact hvP u hm he
    · subst hm; exact hvs he
  refine ⟨by rw [s1, h.len], fun w w0 w1 => ?_, fun u w hu he => ?_, fun u hu => ?_, fun w w0 w1 => ?_⟩
  · obtain ⟨c0, c1⟩ := h.lo w w0 w1
    rw [s2 w w0, List.length_append, List.length_singleton]
    split <;> omega
  · obtain ⟨u0, u1, w0, w1⟩ := he.ok hl
    have hu' : u ∈ P ∨ u = v := by rcases List.mem_append.1 hu with h | h; exact .inl h; exact .inr (by simpa using h)
    rw [hold u u0 hu', s2 w w0]
    rcases hu' with hu' | hu'
    · have := h.ge u w hu' he
      split <;> omega
    · subst hu'
      rw [if_pos ((hrow w).2 he)]
      omega
  · rw [List.length_append, List.length_singleton]
    rcases List.mem_append.1 hu with hu | hu
    · have h1 := h.inP u hu
      rw [hold u (hP0 u hu) (.inl hu)]
      omega
    · rw [List.mem_singleton] at hu
      subst hu
      rw [hold u hv0 (.inr rfl)]
      omega
  · rw [s2 w w0]
    by_cases hm : w ∈ row (nx n l) v
    · rw [if_pos hm]
      by_cases hc : rd cur w ≤ rd cur v + 1
      · right
        refine ⟨v, by simp, (hrow w).1 hm, ?_⟩
        rw [hold v hv0 (.inr rfl)]
        omega
      · rcases h.at_ w w0 w1 with e | ⟨u, hu, he, e⟩
        · left; omega
        · right
          refine ⟨u, by simp [hu], he, ?_⟩
          rw [hold u (he.ok hl).1 (.inl hu)]
          omega
    · rw [if_neg hm]
      rcases h.at_ w w0 w1 with e | ⟨u, hu, he, e⟩
      · exact .inl e
      · exact .inr ⟨u, by simp [hu], he, by rw [hold u (he.ok hl).1 (.inl hu)]; exact e⟩
theorem depthGo_spec {n : Nat} (hn : n ≤ 1000) {l : List S55} (hl : Ok n l) {o : List Int} (hg : Greedy n l o) : DInv n l o (depthGo (nx n l) o (List.replicate n 0)) := by
  have key : ∀ k, k ≤ o.length → DInv n l (o.take k) (depthGo (nx n l) (o.take k) (List.replicate n 0)) := by
    intro k
    induction k with
    | zero =>
      intro _
      have hr : ∀ x : Int, rd (List.replicate n 0) x = 0 := fun x => by
        unfold rd
        rw [List.getD_eq_getElem?_getD, List.getElem?_replicate]
        split <;> rfl
      refine ⟨by simp [depthGo], fun w _ _ => ?_, fun u w hu _ => by simp at hu, fun u hu => by simp at hu, fun w _ _ => ?_⟩
      · simp [depthGo, hr]
      · simp [depthGo, hr]
    | succ k ih =>
      intro hk
      have h := ih (by omega)
      have e : o.take (k + 1) = o.take k ++ [rd o (k : Int)] := by rw [rd_get (by omega), List.take_succ_eq_append_getElem (by omega)]
      have e2 : depthGo (nx n l) (o.take (k + 1)) (List.replicate n 0) = (row (nx n l) (rd o (k : Int))).foldl (stepD (rd o (k : Int))) (depthGo (nx n l) (o.take k) (List.replicate n 0)) := by
        unfold depthGo
        rw [e, List.foldl_append]
        rfl
      rw [e2, e]
      obtain ⟨v0, v1, v2, v3⟩ := (hg k (by omega)).1
      have hlen := hg.len
      exact h.step hl (by rw [List.length_take]; omega) v0 v1 (fun he => v2 (v3 _ he)) (fun u hu he => by
        obtain ⟨j, hj, rfl⟩ := List.mem_iff_getElem.1 hu
        rw [List.length_take] at hj
        rw [List.getElem_take] at he
        have hj' : j < o.length := by omega
        rw [← rd_get hj'] at he
        have hb := hg.before hj' he
        have e3 : o.take j = (o.take k).take j := by rw [List.take_take, Nat.min_eq_left (by omega)]
        rw [e3] at hb
        exact v2 (List.mem_of_mem_take hb)) (fun u hu => (hg.range u (List.mem_of_mem_take hu)).1)
  have := key o.length (Nat.le_refl _)
  rwa [List.take_length] at this
end Go.Proofs.Ytlldjinejckbaaa.Pd

end
section
namespace Go.Proofs.Ytlldjinejckbaaa.Pe
open Go Go.RowKit Go.Proofs.YtlldjinejckbaaaW.PrintWords Go.Proofs.Ytlldjinejckbaaa.Mod Go.Proofs.Ytlldjinejckbaaa.Lb Go.Proofs.Ytlldjinejckbaaa.Ng Go.Proofs.Ytlldjinejckbaaa.Rc Go.Proofs.Ytlldjinejckbaaa.PD Go.Proofs.Ytlldjinejckbaaa.Pg Go.Proofs.Ytlldjinejckbaaa.Tj
def uins (x : Int) : List Int → List Int
  | [] => [x]
  | y :: ys => if x < y then x :: y :: ys else if x = y then y :: ys else y :: uins x ys
def usort (xs : List Int) : List Int := xs.foldr uins []
theorem mem_uins (x z : Int) : ∀ ys, z ∈ uins x ys ↔ z = x ∨ z ∈ ys
  | [] => by simp [uins]
  | y :: ys => by
    unfold uins
    split
    · simp
    · split
      · rename_i h; subst h; simp
      · rw [List.mem_cons, mem_uins x z ys, List.mem_cons]
        constructor
        · rintro (h | h | h); exact .inr (.inl h); exact .inl h; exact .inr (.inr h)
        · rintro (h | h | h); exact .inr (.inl h); exact .inl h; exact .inr (.inr h)
theorem uins_strict (x : Int) : ∀ ys, ys.Pairwise (· < ·) → (uins x ys).Pairwise (· < ·)
  | [], _ => by simp [uins]
  | y :: ys, h => by
    rw [List.pairwise_cons] at h
    unfold uins
    split
    · rename_i hx
      rw [List.pairwise_cons]
      refine ⟨fun z hz => ?_, List.pairwise_cons.2 h⟩
      rcases List.mem_cons.1 hz with hz | hz
      · omega
      · have := h.1 z hz; omega
    · split
      · exact List.pairwise_cons.2 h
      · rw [List.pairwise_cons]
        refine ⟨fun z hz => ?_, uins_strict x ys h.2⟩
        rcases (mem_uins x z ys).1 hz with hz | hz
        · omega
        · exact h.1 z hz
theorem usort_spec : ∀ xs : List Int, (usort xs).Pairwise (· < ·) ∧ ∀ z, z ∈ usort xs ↔ z ∈ xs
  | [] => by simp [usort]
  | x :: xs => by
    obtain ⟨h1, h2⟩ := usort_spec xs
    exact ⟨uins_strict x _ h1, fun z => by show z ∈ uins x (usort xs) ↔ _; rw [mem_uins, h2, List.mem_cons]⟩
theorem compact_sort (xs : List Int) : Lib.compact (sortI xs) = usort xs := strict_ext (tidyRow xs).1 (usort_spec xs).1 (fun z => by rw [(tidyRow xs).2, (usort_spec xs).2])
theorem tidy_eval (rows : List (List Int)) : tidy rows = rows.map usort := by
  unfold tidy
  exact List.map_congr_left (fun r _ => compact_sort r)
def ins1 (x : Int) : List Int → List Int
  | [] => [x]
  | y :: ys => if x ≤ y then x :: y :: ys else y :: ins1 x ys
def isort (xs : List Int) : List Int := xs.foldr ins1 []
theorem ins1_perm (x : Int) : ∀ ys, (ins1 x ys).Perm (x :: ys)
  | [] => .refl _
  | y :: ys => by
    unfold ins1
    split
    · exact .refl _
    · exact ((ins1_perm x ys).cons y).trans (List.Perm.swap x y ys)
theorem ins1_sorted (x : Int) : ∀ ys, ys.Pairwise (· ≤ ·) → (ins1 x ys).Pairwise (· ≤ ·)
  | [], _ => by simp [ins1]
  | y :: ys, h => by
    rw [List.pairwise_cons] at h
    unfold ins1
    split
    · rename_i hx
      rw [List.pairwise_cons]
      refine ⟨fun z hz => ?_, List.pairwise_cons.2 h⟩
      rcases List.mem_cons.1 hz with hz | hz
      · omega
      · have := h.1 z hz; omega
    · rw [List.pairwise_cons]
      refine ⟨fun z hz => ?_, ins1_sorted x ys h.2⟩
      rcases List.mem_cons.1 ((ins1_perm x ys).mem_iff.1 hz) with hz | hz
      · omega
      · exact h.1 z hz
theorem isort_spec : ∀ xs : List Int, (isort xs).Pairwise (· ≤ ·) ∧ (isort xs).Perm xs
  | [] => by simp [isort]
  | x :: xs => by
    obtain ⟨h1, h2⟩ := isort_spec xs
    exact ⟨ins1_sorted x _ h1, (ins1_perm x _).trans (h2.cons x)⟩
theorem sortA_eq : sortA = isort := by
  funext xs
  have h1 : (sortA xs).Pairwise (· ≤ ·) := sortI_sorted xs
  have h2 : (sortA xs).Perm xs := List.mergeSort_perm _ _
  exact List.Perm.eq_of_pairwise (le := fun x y : Int => x ≤ y) (fun x y _ _ h1 h2 => by omega) h1 (isort_spec xs).1 (h2.trans (isort_spec xs).2.symm)
def shutE (s : TS) (k : Nat) : TS :=
  { s with stack := s.stack.take k, opn := (s.stack.drop k).foldl (fun o x => o.set x.toNat false) s.opn, out := s.out ++ [isort (s.stack.drop k)] }
def visitE (rows : List (List Int)) : Nat → Int → TS → Option TS
  | 0, _, _ => none
  | f + 1, v, s => if 50000 < s.stack.length then none else match visitRow (visitE rows f) v (row rows v) (s.meet v) with
    | none => none
    | some s2 => if rd s2.low v < rd s2.num v then some s2 else if 50000 < s2.stack.length ∨ 50000 < s2.out.length then none else (match s2.stack.findIdx? (· == v) with
      | some k => some (shutE s2 k)
      | none => none)
theorem visit_eq (rows : List (List Int)) : ∀ f, visit rows f = visitE rows f
  | 0 => by funext v s; rfl
  | f + 1 => by
    funext v s
    unfold visit visitE
    rw [visit_eq rows f]
    have e : ∀ (s : TS) k, s.shut k = shutE s k := fun s k => by unfold TS.shut shutE; rw [sortA_eq]
    simp only [e]
    rfl
def visitAllE (rows : List (List Int)) (n : Nat) : Nat → TS → Option TS
  | 0, s => some s
  | k + 1, s => if rd s.num ((n - (k + 1) : Nat) : Int) = 0 then (match visitE rows (n + 1) ((n - (k + 1) : Nat) : Int) s with
      | some s' => visitAllE rows n k s'
      | none => none) else visitAllE rows n k s
theorem visitAll_eq (rows : List (List Int)) (n : Nat) : ∀ k s, visitAll rows n k s = visitAllE rows n k s
  | 0, s => rfl
  | k + 1, s => by
    unfold visitAll visitAllE
    rw [visit_eq]
    split
    · split
      · rename_i s' h; rw [h]; exact visitAll_eq rows n k s'
      · rename_i h; rw [h]
    · exact visitAll_eq rows n k s
abbrev g1 : List S55 := [⟨2, 0⟩, ⟨0, 3⟩, ⟨1, 3⟩]
abbrev g2 : List S55 := [⟨2, 0⟩, ⟨0, 3⟩, ⟨1, 3⟩, ⟨3, 2⟩]
abbrev g3 : List S55 := [⟨2, 0⟩, ⟨0, 3⟩, ⟨1, 3⟩, ⟨1, 1⟩]
theorem t1 : tidy (built 4 g1 true) = [[3], [3], [0], []] := by rw [tidy_eval]; decide +kernel
theorem t1p : tidy (built 4 g1 false) = [[2], [], [], [0, 1]] := by rw [tidy_eval]; decide +kernel
theorem t2 : tidy (built 4 g2 true) = [[3], [3], [0], [2]] := by rw [tidy_eval]; decide +kernel
theorem t2p : tidy (built 4 g2 false) = [[2], [], [3], [0, 1]] := by rw [tidy_eval]; decide +kernel
theorem t3 : tidy (built 4 g3 true) = [[3], [1, 3], [0], []] := by rw [tidy_eval]; decide +kernel
theorem t3p : tidy (built 4 g3 false) = [[2], [1], [], [0, 1]] := by rw [tidy_eval]; decide +kernel
theorem o1 : Od.orderOf 4 g1 = some ([1, 2, 0, 3], 0) := by unfold Od.orderOf; rw [t1, t1p]; decide +kernel
theorem o2 : Od.orderOf 4 g2 = some ([], 50) := by unfold Od.orderOf; rw [t2, t2p]; decide +kernel
theorem d1 : Dp.depthOf 4 g1 = some ([1, 0, 0, 2], 0) := by unfold Dp.depthOf; rw [o1, t1]; decide +kernel
theorem d2 : Dp.depthOf 4 g2 = some ([], 50) := by unfold Dp.depthOf; rw [o2]; rfl
theorem c1 : Cy.cycleOf 4 g1 = some ([], 4) := by unfold Cy.cycleOf; rw [t1, t1p]; decide +kernel
theorem c2 : Cy.cycleOf 4 g2 = some ([0, 3, 2], 0) := by unfold Cy.cycleOf; rw [t2, t2p]; decide +kernel
theorem c3 : Cy.cycleOf 4 g3 = some ([1], 0) := by unfold Cy.cycleOf; rw [t3, t3p]; decide +kernel
theorem k1 : Tj.compsOf (tidy (built 4 g2 true)) 4 = some [[0, 2, 3], [1]] := by
  unfold Tj.compsOf
  rw [t2, visitAll_eq]
  have e : visitAllE [[3], [3], [0], [2]] 4 4 (Tj.start 4) = some { count := 4, num := [1, 4, 3, 2], low := [1, 4, 1, 1], opn := [false, false, false, false], stack := [], out := [[0, 2, 3], [1]] } := by kernel_rfl
  rw [e]
  have hf : Tj.fine [[0, 2, 3], [1]] = true := by decide +kernel
  simp only
  rw [if_pos hf, List.mergeSort_of_pairwise (by decide +kernel)]
theorem ch1 : Ck.checkOf 4 g1 [2, 0, 1, 3] = 0 := by decide +kernel
theorem ch2 : Ck.checkOf 4 g1 [0, 1, 2, 3] = 6 := by decide +kernel
theorem o0 : Od.orderOf 0 [] = some ([], 0) := by unfold Od.orderOf; rw [tidy_eval, tidy_eval]; decide +kernel
theorem sortI_eq : sortI = isort := sortA_eq
theorem r1 : Rc.reachOf 4 g1 2 = [0, 2, 3] := by unfold Rc.reachOf; rw [t1, sortI_eq]; decide +kernel
theorem r2 : Rc.reachOf 4 g1 4 = [] := by decide +kernel
end Go.Proofs.Ytlldjinejckbaaa.Pe

end
