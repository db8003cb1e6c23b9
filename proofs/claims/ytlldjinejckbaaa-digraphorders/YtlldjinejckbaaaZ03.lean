/- The law DigraphOrders of package digraph holds for every input: what it is called with is opened, the printed text of the law and its plain proof are joined. (Part 4 of 5 of its proof.) -/
import Derived.Test.YtlldjinejckbaaaZ02
set_option linter.unusedVariables false
set_option linter.unusedSimpArgs false
section
namespace Go.Proofs.Ytlldjinejckbaaa.PD
open Go.RowKit Go.Proofs.YtlldjinejckbaaaW.PrintWords Go.Proofs.YtlldjinejckbaaaW.PrintLast Go.Proofs.YtlldjinejckbaaaW.PrintMore
attribute [local go_sem] max2_int min2_int max_two min_two max_three min_three max_four min_four
set_option linter.unusedVariables false
set_option linter.unusedSimpArgs false
mutual
def wireloomref05_Made.l0 : Nat → Int → Int → Int → Int → List Int → Int → List (S55) → Option (Int × (List (S55)))
 | 0, _, _, _, _, _, _, _ => none
 | k + 1, x3, x5, x257000, x257001, x257002, x259000, x259001 => if (wrap64 (x5 + 1)) < (x257002.length : Int) then (if x5 < 60 then (wireloomref05_Made.j1 k x3 x5 (decide (x3 > 0)) x257000 x257001 x257002 x259000 x259001) else (wireloomref05_Made.j1 k x3 x5 false x257000 x257001 x257002 x259000 x259001)) else (wireloomref05_Made.j1 k x3 x5 false x257000 x257001 x257002 x259000 x259001)
def wireloomref05_Made.j1 : Nat → Int → Int → Bool → Int → Int → List Int → Int → List (S55) → Option (Int × (List (S55)))
 | 0, _, _, _, _, _, _, _, _ => none
 | k + 1, x3, x5, x27, x257000, x257001, x257002, x259000, x259001 => if x27 = true then (if 0 ≤ x5 then (if x5 < (x257002.length : Int) then (if x3 = 0 then (none) else (if 0 ≤ (wrap64 (x5 + 1)) then (if (wrap64 (x5 + 1)) < (x257002.length : Int) then (if (Int.tmod x257001 2) = 0 then (if (Int.tmod (wrap64 (rd x257002 x5)) x3) = (Int.tmod (wrap64 (rd x257002 (wrap64 (x5 + 1)))) x3) then (wireloomref05_Made.l0 k x3 (wrap64 (x5 + 2)) x257000 x257001 x257002 x259000 x259001) else (if (Int.tmod (wrap64 (rd x257002 x5)) x3) > (Int.tmod (wrap64 (rd x257002 (wrap64 (x5 + 1)))) x3) then (wireloomref05_Made.j2 k x3 x5 (Int.tmod (wrap64 (rd x257002 (wrap64 (x5 + 1)))) x3) (Int.tmod (wrap64 (rd x257002 x5)) x3) x257000 x257001 x257002 x259000 x259001) else (wireloomref05_Made.j2 k x3 x5 (Int.tmod (wrap64 (rd x257002 x5)) x3) (Int.tmod (wrap64 (rd x257002 (wrap64 (x5 + 1)))) x3) x257000 x257001 x257002 x259000 x259001))) else (if x259001.length < 8796093022208 then (wireloomref05_Made.l0 k x3 (wrap64 (x5 + 2)) x257000 x257001 x257002 x259000 (x259001 ++ [(⟨Int.tmod (wrap64 (rd x257002 x5)) x3, Int.tmod (wrap64 (rd x257002 (wrap64 (x5 + 1)))) x3⟩ : S55)])) else (none))) else (none)) else (none))) else (none)) else (none)) else (some (x259000, x259001))
def wireloomref05_Made.j2 : Nat → Int → Int → Int → Int → Int → Int → List Int → Int → List (S55) → Option (Int × (List (S55)))
 | 0, _, _, _, _, _, _, _, _, _ => none
 | k + 1, x3, x5, x6, x7, x257000, x257001, x257002, x259000, x259001 => if (Int.tmod x257001 4) = 2 then (if x3 = 0 then (none) else (if (Int.tmod x3 5) = 0 then (wireloomref05_Made.l0 k x3 (wrap64 (x5 + 2)) x257000 x257001 x257002 x259000 x259001) else (if x259001.length < 8796093022208 then (wireloomref05_Made.l0 k x3 (wrap64 (x5 + 2)) x257000 x257001 x257002 x259000 (x259001 ++ [(⟨Int.tmod (wrap64 ((wrap64 (5 * x6)) + 3)) x3, Int.tmod (wrap64 ((wrap64 (5 * x7)) + 3)) x3⟩ : S55)])) else (none)))) else (if (Int.tmod x3 5) = 0 then (if x259001.length < 8796093022208 then (wireloomref05_Made.l0 k x3 (wrap64 (x5 + 2)) x257000 x257001 x257002 x259000 (x259001 ++ [(⟨x6, x7⟩ : S55)])) else (none)) else (if x259001.length < 8796093022208 then (wireloomref05_Made.l0 k x3 (wrap64 (x5 + 2)) x257000 x257001 x257002 x259000 (x259001 ++ [(⟨x6, x7⟩ : S55)])) else (none)))
end
def wireloomref05_Made.f (k : Nat) (a0_0 : Int) (a0_1 : Int) (l0_2 : List Int) : Option (Int × (List (S55))) := wireloomref05_Made.l0 k (wrap64 (Int.tmod a0_0 13)) 0 a0_0 a0_1 l0_2 (wrap64 (Int.tmod a0_0 13)) ([] : List (S55))
set_option maxHeartbeats 8000000 in
set_option maxRecDepth 100000 in
theorem wireloomref05_Made.calls (k : Nat) (a0_0 : Int) (a0_1 : Int) (A0_2 : Option Addr) (c0_2 : Nat) (l0_2 : List Int) (r1 : Int) (r2 : List (S55)) (w : World) (hr0_2 : Kd.C (Kd.int .u8) w A0_2 l0_2.length l0_2) (hc0_2 : l0_2.length ≤ c0_2) (h : wireloomref05_Made.f k a0_0 a0_1 l0_2 = some (r1, r2)) :
  Calls Try.prog 11 #[.agg #[.int .u8 a0_0, .int .u8 a0_1, .slice A0_2 l0_2.length c0_2]] w fun e w' => ∃ v1_ : Value, e = .returned (.agg #[.int .i64 r1, v1_]) ∧ Kd.R k55 55 w' w.heap.size (fun _ => True) v1_ r2 ∧ Below w.heap.size w w' := by
 have hu24 := Try.underlying24
 have hu31 := Try.underlying31
 have hu55 := Try.underlying55
 have HR0_2 := Aside0.mk hr0_2
 have HC0_2 := Aside0.mk hc0_2
 clear hr0_2 hc0_2
 have HB := Aside0.mk (Below.refl w.heap.size w)
 have H : (wireloomref05_Made.l0 k (wrap64 (Int.tmod a0_0 13)) 0 a0_0 a0_1 l0_2 (wrap64 (Int.tmod a0_0 13)) ([] : List (S55))) = some (r1, r2) := h
 clear h
 have H' := Aside0.mk H
 clear H
 go_enter Try.func11, Try.ntmps11
 go_wp2_with (first | ((with_reducible refine gate_dst (N := 1) rfl ?_); refine box_event ?hg (N := 1) ?hd (cs := #[.int .u8 a0_0, .int .u8 a0_1, .slice A0_2 l0_2.length c0_2]) (t := 24) ?hr ?_; (case hd => rfl); (case hg => rfl); (case hr => first | (go_simp; done) | (go_simp; rfl)); intro gb256 hg w2 hbox hb; have BK256 := Aside0.mk (hbox); have GW256 := Aside0.mk ((by rw [hg]; exact (below_size (wB0 HB.out)) : w.heap.size ≤ gb256)); have GE256 := Aside0.mk ((by rw [hg]; exact (below_size (wB0 HB.out)) : w.heap.size ≤ gb256)); replace HB := Aside0.mk (below_step (wB0 HB.out) hb); clear hb hbox hg) | ((with_reducible refine gate_dst (N := 2) rfl ?_); refine box_event ?hg (N := 2) ?hd (cs := #[.int .i64 0, .slice none 0 0]) (t := 31) ?hr ?_; (case hd => rfl); (case hg => rfl); (case hr => first | (go_simp; done) | (go_simp; rfl)); intro gb257 hg w3 hbox hb; have BK257 := Aside0.mk (hbox); have GW257 := Aside0.mk ((by rw [hg]; exact (below_size (wB1 HB.out GE256.out)) : w.heap.size ≤ gb257)); have GE257 := Aside0.mk ((by rw [hg]; exact (below_size (wB1 HB.out GE256.out)) : w.heap.size ≤ gb257)); replace HB := Aside0.mk (below_step (wB1 HB.out GE256.out) hb); have NB256_257 := Aside0.mk ((by rw [hg]; exact Nat.ne_of_lt (blk_lt (g := gb256) (o := .cells #[.int .u8 a0_0, .int .u8 a0_1, .slice A0_2 l0_2.length c0_2] 24 (0, 0)) (bA BK256.out)) : gb256 ≠ gb257)); have NB257_256 := Aside0.mk ((by rw [hg]; exact Nat.ne_of_gt (blk_lt (g := gb256) (o := .cells #[.int .u8 a0_0, .int .u8 a0_1, .slice A0_2 l0_2.length c0_2] 24 (0, 0)) (bA BK256.out)) : gb257 ≠ gb256)); replace BK256 := kC BK256 hb; clear hb hbox hg; have hnb4 := NB256_257.out; have hnc4 := NB257_256.out; have hcz5_0 : w3.cell? ⟨gb256, 0, none⟩ = some (.int .u8 a0_0) := (blk_cell BK256.out 0).trans rfl; have hcz5_1 : w3.cell? ⟨gb256, 1, none⟩ = some (.int .u8 a0_1) := (blk_cell BK256.out 1).trans rfl; have hcz5_2 : w3.cell? ⟨gb256, 2, none⟩ = some (.slice A0_2 l0_2.length c0_2) := (blk_cell BK256.out 2).trans rfl; have hfz5_0 := blk_frozen BK256.out 0; have hfz5_1 := blk_frozen BK256.out 1; have hfz5_2 := blk_frozen BK256.out 2) | ((with_reducible refine gate_dst (N := 4) rfl ?_); refine box_event ?hg (N := 4) ?hd (cs := #[.int .i64 0, .slice none 0 0]) (t := 31) ?hr ?_; (case hd => rfl); (case hg => rfl); (case hr => first | (go_simp; done) | (go_simp; rfl)); intro gb258 hg w6 hbox hb; have BK258 := Aside0.mk (hbox); have GW258 := Aside0.mk ((by rw [hg]; exact (below_size (wB2 HB.out GE256.out GE257.out)) : w.heap.size ≤ gb258)); have GE258 := Aside0.mk ((by rw [hg]; exact (below_size (wB2 HB.out GE256.out GE257.out)) : w.heap.size ≤ gb258)); replace HB := Aside0.mk (below_step (wB2 HB.out GE256.out GE257.out) hb); have NB256_258 := Aside0.mk ((by rw [hg]; exact Nat.ne_of_lt (blk_lt (g := gb256) (o := .cells #[.int .u8 a0_0, .int .u8 a0_1, .slice A0_2 l0_2.length c0_2] 24 (0, 0)) (bA BK256.out)) : gb256 ≠ gb258)); have NB258_256 := Aside0.mk ((by rw [hg]; exact Nat.ne_of_gt (blk_lt (g := gb256) (o := .cells #[.int .u8 a0_0, .int .u8 a0_1, .slice A0_2 l0_2.length c0_2] 24 (0, 0)) (bA BK256.out)) : gb258 ≠ gb256)); replace BK256 := kC BK256 hb; have NB257_258 := Aside0.mk ((by rw [hg]; exact Nat.ne_of_lt (blk_lt (g := gb257) (o := .cells #[.int .i64 0, .slice none 0 0] 31 (0, 0)) (bA BK257.out)) : gb257 ≠ gb258)); have NB258_257 := Aside0.mk ((by rw [hg]; exact Nat.ne_of_gt (blk_lt (g := gb257) (o := .cells #[.int .i64 0, .slice none 0 0] 31 (0, 0)) (bA BK257.out)) : gb258 ≠ gb257)); replace BK257 := kC BK257 hb; clear hb hbox hg; have hnb7 := NB258_256.out; have hnc7 := NB256_258.out; have hnb8 := NB258_257.out; have hnc8 := NB257_258.out; have hcz9_0 : w6.cell? ⟨gb258, 0, none⟩ = some (.int .i64 0) := (blk_cell BK258.out 0).trans rfl; have hcz9_1 : w6.cell? ⟨gb258, 1, none⟩ = some (.slice none 0 0) := (blk_cell BK258.out 1).trans rfl; have hfz9_0 := blk_frozen BK258.out 0; have hfz9_1 := blk_frozen BK258.out 1))
 go_loopg [5] k (fun kq v5 w' => ∃ (x5_1 : Int) (x259001_1 : List (S55)) (u259001 : Value), v5 = .int .i64 x5_1 ∧ Aside0 (wireloomref05_Made.l0 kq (wrap64 (Int.tmod a0_0 13)) x5_1 a0_0 a0_1 l0_2 (wrap64 (Int.tmod a0_0 13)) x259001_1 = some (r1, r2)) ∧ Aside0 (kq ≤ k) ∧ Aside0 (Kd.R k55 55 w' w.heap.size (fun _ => True) u259001 x259001_1) ∧ Aside0 (w'.heap[gb256]? = some (.cells #[.int .u8 a0_0, .int .u8 a0_1, (.slice A0_2 l0_2.length c0_2)] 24 (0, 0))) ∧ Aside0 (w'.heap[gb257]? = some (.cells #[.int .i64 0, (.slice none 0 0)] 31 (0, 0))) ∧ Aside0 (w'.heap[gb258]? = some (.cells #[.int .i64 (wrap64 (Int.tmod a0_0 13)), u259001] 31 (0, 0))) ∧ Aside0 (Below w.heap.size w w'))
 case atStart => exact ⟨(0), (([] : List (S55))), (.slice none 0 0), rS, H', ⟨Nat.le_refl _⟩, ⟨by first | exact Kd.R_nil _ _ _ _ _ | exact Kd.N_nil _ _ _ _ _ | exact Kd.V_nil _ _ _ _ _ | exact Kd.Q_nil _ _ _ _ _ | exact Kd.S_nil _ _ _ _ _⟩, ⟨by (with_reducible repeat (first | refine blk_drewN ?_ _ | refine blk_drew ?_ | refine blk_alloc ?_ _)); refine blk_far ?_ NB256_258.out _; (with_reducible repeat (first | refine blk_drewN ?_ _ | refine blk_drew ?_ | refine blk_alloc ?_ _)); refine blk_far ?_ NB256_258.out _; (with_reducible repeat (first | refine blk_drewN ?_ _ | refine blk_drew ?_ | refine blk_alloc ?_ _)); exact BK256.out⟩, ⟨by (with_reducible repeat (first | refine blk_drewN ?_ _ | refine blk_drew ?_ | refine blk_alloc ?_ _)); refine blk_far ?_ NB257_258.out _; (with_reducible repeat (first | refine blk_drewN ?_ _ | refine blk_drew ?_ | refine blk_alloc ?_ _)); refine blk_far ?_ NB257_258.out _; (with_reducible repeat (first | refine blk_drewN ?_ _ | refine blk_drew ?_ | refine blk_alloc ?_ _)); exact BK257.out⟩, ⟨by (with_reducible repeat (first | refine blk_drewN ?_ _ | refine blk_drew ?_ | refine blk_alloc ?_ _)); refine blk_put (cs := #[.int .i64 (wrap64 (Int.tmod a0_0 13)), .slice none 0 0]) ?_ 1 _ rfl; (with_reducible repeat (first | refine blk_drewN ?_ _ | refine blk_drew ?_ | refine blk_alloc ?_ _)); refine blk_put (cs := #[.int .i64 0, .slice none 0 0]) ?_ 0 _ rfl; (with_reducible repeat (first | refine blk_drewN ?_ _ | refine blk_drew ?_ | refine blk_alloc ?_ _)); exact BK258.out⟩, ⟨wB3 HB.out GE256.out GE257.out GE258.out⟩⟩
 case round =>
  clear H'
  try clear c1; try clear p2; try clear c4; try clear p6; try clear c7; try clear c8; try clear hcz5_0; try clear hcz5_1; try clear hcz5_2; try clear hcz9_0; try clear hcz9_1; try clear hfz5_0; try clear hfz5_1; try clear hfz5_2; try clear hfz9_0; try clear hfz9_1
  obtain ⟨x5_1, x259001_1, u259001, rfl, HA, HK1, HO_259001, BK256, BK257, BK258, HB⟩ := hrel
  cases gk with
  | zero => exact absurd HA.out (by simp [wireloomref05_Made.l0])
  | succ k1 =>
   have H := HA.out
   clear HA
   simp only [wireloomref05_Made.l0] at H
   have HC10 := Aside0.mk H
   clear H
   go_upto_region 4 with (fail)
   go_cut [27] (fun v27 wc => ∃ (kq : Nat) (x27_9 : Bool), v27 = .bool x27_9 ∧ Aside0 (wireloomref05_Made.j1 kq (wrap64 (Int.tmod a0_0 13)) x5_1 x27_9 a0_0 a0_1 l0_2 (wrap64 (Int.tmod a0_0 13)) x259001_1 = some (r1, r2)) ∧ Aside0 (kq ≤ k1) ∧ Aside0 (Kd.R k55 55 wc w.heap.size (fun _ => True) u259001 x259001_1) ∧ Aside0 (wc.heap[gb256]? = some (.cells #[.int .u8 a0_0, .int .u8 a0_1, (.slice A0_2 l0_2.length c0_2)] 24 (0, 0))) ∧ Aside0 (wc.heap[gb257]? = some (.cells #[.int .i64 0, (.slice none 0 0)] 31 (0, 0))) ∧ Aside0 (wc.heap[gb258]? = some (.cells #[.int .i64 (wrap64 (Int.tmod a0_0 13)), u259001] 31 (0, 0))) ∧ Aside0 (Below w.heap.size w wc))
   case first =>
    have H := HC10.out
    clear HC10
    by_cases c11 : (wrap64 (x5_1 + 1)) < (l0_2.length : Int)
    ·rw [if_pos c11] at H
     have c11b0 : decide ((wrap64 (x5_1 + 1)) < (l0_2.length : Int)) = true := decide_eq_true c11
     clear c11
     (first | rw [c11b0] | (simp only [i64_w, i32_w]; rw [c11b0]) | skip)
     by_cases c12 : x5_1 < 60
     ·rw [if_pos c12] at H
      have c12b0 : decide (x5_1 < 60) = true := decide_eq_true c12
      clear c12
      have H' := Aside0.mk H
      clear H
      have hnb13 := NB256_257.out
      have hnc13 := NB257_256.out
      have hnb14 := NB256_258.out
      have hnc14 := NB258_256.out
      have hcz15_0 : wr.cell? ⟨gb256, 0, none⟩ = some (.int .u8 a0_0) := (blk_cell BK256.out 0).trans rfl
      have hcz15_1 : wr.cell? ⟨gb256, 1, none⟩ = some (.int .u8 a0_1) := (blk_cell BK256.out 1).trans rfl
      have hcz15_2 : wr.cell? ⟨gb256, 2, none⟩ = some (.slice A0_2 l0_2.length c0_2) := (blk_cell BK256.out 2).trans rfl
      have hfz15_0 := blk_frozen BK256.out 0
      have hfz15_1 := blk_frozen BK256.out 1
      have hfz15_2 := blk_frozen BK256.out 2
      go_wp2
      go_meet
      case rel => exact ⟨_, (decide ((wrap64 (Int.tmod a0_0 13)) > 0)), rS, H', ⟨by have := HK1.out; first | omega | exact Nat.le_refl _⟩, ⟨rA HO_259001.out⟩, ⟨bA BK256.out⟩, ⟨bA BK257.out⟩, ⟨bA BK258.out⟩, ⟨wB3 HB.out GE256.out GE257.out GE258.out⟩⟩
     ·rw [if_neg c12] at H
      have c12b0 : decide (x5_1 < 60) = false := decide_eq_false c12
      clear c12
      have H' := Aside0.mk H
      clear H
      have hnb16 := NB256_257.out
      have hnc16 := NB257_256.out
      have hnb17 := NB256_258.out
      have hnc17 := NB258_256.out
      have hcz18_0 : wr.cell? ⟨gb256, 0, none⟩ = some (.int .u8 a0_0) := (blk_cell BK256.out 0).trans rfl
      have hcz18_1 : wr.cell? ⟨gb256, 1, none⟩ = some (.int .u8 a0_1) := (blk_cell BK256.out 1).trans rfl
      have hcz18_2 : wr.cell? ⟨gb256, 2, none⟩ = some (.slice A0_2 l0_2.length c0_2) := (blk_cell BK256.out 2).trans rfl
      have hfz18_0 := blk_frozen BK256.out 0
      have hfz18_1 := blk_frozen BK256.out 1
      have hfz18_2 := blk_frozen BK256.out 2
      go_wp2
      go_meet
      case rel => exact ⟨_, (false), rS, H', ⟨by have := HK1.out; first | omega | exact Nat.le_refl _⟩, ⟨rA HO_259001.out⟩, ⟨bA BK256.out⟩, ⟨bA BK257.out⟩, ⟨bA BK258.out⟩, ⟨wB3 HB.out GE256.out GE257.out GE258.out⟩⟩
    ·rw [if_neg c11] at H
     have c11b0 : decide ((wrap64 (x5_1 + 1)) < (l0_2.length : Int)) = false := decide_eq_false c11
     clear c11
     (first | rw [c11b0] | (simp only [i64_w, i32_w]; rw [c11b0]) | skip)
     have H' := Aside0.mk H
     clear H
     have hnb19 := NB256_257.out
     have hnc19 := NB257_256.out
     have hnb20 := NB256_258.out
     have hnc20 := NB258_256.out
     have hcz21_0 : wr.cell? ⟨gb256, 0, none⟩ = some (.int .u8 a0_0) := (blk_cell BK256.out 0).trans rfl
     have hcz21_1 : wr.cell? ⟨gb256, 1, none⟩ = some (.int .u8 a0_1) := (blk_cell BK256.out 1).trans rfl
     have hcz21_2 : wr.cell? ⟨gb256, 2, none⟩ = some (.slice A0_2 l0_2.length c0_2) := (blk_cell BK256.out 2).trans rfl
     have hfz21_0 := blk_frozen BK256.out 0
     have hfz21_1 := blk_frozen BK256.out 1
     have hfz21_2 := blk_frozen BK256.out 2
     go_wp2
     go_meet
     case rel => exact ⟨_, (false), rS, H', ⟨by have := HK1.out; first | omega | exact Nat.le_refl _⟩, ⟨rA HO_259001.out⟩, ⟨bA BK256.out⟩, ⟨bA BK257.out⟩, ⟨bA BK258.out⟩, ⟨wB3 HB.out GE256.out GE257.out GE258.out⟩⟩
   case rest =>
    clear HC10
    try clear c1; try clear c2; try clear p2; try clear c4; try clear p6; try clear c7; try clear c8; try clear c11; try clear c11b0; try clear c12; try clear c12b0; try clear c13; try clear c14; try clear c16; try clear c17; try clear c19; try clear c20; try clear hcz15_0; try clear hcz15_1; try clear hcz15_2; try clear hcz18_0; try clear hcz18_1; try clear hcz18_2; try clear hcz21_0; try clear hcz21_1; try clear hcz21_2; try clear hcz5_0; try clear hcz5_1; try clear hcz5_2; try clear hcz9_0; try clear hcz9_1; try clear hfz15_0; try clear hfz15_1; try clear hfz15_2; try clear hfz18_0; try clear hfz18_1; try clear hfz18_2; try clear hfz21_0; try clear hfz21_1; try clear hfz21_2
    try clear hfz5_0; try clear hfz5_1; try clear hfz5_2; try clear hfz9_0; try clear hfz9_1; try clear p2; try clear p6
    obtain ⟨kq, x27_9, rfl, HA, HJ9, HO_259001, BK256, BK257, BK258, HB⟩ := hcut
    cases kq with
    | zero => exact absurd HA.out (by simp [wireloomref05_Made.j1])
    | succ kj9 =>
     have H := HA.out
     clear HA
     simp only [wireloomref05_Made.j1] at H
     by_cases c22 : x27_9 = true
     ·subst c22
      have H1 : (if 0 ≤ x5_1 then (if x5_1 < (l0_2.length : Int) then (if (wrap64 (Int.tmod a0_0 13)) = 0 then (none) else (if 0 ≤ (wrap64 (x5_1 + 1)) then (if (wrap64 (x5_1 + 1)) < (l0_2.length : Int) then (if (Int.tmod a0_1 2) = 0 then (if (Int.tmod (wrap64 (rd l0_2 x5_1)) (wrap64 (Int.tmod a0_0 13))) = (Int.tmod (wrap64 (rd l0_2 (wrap64 (x5_1 + 1)))) (wrap64 (Int.tmod a0_0 13))) then (wireloomref05_Made.l0 kj9 (wrap64 (Int.tmod a0_0 13)) (wrap64 (x5_1 + 2)) a0_0 a0_1 l0_2 (wrap64 (Int.tmod a0_0 13)) x259001_1) else (if (Int.tmod (wrap64 (rd l0_2 x5_1)) (wrap64 (Int.tmod a0_0 13))) > (Int.tmod (wrap64 (rd l0_2 (wrap64 (x5_1 + 1)))) (wrap64 (Int.tmod a0_0 13))) then (wireloomref05_Made.j2 kj9 (wrap64 (Int.tmod a0_0 13)) x5_1 (Int.tmod (wrap64 (rd l0_2 (wrap64 (x5_1 + 1)))) (wrap64 (Int.tmod a0_0 13))) (Int.tmod (wrap64 (rd l0_2 x5_1)) (wrap64 (Int.tmod a0_0 13))) a0_0 a0_1 l0_2 (wrap64 (Int.tmod a0_0 13)) x259001_1) else (wireloomref05_Made.j2 kj9 (wrap64 (Int.tmod a0_0 13)) x5_1 (Int.tmod (wrap64 (rd l0_2 x5_1)) (wrap64 (Int.tmod a0_0 13))) (Int.tmod (wrap64 (rd l0_2 (wrap64 (x5_1 + 1)))) (wrap64 (Int.tmod a0_0 13))) a0_0 a0_1 l0_2 (wrap64 (Int.tmod a0_0 13)) x259001_1))) else (if x259001_1.length < 8796093022208 then (wireloomref05_Made.l0 kj9 (wrap64 (Int.tmod a0_0 13)) (wrap64 (x5_1 + 2)) a0_0 a0_1 l0_2 (wrap64 (Int.tmod a0_0 13)) (x259001_1 ++ [(⟨Int.tmod (wrap64 (rd l0_2 x5_1)) (wrap64 (Int.tmod a0_0 13)), Int.tmod (wrap64 (rd l0_2 (wrap64 (x5_1 + 1)))) (wrap64 (Int.tmod a0_0 13))⟩ : S55)])) else (none))) else (none)) else (none))) else (none)) else (none)) = some (r1, r2) := by rw [if_pos rfl] at H; exact H
      clear H
      have H := H1
      clear H1
      by_cases c23 : 0 ≤ x5_1
      rotate_left
      ·rw [if_neg c23] at H
       exact absurd H (by simp)
      rw [if_pos c23] at H
      have c23b0 : decide (0 ≤ x5_1) = true := decide_eq_true c23
      clear c23
      by_cases c24 : x5_1 < (l0_2.length : Int)
      rotate_left
      ·rw [if_neg c24] at H
       exact absurd H (by simp)
      rw [if_pos c24] at H
      have c24b0 : decide (x5_1 < (l0_2.length : Int)) = true := decide_eq_true c24
      clear c24
      by_cases c25 : (wrap64 (Int.tmod a0_0 13)) = 0
      ·rw [if_pos c25] at H
       exact absurd H (by simp)
      ·rw [if_neg c25] at H
       have c25b0 : ((wrap64 (Int.tmod a0_0 13)) == 0) = false := beq_eq_false_iff_ne.mpr c25
       have c25b1 : ((wrap64 (Int.tmod a0_0 13)) != 0) = true := bne_iff_ne.mpr c25
       obtain ⟨ji26, hji26⟩ : ∃ j_ : Int, (wrap64 (x5_1 + 1)) = j_ := ⟨_, rfl⟩
       replace H : (if 0 ≤ (ji26) then (if (ji26) < (l0_2.length : Int) then (if (Int.tmod a0_1 2) = 0 then (if (Int.tmod (wrap64 (rd l0_2 x5_1)) (wrap64 (Int.tmod a0_0 13))) = (Int.tmod (wrap64 (rd l0_2 (ji26))) (wrap64 (Int.tmod a0_0 13))) then (wireloomref05_Made.l0 kj9 (wrap64 (Int.tmod a0_0 13)) (wrap64 (x5_1 + 2)) a0_0 a0_1 l0_2 (wrap64 (Int.tmod a0_0 13)) x259001_1) else (if (Int.tmod (wrap64 (rd l0_2 x5_1)) (wrap64 (Int.tmod a0_0 13))) > (Int.tmod (wrap64 (rd l0_2 (ji26))) (wrap64 (Int.tmod a0_0 13))) then (wireloomref05_Made.j2 kj9 (wrap64 (Int.tmod a0_0 13)) x5_1 (Int.tmod (wrap64 (rd l0_2 (ji26))) (wrap64 (Int.tmod a0_0 13))) (Int.tmod (wrap64 (rd l0_2 x5_1)) (wrap64 (Int.tmod a0_0 13))) a0_0 a0_1 l0_2 (wrap64 (Int.tmod a0_0 13)) x259001_1) else (wireloomref05_Made.j2 kj9 (wrap64 (Int.tmod a0_0 13)) x5_1 (Int.tmod (wrap64 (rd l0_2 x5_1)) (wrap64 (Int.tmod a0_0 13))) (Int.tmod (wrap64 (rd l0_2 (ji26))) (wrap64 (Int.tmod a0_0 13))) a0_0 a0_1 l0_2 (wrap64 (Int.tmod a0_0 13)) x259001_1))) else (if x259001_1.length < 8796093022208 then (wireloomref05_Made.l0 kj9 (wrap64 (Int.tmod a0_0 13)) (wrap64 (x5_1 + 2)) a0_0 a0_1 l0_2 (wrap64 (Int.tmod a0_0 13)) (x259001_1 ++ [(⟨Int.tmod (wrap64 (rd l0_2 x5_1)) (wrap64 (Int.tmod a0_0 13)), Int.tmod (wrap64 (rd l0_2 (ji26))) (wrap64 (Int.tmod a0_0 13))⟩ : S55)])) else (none))) else (none)) else (none)) = some (r1, r2) := by first | (rw [hji26] at H; exact H) | (simp only [hji26] at H ⊢; exact H)
       have hji26w : (IntKind.i64.wrap (x5_1 + 1)) = ji26 := (i64_w _).trans hji26
       by_cases c27 : 0 ≤ (ji26)
       rotate_left
       ·rw [if_neg c27] at H
        exact absurd H (by simp)
       rw [if_pos c27] at H
       have c27b0 : decide (0 ≤ (ji26)) = true := decide_eq_true c27
       clear c27
       by_cases c28 : (ji26) < (l0_2.length : Int)
       rotate_left
       ·rw [if_neg c28] at H
        exact absurd H (by simp)
       rw [if_pos c28] at H
       have c28b0 : decide ((ji26) < (l0_2.length : Int)) = true := decide_eq_true c28
       clear c28
       by_cases c29 : (Int.tmod a0_1 2) = 0
       ·rw [if_pos c29] at H
        have c29b0 : ((Int.tmod a0_1 2) == 0) = true := beq_iff_eq.mpr c29
        have c29b1 : ((Int.tmod a0_1 2) != 0) = false := bne_eq_false_iff_eq.mpr c29
        clear c29
        by_cases c30 : (Int.tmod (wrap64 (rd l0_2 x5_1)) (wrap64 (Int.tmod a0_0 13))) = (Int.tmod (wrap64 (rd l0_2 (ji26))) (wrap64 (Int.tmod a0_0 13)))
        ·rw [if_pos c30] at H
         have c30b0 : ((Int.tmod (wrap64 (rd l0_2 x5_1)) (wrap64 (Int.tmod a0_0 13))) == (Int.tmod (wrap64 (rd l0_2 (ji26))) (wrap64 (Int.tmod a0_0 13)))) = true := beq_iff_eq.mpr c30
         have c30b1 : ((Int.tmod (wrap64 (rd l0_2 x5_1)) (wrap64 (Int.tmod a0_0 13))) != (Int.tmod (wrap64 (rd l0_2 (ji26))) (wrap64 (Int.tmod a0_0 13)))) = false := bne_eq_false_iff_eq.mpr c30
         clear c30
         have H' := Aside0.mk H
         clear H
         have hnb31 := NB256_257.out
         have hnc31 := NB257_256.out
         have hnb32 := NB256_258.out
         have hnc32 := NB258_256.out
         have hcz33_0 : wc.cell? ⟨gb256, 0, none⟩ = some (.int .u8 a0_0) := (blk_cell BK256.out 0).trans rfl
         have hcz33_1 : wc.cell? ⟨gb256, 1, none⟩ = some (.int .u8 a0_1) := (blk_cell BK256.out 1).trans rfl
         have hcz33_2 : wc.cell? ⟨gb256, 2, none⟩ = some (.slice A0_2 l0_2.length c0_2) := (blk_cell BK256.out 2).trans rfl
         have hfz33_0 := blk_frozen BK256.out 0
         have hfz33_1 := blk_frozen BK256.out 1
         have hfz33_2 := blk_frozen BK256.out 2
         have p259 : 0 ≤ (x5_1 : Int) := oD
         have q259 : x5_1 < (l0_2.length : Int) := oD
         obtain ⟨ad259, e259, hx259_0⟩ := Kd.at_int HR0_2.out x5_1 p259 q259
         cases e259
         (try (replace hx259_0 := hB HB.out hx259_0))
         replace p259 := eq_true p259
         replace q259 := eq_true q259
         have p260 : 0 ≤ ((ji26) : Int) := oD
         have q260 : (ji26) < (l0_2.length : Int) := oD
         obtain ⟨ad260, e260, hx260_0⟩ := Kd.at_int HR0_2.out (ji26) p260 q260
         obtain rfl : ad259 = ad260 := (by injection e260)
         (try (replace hx260_0 := hB HB.out hx260_0))
         replace p260 := eq_true p260
         replace q260 := eq_true q260
         go_wp2
         go_roundg kj9
         case measure => have := HK1.out; have := HJ9.out; omega
         case rel => exact ⟨(wrap64 (x5_1 + 2)), (x259001_1), (u259001), rS, H', ⟨by have := HK1.out; have := HJ9.out; omega⟩, ⟨rA HO_259001.out⟩, ⟨bA BK256.out⟩, ⟨bA BK257.out⟩, ⟨bA BK258.out⟩, ⟨wB3 HB.out GE256.out GE257.out GE258.out⟩⟩
        ·rw [if_neg c30] at H
         have c30b0 : ((Int.tmod (wrap64 (rd l0_2 x5_1)) (wrap64 (Int.tmod a0_0 13))) == (Int.tmod (wrap64 (rd l0_2 (ji26))) (wrap64 (Int.tmod a0_0 13)))) = false := beq_eq_false_iff_ne.mpr c30
         have c30b1 : ((Int.tmod (wrap64 (rd l0_2 x5_1)) (wrap64 (Int.tmod a0_0 13))) != (Int.tmod (wrap64 (rd l0_2 (ji26))) (wrap64 (Int.tmod a0_0 13)))) = true := bne_iff_ne.mpr c30
         have HC34 := Aside0.mk H
         clear H
         have hnb35 := NB256_257.out
         have hnc35 := NB257_256.out
         have hnb36 := NB256_258.out
         have hnc36 := NB258_256.out
         have hcz37_0 : wc.cell? ⟨gb256, 0, none⟩ = some (.int .u8 a0_0) := (blk_cell BK256.out 0).trans rfl
         have hcz37_1 : wc.cell? ⟨gb256, 1, none⟩ = some (.int .u8 a0_1) := (blk_cell BK256.out 1).trans rfl
         have hcz37_2 : wc.cell? ⟨gb256, 2, none⟩ = some (.slice A0_2 l0_2.length c0_2) := (blk_cell BK256.out 2).trans rfl
         have hfz37_0 := blk_frozen BK256.out 0
         have hfz37_1 := blk_frozen BK256.out 1
         have hfz37_2 := blk_frozen BK256.out 2
         have p259 : 0 ≤ (x5_1 : Int) := oD
         have q259 : x5_1 < (l0_2.length : Int) := oD
         obtain ⟨ad259, e259, hx259_0⟩ := Kd.at_int HR0_2.out x5_1 p259 q259
         cases e259
         (try (replace hx259_0 := hB HB.out hx259_0))
         replace p259 := eq_true p259
         replace q259 := eq_true q259
         have p260 : 0 ≤ ((ji26) : Int) := oD
         have q260 : (ji26) < (l0_2.length : Int) := oD
         obtain ⟨ad260, e260, hx260_0⟩ := Kd.at_int HR0_2.out (ji26) p260 q260
         obtain rfl : ad259 = ad260 := (by injection e260)
         (try (replace hx260_0 := hB HB.out hx260_0))
         replace p260 := eq_true p260
         replace q260 := eq_true q260
         go_upto_if 56 with (fail)
         go_cut [6, 7] (fun v6 v7 wc => ∃ (kq : Nat) (x6_33 : Int) (x7_33 : Int), v6 = .int .i64 x6_33 ∧ v7 = .int .i64 x7_33 ∧ Aside0 (wireloomref05_Made.j2 kq (wrap64 (Int.tmod a0_0 13)) x5_1 x6_33 x7_33 a0_0 a0_1 l0_2 (wrap64 (Int.tmod a0_0 13)) x259001_1 = some (r1, r2)) ∧ Aside0 (kq ≤ kj9) ∧ Aside0 (Kd.R k55 55 wc w.heap.size (fun _ => True) u259001 x259001_1) ∧ Aside0 (wc.heap[gb256]? = some (.cells #[.int .u8 a0_0, .int .u8 a0_1, (.slice (some ad259) l0_2.length c0_2)] 24 (0, 0))) ∧ Aside0 (wc.heap[gb257]? = some (.cells #[.int .i64 0, (.slice none 0 0)] 31 (0, 0))) ∧ Aside0 (wc.heap[gb258]? = some (.cells #[.int .i64 (wrap64 (Int.tmod a0_0 13)), u259001] 31 (0, 0))) ∧ Aside0 (Below w.heap.size w wc))
         case first =>
          have H := HC34.out
          clear HC34
          by_cases c38 : (Int.tmod (wrap64 (rd l0_2 x5_1)) (wrap64 (Int.tmod a0_0 13))) > (Int.tmod (wrap64 (rd l0_2 (ji26))) (wrap64 (Int.tmod a0_0 13)))
          ·rw [if_pos c38] at H
           have c38b0 : decide ((Int.tmod (wrap64 (rd l0_2 (ji26))) (wrap64 (Int.tmod a0_0 13))) < (Int.tmod (wrap64 (rd l0_2 x5_1)) (wrap64 (Int.tmod a0_0 13)))) = true := decide_eq_true c38
           clear c38
           (first | rw [c38b0] | (simp only [i64_w, i32_w]; rw [c38b0]) | skip)
           have H' := Aside0.mk H
           clear H
           go_wp2
           go_meet
           case rel => exact ⟨_, (Int.tmod (wrap64 (rd l0_2 (ji26))) (wrap64 (Int.tmod a0_0 13))), (Int.tmod (wrap64 (rd l0_2 x5_1)) (wrap64 (Int.tmod a0_0 13))), (by first | rfl | (simp; done) | (simp only [← hji26] <;> (first | rfl | simp)) | (simp [*]; done)), rS, H', ⟨by have := HK1.out; have := HJ9.out; first | omega | exact Nat.le_refl _⟩, ⟨rA HO_259001.out⟩, ⟨bA BK256.out⟩, ⟨bA BK257.out⟩, ⟨bA BK258.out⟩, ⟨wB3 HB.out GE256.out GE257.out GE258.out⟩⟩
          ·rw [if_neg c38] at H
           have c38b0 : decide ((Int.tmod (wrap64 (rd l0_2 (ji26))) (wrap64 (Int.tmod a0_0 13))) < (Int.tmod (wrap64 (rd l0_2 x5_1)) (wrap64 (Int.tmod a0_0 13)))) = false := decide_eq_false c38
           clear c38
           (first | rw [c38b0] | (simp only [i64_w, i32_w]; rw [c38b0]) | skip)
           have H' := Aside0.mk H
           clear H
           go_wp2
           go_meet
           case rel => exact ⟨_, (Int.tmod (wrap64 (rd l0_2 x5_1)) (wrap64 (Int.tmod a0_0 13))), (Int.tmod (wrap64 (rd l0_2 (ji26))) (wrap64 (Int.tmod a0_0 13))), rS, (by first | rfl | (simp; done) | (simp only [← hji26] <;> (first | rfl | simp)) | (simp [*]; done)), H', ⟨by have := HK1.out; have := HJ9.out; first | omega | exact Nat.le_refl _⟩, ⟨rA HO_259001.out⟩, ⟨bA BK256.out⟩, ⟨bA BK257.out⟩, ⟨bA BK258.out⟩, ⟨wB3 HB.out GE256.out GE257.out GE258.out⟩⟩
         case rest =>
          clear HC34
          try clear c1; try clear c2; try clear p2; try clear q2; try clear hx2; try clear c3; try clear c4; try clear p6; try clear c7; try clear c8; try clear c11; try clear c11b0; try clear c12; try clear c12b0; try clear c13; try clear c14; try clear c16; try clear c17; try clear c19; try clear c20; try clear c22; try clear c23; try clear c23b0; try clear c24; try clear c24b0; try clear c25; try clear c25b0; try clear c25b1; try clear p25; try clear q25; try clear hx25; try clear p26; try clear q26; try clear hx26; try clear c27; try clear c27b0; try clear c28; try clear c28b0; try clear c29; try clear c29b0
          try clear c29b1; try clear c30; try clear c30b0; try clear c30b1; try clear c31; try clear c32; try clear c35; try clear c36; try clear c38; try clear c38b0; try clear hcz15_0; try clear hcz15_1; try clear hcz15_2; try clear hcz18_0; try clear hcz18_1; try clear hcz18_2; try clear hcz21_0; try clear hcz21_1; try clear hcz21_2; try clear hcz33_0; try clear hcz33_1; try clear hcz33_2; try clear hcz37_0; try clear hcz37_1; try clear hcz37_2; try clear hcz5_0; try clear hcz5_1; try clear hcz5_2; try clear hcz9_0; try clear hcz9_1; try clear hfz15_0; try clear hfz15_1; try clear hfz15_2; try clear hfz18_0; try clear hfz18_1; try clear hfz18_2; try clear hfz21_0; try clear hfz21_1; try clear hfz21_2; try clear hfz33_0
          try clear hfz33_1; try clear hfz33_2; try clear hfz37_0; try clear hfz37_1; try clear hfz37_2; try clear hfz5_0; try clear hfz5_1; try clear hfz5_2; try clear hfz9_0; try clear hfz9_1; try clear hx259_0; try clear hx260_0; try clear p2; try clear p259; try clear p260; try clear p6; try clear q259; try clear q260
          obtain ⟨kq, x6_33, x7_33, rfl, rfl, HA, HJ33, HO_259001, BK256, BK257, BK258, HB⟩ := hcut
          cases kq with
          | zero => exact absurd HA.out (by simp [wireloomref05_Made.j2])
          | succ kj33 =>
           have H := HA.out
           clear HA
           simp only [wireloomref05_Made.j2] at H
           by_cases c39 : (Int.tmod a0_1 4) = 2
           ·rw [if_pos c39] at H
            have c39b0 : ((Int.tmod a0_1 4) == 2) = true := beq_iff_eq.mpr c39
            have c39b1 : ((Int.tmod a0_1 4) != 2) = false := bne_eq_false_iff_eq.mpr c39
            clear c39
            by_cases c40 : (wrap64 (Int.tmod a0_0 13)) = 0
            ·rw [if_pos c40] at H
             exact absurd H (by simp)
            ·rw [if_neg c40] at H
             have c40b0 : ((wrap64 (Int.tmod a0_0 13)) == 0) = false := beq_eq_false_iff_ne.mpr c40
             have c40b1 : ((wrap64 (Int.tmod a0_0 13)) != 0) = true := bne_iff_ne.mpr c40
             by_cases c41 : (Int.tmod (wrap64 (Int.tmod a0_0 13)) 5) = 0
             ·rw [if_pos c41] at H
              have c41b0 : ((Int.tmod (wrap64 (Int.tmod a0_0 13)) 5) == 0) = true := beq_iff_eq.mpr c41
              have c41b1 : ((Int.tmod (wrap64 (Int.tmod a0_0 13)) 5) != 0) = false := bne_eq_false_iff_eq.mpr c41
              clear c41
              have H' := Aside0.mk H
              clear H
              have hnb42 := NB256_257.out
              have hnc42 := NB257_256.out
              have hnb43 := NB256_258.out
              have hnc43 := NB258_256.out
              have hcz44_0 : wc.cell? ⟨gb256, 0, none⟩ = some (.int .u8 a0_0) := (blk_cell BK256.out 0).trans rfl
              have hcz44_1 : wc.cell? ⟨gb256, 1, none⟩ = some (.int .u8 a0_1) := (blk_cell BK256.out 1).trans rfl
              have hcz44_2 : wc.cell? ⟨gb256, 2, none⟩ = some (.slice (some ad259) l0_2.length c0_2) := (blk_cell BK256.out 2).trans rfl
              have hfz44_0 := blk_frozen BK256.out 0
              have hfz44_1 := blk_frozen BK256.out 1
              have hfz44_2 := blk_frozen BK256.out 2
              go_wp2
              go_roundg kj33
              case measure => have := HK1.out; have := HJ9.out; have := HJ33.out; omega
              case rel => exact ⟨(wrap64 (x5_1 + 2)), (x259001_1), (u259001), rS, H', ⟨by have := HK1.out; have := HJ9.out; have := HJ33.out; omega⟩, ⟨rA HO_259001.out⟩, ⟨bA BK256.out⟩, ⟨bA BK257.out⟩, ⟨bA BK258.out⟩, ⟨wB3 HB.out GE256.out GE257.out GE258.out⟩⟩
             ·rw [if_neg c41] at H
              have c41b0 : ((Int.tmod (wrap64 (Int.tmod a0_0 13)) 5) == 0) = false := beq_eq_false_iff_ne.mpr c41
              have c41b1 : ((Int.tmod (wrap64 (Int.tmod a0_0 13)) 5) != 0) = true := bne_iff_ne.mpr c41
              by_cases c45 : x259001_1.length < 8796093022208
              rotate_left
              ·rw [if_neg c45] at H
               exact absurd H (by simp)
              rw [if_pos c45] at H
              have LMc45 := Aside0.mk c45
              clear c45
              obtain ⟨y261, hy261⟩ : ∃ y_ : List (S55), y_ = (x259001_1 ++ [(⟨Int.tmod (wrap64 ((wrap64 (5 * x6_33)) + 3)) (wrap64 (Int.tmod a0_0 13)), Int.tmod (wrap64 ((wrap64 (5 * x7_33)) + 3)) (wrap64 (Int.tmod a0_0 13))⟩ : S55)]) := ⟨_, rfl⟩
              replace H : (wireloomref05_Made.l0 kj33 (wrap64 (Int.tmod a0_0 13)) (wrap64 (x5_1 + 2)) a0_0 a0_1 l0_2 (wrap64 (Int.tmod a0_0 13)) y261) = some (r1, r2) := by first | (rw [hy261]; with_reducible exact H) | (have H2_ := (Option.bind_some _ _).symm.trans H; rw [hy261]; with_reducible exact H2_) | (have H2_ := (Option.bind_some _ _).symm.trans H; with_reducible exact H2_) | with_reducible exact H | (rw [hy261]; exact H) | exact H
              have Ny261 := Aside0.mk hy261
              clear hy261
              have H' := Aside0.mk H
              clear H
              have hnb46 := NB256_257.out
              have hnc46 := NB257_256.out
              have hnb47 := NB256_258.out
              have hnc47 := NB258_256.out
              have hcz48_0 : wc.cell? ⟨gb256, 0, none⟩ = some (.int .u8 a0_0) := (blk_cell BK256.out 0).trans rfl
              have hcz48_1 : wc.cell? ⟨gb256, 1, none⟩ = some (.int .u8 a0_1) := (blk_cell BK256.out 1).trans rfl
              have hcz48_2 : wc.cell? ⟨gb256, 2, none⟩ = some (.slice (some ad259) l0_2.length c0_2) := (blk_cell BK256.out 2).trans rfl
              have hfz48_0 := blk_frozen BK256.out 0
              have hfz48_1 := blk_frozen BK256.out 1
              have hfz48_2 := blk_frozen BK256.out 2
              have hnb49 := NB258_257.out
              have hnc49 := NB257_258.out
              have hcz50_0 : wc.cell? ⟨gb258, 0, none⟩ = some (.int .i64 (wrap64 (Int.tmod a0_0 13))) := (blk_cell BK258.out 0).trans rfl
              have hcz50_1 : wc.cell? ⟨gb258, 1, none⟩ = some (u259001) := (blk_cell BK258.out 1).trans rfl
              have hfz50_0 := blk_frozen BK258.out 0
              have hfz50_1 := blk_frozen BK258.out 1
              go_wp2_with (first | ((with_reducible refine gate_builtin (b := .append) (xs := #[.tmp 83, .tmp 87]) rfl ?_); at_builtin; refine Kd.R_append k55 (w0 := w) w.heap.size rfl (.tmp 83) (.tmp 87) 25 55 (.agg #[(.int .i64 0), (.int .i64 0)]) 16 rfl Try.underlying25 info55 rfl (by decide) (by omega) u259001 x259001_1 (⟨Int.tmod (wrap64 ((wrap64 (5 * x6_33)) + 3)) (wrap64 (Int.tmod a0_0 13)), Int.tmod (wrap64 ((wrap64 (5 * x7_33)) + 3)) (wrap64 (Int.tmod a0_0 13))⟩ : S55) [.int .i64 (Int.tmod (wrap64 ((wrap64 (5 * x6_33)) + 3)) (wrap64 (Int.tmod a0_0 13))), .int .i64 (Int.tmod (wrap64 ((wrap64 (5 * x7_33)) + 3)) (wrap64 (Int.tmod a0_0 13)))] (fun _ => True) (fun _ => False) rfl rfl ?aP (fun _ hk => hk.elim) ?aF ?aO ?aB ?aS ?aL ?_; (case aP => exact k55_mkM _ _ _ (⟨Int.tmod (wrap64 ((wrap64 (5 * x6_33)) + 3)) (wrap64 (Int.tmod a0_0 13)), Int.tmod (wrap64 ((wrap64 (5 * x7_33)) + 3)) (wrap64 (Int.tmod a0_0 13))⟩ : S55)); (case aB => exact (wB3 HB.out GE256.out GE257.out GE258.out)); (case aF => exact (fun _ _ => trivial)); (case aO => exact (rA HO_259001.out)); (case aS => exact (below_size (wB3 HB.out GE256.out GE257.out GE258.out))); (case aL => have := LMc45.out; omega); intro v262 w51 ho hb hg hat; rw [← Ny261.out] at ho; replace BK256 := Aside0.mk (blk_grown (g := gb256) (o := .cells #[.int .u8 a0_0, .int .u8 a0_1, .slice (some ad259) l0_2.length c0_2] 24 (0, 0)) (bA BK256.out) hg (Kd.R_ne HO_259001.out BK256.out (by decide))); replace BK257 := Aside0.mk (blk_grown (g := gb257) (o := .cells #[.int .i64 0, .slice none 0 0] 31 (0, 0)) (bA BK257.out) hg (Kd.R_ne HO_259001.out BK257.out (by decide))); replace BK258 := Aside0.mk (blk_grown (g := gb258) (o := .cells #[.int .i64 (wrap64 (Int.tmod a0_0 13)), u259001] 31 (0, 0)) (bA BK258.out) hg (Kd.R_ne HO_259001.out BK258.out (by decide))); replace HB := Aside0.mk (hb); have HO263 := Aside0.mk (ho); clear HO_259001; clear ho hb hg hat; obtain ⟨Ao52, co52, eo52⟩ := Kd.R_slice HO263.out; subst eo52; have hcz53_0 : w51.cell? ⟨gb258, 0, none⟩ = some (.int .i64 (wrap64 (Int.tmod a0_0 13))) := (blk_cell BK258.out 0).trans rfl; have hcz53_1 : w51.cell? ⟨gb258, 1, none⟩ = some (u259001) := (blk_cell BK258.out 1).trans rfl; have hfz53_0 := blk_frozen BK258.out 0; have hfz53_1 := blk_frozen BK258.out 1))
              go_roundg kj33
              case measure => have := HK1.out; have := HJ9.out; have := HJ33.out; omega
              case rel => exact ⟨(wrap64 (x5_1 + 2)), (y261), (.slice Ao52 y261.length co52), rS, H', ⟨by have := HK1.out; have := HJ9.out; have := HJ33.out; omega⟩, ⟨by (with_reducible repeat (first | apply Kd.R_alloc | apply Kd.R_drewN | apply Kd.R_drew)); exact Kd.R_mono (Kd.R_far (p := ⟨gb258, 1, none⟩) (Kd.R_types HO263.out BK258.out (by decide)) (fun _ hk => hk.2) (.slice Ao52 y261.length co52)) (fun _ hk => trivial)⟩, ⟨by (with_reducible repeat (first | refine blk_drewN ?_ _ | refine blk_drew ?_ | refine blk_alloc ?_ _)); refine blk_far ?_ NB256_258.out _; (with_reducible repeat (first | refine blk_drewN ?_ _ | refine blk_drew ?_ | refine blk_alloc ?_ _)); exact BK256.out⟩, ⟨by (with_reducible repeat (first | refine blk_drewN ?_ _ | refine blk_drew ?_ | refine blk_alloc ?_ _)); refine blk_far ?_ NB257_258.out _; (with_reducible repeat (first | refine blk_drewN ?_ _ | refine blk_drew ?_ | refine blk_alloc ?_ _)); exact BK257.out⟩, ⟨by (with_reducible repeat (first | refine blk_drewN ?_ _ | refine blk_drew ?_ | refine blk_alloc ?_ _)); refine blk_put (cs := #[.int .i64 (wrap64 (Int.tmod a0_0 13)), u259001]) ?_ 1 _ rfl; (with_reducible repeat (first | refine blk_drewN ?_ _ | refine blk_drew ?_ | refine blk_alloc ?_ _)); exact BK258.out⟩, ⟨wB3 HB.out GE256.out GE257.out GE258.out⟩⟩
           ·rw [if_neg c39] at H
            have c39b0 : ((Int.tmod a0_1 4) == 2) = false := beq_eq_false_iff_ne.mpr c39
            have c39b1 : ((Int.tmod a0_1 4) != 2) = true := bne_iff_ne.mpr c39
            by_cases c54 : (Int.tmod (wrap64 (Int.tmod a0_0 13)) 5) = 0
            ·rw [if_pos c54] at H
             have c54b0 : ((Int.tmod (wrap64 (Int.tmod a0_0 13)) 5) == 0) = true := beq_iff_eq.mpr c54
             have c54b1 : ((Int.tmod (wrap64 (Int.tmod a0_0 13)) 5) != 0) = false := bne_eq_false_iff_eq.mpr c54
             clear c54
             by_cases c55 : x259001_1.length < 8796093022208
             rotate_left
             ·rw [if_neg c55] at H
              exact absurd H (by simp)
             rw [if_pos c55] at H
             have LMc55 := Aside0.mk c55
             clear c55
             obtain ⟨y264, hy264⟩ : ∃ y_ : List (S55), y_ = (x259001_1 ++ [(⟨x6_33, x7_33⟩ : S55)]) := ⟨_, rfl⟩
             replace H : (wireloomref05_Made.l0 kj33 (wrap64 (Int.tmod a0_0 13)) (wrap64 (x5_1 + 2)) a0_0 a0_1 l0_2 (wrap64 (Int.tmod a0_0 13)) y264) = some (r1, r2) := by first | (rw [hy264]; with_reducible exact H) | (have H2_ := (Option.bind_some _ _).symm.trans H; rw [hy264]; with_reducible exact H2_) | (have H2_ := (Option.bind_some _ _).symm.trans H; with_reducible exact H2_) | with_reducible exact H | (rw [hy264]; exact H) | exact H
             have Ny264 := Aside0.mk hy264
             clear hy264
             have H' := Aside0.mk H
             clear H
             have hnb56 := NB256_257.out
             have hnc56 := NB257_256.out
             have hnb57 := NB256_258.out
             have hnc57 := NB258_256.out
             have hcz58_0 : wc.cell? ⟨gb256, 0, none⟩ = some (.int .u8 a0_0) := (blk_cell BK256.out 0).trans rfl
             have hcz58_1 : wc.cell? ⟨gb256, 1, none⟩ = some (.int .u8 a0_1) := (blk_cell BK256.out 1).trans rfl
             have hcz58_2 : wc.cell? ⟨gb256, 2, none⟩ = some (.slice (some ad259) l0_2.length c0_2) := (blk_cell BK256.out 2).trans rfl
             have hfz58_0 := blk_frozen BK256.out 0
             have hfz58_1 := blk_frozen BK256.out 1
             have hfz58_2 := blk_frozen BK256.out 2
             have hnb59 := NB258_257.out
             have hnc59 := NB257_258.out
             have hcz60_0 : wc.cell? ⟨gb258, 0, none⟩ = some (.int .i64 (wrap64 (Int.tmod a0_0 13))) := (blk_cell BK258.out 0).trans rfl
             have hcz60_1 : wc.cell? ⟨gb258, 1, none⟩ = some (u259001) := (blk_cell BK258.out 1).trans rfl
             have hfz60_0 := blk_frozen BK258.out 0
             have hfz60_1 := blk_frozen BK258.out 1
             go_wp2_with (first | ((with_reducible refine gate_builtin (b := .append) (xs := #[.tmp 83, .tmp 87]) rfl ?_); at_builtin; refine Kd.R_append k55 (w0 := w) w.heap.size rfl (.tmp 83) (.tmp 87) 25 55 (.agg #[(.int .i64 0), (.int .i64 0)]) 16 rfl Try.underlying25 info55 rfl (by decide) (by omega) u259001 x259001_1 (⟨x6_33, x7_33⟩ : S55) [.int .i64 x6_33, .int .i64 x7_33] (fun _ => True) (fun _ => False) rfl rfl ?aP (fun _ hk => hk.elim) ?aF ?aO ?aB ?aS ?aL ?_; (case aP => exact k55_mkM _ _ _ (⟨x6_33, x7_33⟩ : S55)); (case aB => exact (wB3 HB.out GE256.out GE257.out GE258.out)); (case aF => exact (fun _ _ => trivial)); (case aO => exact (rA HO_259001.out)); (case aS => exact (below_size (wB3 HB.out GE256.out GE257.out GE258.out))); (case aL => have := LMc55.out; omega); intro v265 w61 ho hb hg hat; rw [← Ny264.out] at ho; replace BK256 := Aside0.mk (blk_grown (g := gb256) (o := .cells #[.int .u8 a0_0, .int .u8 a0_1, .slice (some ad259) l0_2.length c0_2] 24 (0, 0)) (bA BK256.out) hg (Kd.R_ne HO_259001.out BK256.out (by decide))); replace BK257 := Aside0.mk (blk_grown (g := gb257) (o := .cells #[.int .i64 0, .slice none 0 0] 31 (0, 0)) (bA BK257.out) hg (Kd.R_ne HO_259001.out BK257.out (by decide))); replace BK258 := Aside0.mk (blk_grown (g := gb258) (o := .cells #[.int .i64 (wrap64 (Int.tmod a0_0 13)), u259001] 31 (0, 0)) (bA BK258.out) hg (Kd.R_ne HO_259001.out BK258.out (by decide))); replace HB := Aside0.mk (hb); have HO266 := Aside0.mk (ho); clear HO_259001; clear ho hb hg hat; obtain ⟨Ao62, co62, eo62⟩ := Kd.R_slice HO266.out; subst eo62; have hcz63_0 : w61.cell? ⟨gb258, 0, none⟩ = some (.int .i64 (wrap64 (Int.tmod a0_0 13))) := (blk_cell BK258.out 0).trans rfl; have hcz63_1 : w61.cell? ⟨gb258, 1, none⟩ = some (u259001) := (blk_cell BK258.out 1).trans rfl; have hfz63_0 := blk_frozen BK258.out 0; have hfz63_1 := blk_frozen BK258.out 1))
             go_roundg kj33
             case measure => have := HK1.out; have := HJ9.out; have := HJ33.out; omega
             case rel => exact ⟨(wrap64 (x5_1 + 2)), (y264), (.slice Ao62 y264.length co62), rS, H', ⟨by have := HK1.out; have := HJ9.out; have := HJ33.out; omega⟩, ⟨by (with_reducible repeat (first | apply Kd.R_alloc | apply Kd.R_drewN | apply Kd.R_drew)); exact Kd.R_mono (Kd.R_far (p := ⟨gb258, 1, none⟩) (Kd.R_types HO266.out BK258.out (by decide)) (fun _ hk => hk.2) (.slice Ao62 y264.length co62)) (fun _ hk => trivial)⟩, ⟨by (with_reducible repeat (first | refine blk_drewN ?_ _ | refine blk_drew ?_ | refine blk_alloc ?_ _)); refine blk_far ?_ NB256_258.out _; (with_reducible repeat (first | refine blk_drewN ?_ _ | refine blk_drew ?_ | refine blk_alloc ?_ _)); exact BK256.out⟩, ⟨by (with_reducible repeat (first | refine blk_drewN ?_ _ | refine blk_drew ?_ | refine blk_alloc ?_ _)); refine blk_far ?_ NB257_258.out _; (with_reducible repeat (first | refine blk_drewN ?_ _ | refine blk_drew ?_ | refine blk_alloc ?_ _)); exact BK257.out⟩, ⟨by (with_reducible repeat (first | refine blk_drewN ?_ _ | refine blk_drew ?_ | refine blk_alloc ?_ _)); refine blk_put (cs := #[.int .i64 (wrap64 (Int.tmod a0_0 13)), u259001]) ?_ 1 _ rfl; (with_reducible repeat (first | refine blk_drewN ?_ _ | refine blk_drew ?_ | refine blk_alloc ?_ _)); exact BK258.out⟩, ⟨wB3 HB.out GE256.out GE257.out GE258.out⟩⟩
            ·rw [if_neg c54] at H
             have c54b0 : ((Int.tmod (wrap64 (Int.tmod a0_0 13)) 5) == 0) = false := beq_eq_false_iff_ne.mpr c54
             have c54b1 : ((Int.tmod (wrap64 (Int.tmod a0_0 13)) 5) != 0) = true := bne_iff_ne.mpr c54
             by_cases c64 : x259001_1.length < 8796093022208
             rotate_left
             ·rw [if_neg c64] at H
              exact absurd H (by simp)
             rw [if_pos c64] at H
             have LMc64 := Aside0.mk c64
             clear c64
             obtain ⟨y267, hy267⟩ : ∃ y_ : List (S55), y_ = (x259001_1 ++ [(⟨x6_33, x7_33⟩ : S55)]) := ⟨_, rfl⟩
             replace H : (wireloomref05_Made.l0 kj33 (wrap64 (Int.tmod a0_0 13)) (wrap64 (x5_1 + 2)) a0_0 a0_1 l0_2 (wrap64 (Int.tmod a0_0 13)) y267) = some (r1, r2) := by first | (rw [hy267]; with_reducible exact H) | (have H2_ := (Option.bind_some _ _).symm.trans H; rw [hy267]; with_reducible exact H2_) | (have H2_ := (Option.bind_some _ _).symm.trans H; with_reducible exact H2_) | with_reducible exact H | (rw [hy267]; exact H) | exact H
             have Ny267 := Aside0.mk hy267
             clear hy267
             have H' := Aside0.mk H
             clear H
             have hnb65 := NB256_257.out
             have hnc65 := NB257_256.out
             have hnb66 := NB256_258.out
             have hnc66 := NB258_256.out
             have hcz67_0 : wc.cell? ⟨gb256, 0, none⟩ = some (.int .u8 a0_0) := (blk_cell BK256.out 0).trans rfl
             have hcz67_1 : wc.cell? ⟨gb256, 1, none⟩ = some (.int .u8 a0_1) := (blk_cell BK256.out 1).trans rfl
             have hcz67_2 : wc.cell? ⟨gb256, 2, none⟩ = some (.slice (some ad259) l0_2.length c0_2) := (blk_cell BK256.out 2).trans rfl
             have hfz67_0 := blk_frozen BK256.out 0
             have hfz67_1 := blk_frozen BK256.out 1
             have hfz67_2 := blk_frozen BK256.out 2
             have hnb68 := NB258_257.out
             have hnc68 := NB257_258.out
             have hcz69_0 : wc.cell? ⟨gb258, 0, none⟩ = some (.int .i64 (wrap64 (Int.tmod a0_0 13))) := (blk_cell BK258.out 0).trans rfl
             have hcz69_1 : wc.cell? ⟨gb258, 1, none⟩ = some (u259001) := (blk_cell BK258.out 1).trans rfl
             have hfz69_0 := blk_frozen BK258.out 0
             have hfz69_1 := blk_frozen BK258.out 1
             go_wp2_with (first | ((with_reducible refine gate_builtin (b := .append) (xs := #[.tmp 83, .tmp 87]) rfl ?_); at_builtin; refine Kd.R_append k55 (w0 := w) w.heap.size rfl (.tmp 83) (.tmp 87) 25 55 (.agg #[(.int .i64 0), (.int .i64 0)]) 16 rfl Try.underlying25 info55 rfl (by decide) (by omega) u259001 x259001_1 (⟨x6_33, x7_33⟩ : S55) [.int .i64 x6_33, .int .i64 x7_33] (fun _ => True) (fun _ => False) rfl rfl ?aP (fun _ hk => hk.elim) ?aF ?aO ?aB ?aS ?aL ?_; (case aP => exact k55_mkM _ _ _ (⟨x6_33, x7_33⟩ : S55)); (case aB => exact (wB3 HB.out GE256.out GE257.out GE258.out)); (case aF => exact (fun _ _ => trivial)); (case aO => exact (rA HO_259001.out)); (case aS => exact (below_size (wB3 HB.out GE256.out GE257.out GE258.out))); (case aL => have := LMc64.out; omega); intro v268 w70 ho hb hg hat; rw [← Ny267.out] at ho; replace BK256 := Aside0.mk (blk_grown (g := gb256) (o := .cells #[.int .u8 a0_0, .int .u8 a0_1, .slice (some ad259) l0_2.length c0_2] 24 (0, 0)) (bA BK256.out) hg (Kd.R_ne HO_259001.out BK256.out (by decide))); replace BK257 := Aside0.mk (blk_grown (g := gb257) (o := .cells #[.int .i64 0, .slice none 0 0] 31 (0, 0)) (bA BK257.out) hg (Kd.R_ne HO_259001.out BK257.out (by decide))); replace BK258 := Aside0.mk (blk_grown (g := gb258) (o := .cells #[.int .i64 (wrap64 (Int.tmod a0_0 13)), u259001] 31 (0, 0)) (bA BK258.out) hg (Kd.R_ne HO_259001.out BK258.out (by decide))); replace HB := Aside0.mk (hb); have HO269 := Aside0.mk (ho); clear HO_259001; clear ho hb hg hat; obtain ⟨Ao71, co71, eo71⟩ := Kd.R_slice HO269.out; subst eo71; have hcz72_0 : w70.cell? ⟨gb258, 0, none⟩ = some (.int .i64 (wrap64 (Int.tmod a0_0 13))) := (blk_cell BK258.out 0).trans rfl; have hcz72_1 : w70.cell? ⟨gb258, 1, none⟩ = some (u259001) := (blk_cell BK258.out 1).trans rfl; have hfz72_0 := blk_frozen BK258.out 0; have hfz72_1 := blk_frozen BK258.out 1))
             go_roundg kj33
             case measure => have := HK1.out; have := HJ9.out; have := HJ33.out; omega
             case rel => exact ⟨(wrap64 (x5_1 + 2)), (y267), (.slice Ao71 y267.length co71), rS, H', ⟨by have := HK1.out; have := HJ9.out; have := HJ33.out; omega⟩, ⟨by (with_reducible repeat (first | apply Kd.R_alloc | apply Kd.R_drewN | apply Kd.R_drew)); exact Kd.R_mono (Kd.R_far (p := ⟨gb258, 1, none⟩) (Kd.R_types HO269.out BK258.out (by decide)) (fun _ hk => hk.2) (.slice Ao71 y267.length co71)) (fun _ hk => trivial)⟩, ⟨by (with_reducible repeat (first | refine blk_drewN ?_ _ | refine blk_drew ?_ | refine blk_alloc ?_ _)); refine blk_far ?_ NB256_258.out _; (with_reducible repeat (first | refine blk_drewN ?_ _ | refine blk_drew ?_ | refine blk_alloc ?_ _)); exact BK256.out⟩, ⟨by (with_reducible repeat (first | refine blk_drewN ?_ _ | refine blk_drew ?_ | refine blk_alloc ?_ _)); refine blk_far ?_ NB257_258.out _; (with_reducible repeat (first | refine blk_drewN ?_ _ | refine blk_drew ?_ | refine blk_alloc ?_ _)); exact BK257.out⟩, ⟨by (with_reducible repeat (first | refine blk_drewN ?_ _ | refine blk_drew ?_ | refine blk_alloc ?_ _)); refine blk_put (cs := #[.int .i64 (wrap64 (Int.tmod a0_0 13)), u259001]) ?_ 1 _ rfl; (with_reducible repeat (first | refine blk_drewN ?_ _ | refine blk_drew ?_ | refine blk_alloc ?_ _)); exact BK258.out⟩, ⟨wB3 HB.out GE256.out GE257.out GE258.out⟩⟩
       ·rw [if_neg c29] at H
        have c29b0 : ((Int.tmod a0_1 2) == 0) = false := beq_eq_false_iff_ne.mpr c29
        have c29b1 : ((Int.tmod a0_1 2) != 0) = true := bne_iff_ne.mpr c29
        by_cases c73 : x259001_1.length < 8796093022208
        rotate_left
        ·rw [if_neg c73] at H
         exact absurd H (by simp)
        rw [if_pos c73] at H
        have LMc73 := Aside0.mk c73
        clear c73
        obtain ⟨y270, hy270⟩ : ∃ y_ : List (S55), y_ = (x259001_1 ++ [(⟨Int.tmod (wrap64 (rd l0_2 x5_1)) (wrap64 (Int.tmod a0_0 13)), Int.tmod (wrap64 (rd l0_2 (ji26))) (wrap64 (Int.tmod a0_0 13))⟩ : S55)]) := ⟨_, rfl⟩
        replace H : (wireloomref05_Made.l0 kj9 (wrap64 (Int.tmod a0_0 13)) (wrap64 (x5_1 + 2)) a0_0 a0_1 l0_2 (wrap64 (Int.tmod a0_0 13)) y270) = some (r1, r2) := by first | (rw [hy270]; with_reducible exact H) | (have H2_ := (Option.bind_some _ _).symm.trans H; rw [hy270]; with_reducible exact H2_) | (have H2_ := (Option.bind_some _ _).symm.trans H; with_reducible exact H2_) | with_reducible exact H | (rw [hy270]; exact H) | exact H
        have Ny270 := Aside0.mk hy270
        clear hy270
        have H' := Aside0.mk H
        clear H
        have hnb74 := NB256_257.out
        have hnc74 := NB257_256.out
        have hnb75 := NB256_258.out
        have hnc75 := NB258_256.out
        have hcz76_0 : wc.cell? ⟨gb256, 0, none⟩ = some (.int .u8 a0_0) := (blk_cell BK256.out 0).trans rfl
        have hcz76_1 : wc.cell? ⟨gb256, 1, none⟩ = some (.int .u8 a0_1) := (blk_cell BK256.out 1).trans rfl
        have hcz76_2 : wc.cell? ⟨gb256, 2, none⟩ = some (.slice A0_2 l0_2.length c0_2) := (blk_cell BK256.out 2).trans rfl
        have hfz76_0 := blk_frozen BK256.out 0
        have hfz76_1 := blk_frozen BK256.out 1
        have hfz76_2 := blk_frozen BK256.out 2
        have p259 : 0 ≤ (x5_1 : Int) := oD
        have q259 : x5_1 < (l0_2.length : Int) := oD
        obtain ⟨ad259, e259, hx259_0⟩ := Kd.at_int HR0_2.out x5_1 p259 q259
        cases e259
        (try (replace hx259_0 := hB HB.out hx259_0))
        replace p259 := eq_true p259
        replace q259 := eq_true q259
        have p260 : 0 ≤ ((ji26) : Int) := oD
        have q260 : (ji26) < (l0_2.length : Int) := oD
        obtain ⟨ad260, e260, hx260_0⟩ := Kd.at_int HR0_2.out (ji26) p260 q260
        obtain rfl : ad259 = ad260 := (by injection e260)
        (try (replace hx260_0 := hB HB.out hx260_0))
        replace p260 := eq_true p260
        replace q260 := eq_true q260
        have hnb77 := NB258_257.out
        have hnc77 := NB257_258.out
        have hcz78_0 : wc.cell? ⟨gb258, 0, none⟩ = some (.int .i64 (wrap64 (Int.tmod a0_0 13))) := (blk_cell BK258.out 0).trans rfl
        have hcz78_1 : wc.cell? ⟨gb258, 1, none⟩ = some (u259001) := (blk_cell BK258.out 1).trans rfl
        have hfz78_0 := blk_frozen BK258.out 0
        have hfz78_1 := blk_frozen BK258.out 1
        go_wp2_with (first | ((with_reducible refine gate_builtin (b := .append) (xs := #[.tmp 83, .tmp 87]) rfl ?_); at_builtin; refine Kd.R_append k55 (w0 := w) w.heap.size rfl (.tmp 83) (.tmp 87) 25 55 (.agg #[(.int .i64 0), (.int .i64 0)]) 16 rfl Try.underlying25 info55 rfl (by decide) (by omega) u259001 x259001_1 (⟨Int.tmod (wrap64 (rd l0_2 x5_1)) (wrap64 (Int.tmod a0_0 13)), Int.tmod (wrap64 (rd l0_2 (ji26))) (wrap64 (Int.tmod a0_0 13))⟩ : S55) [.int .i64 (Int.tmod (wrap64 (rd l0_2 x5_1)) (wrap64 (Int.tmod a0_0 13))), .int .i64 (Int.tmod (wrap64 (rd l0_2 (ji26))) (wrap64 (Int.tmod a0_0 13)))] (fun _ => True) (fun _ => False) rfl rfl ?aP (fun _ hk => hk.elim) ?aF ?aO ?aB ?aS ?aL ?_; (case aP => exact k55_mkM _ _ _ (⟨Int.tmod (wrap64 (rd l0_2 x5_1)) (wrap64 (Int.tmod a0_0 13)), Int.tmod (wrap64 (rd l0_2 (ji26))) (wrap64 (Int.tmod a0_0 13))⟩ : S55)); (case aB => exact (wB3 HB.out GE256.out GE257.out GE258.out)); (case aF => exact (fun _ _ => trivial)); (case aO => exact (rA HO_259001.out)); (case aS => exact (below_size (wB3 HB.out GE256.out GE257.out GE258.out))); (case aL => have := LMc73.out; omega); intro v271 w79 ho hb hg hat; rw [← Ny270.out] at ho; replace BK256 := Aside0.mk (blk_grown (g := gb256) (o := .cells #[.int .u8 a0_0, .int .u8 a0_1, .slice (some ad259) l0_2.length c0_2] 24 (0, 0)) (bA BK256.out) hg (Kd.R_ne HO_259001.out BK256.out (by decide))); replace BK257 := Aside0.mk (blk_grown (g := gb257) (o := .cells #[.int .i64 0, .slice none 0 0] 31 (0, 0)) (bA BK257.out) hg (Kd.R_ne HO_259001.out BK257.out (by decide))); replace BK258 := Aside0.mk (blk_grown (g := gb258) (o := .cells #[.int .i64 (wrap64 (Int.tmod a0_0 13)), u259001] 31 (0, 0)) (bA BK258.out) hg (Kd.R_ne HO_259001.out BK258.out (by decide))); replace HB := Aside0.mk (hb); have HO272 := Aside0.mk (ho); clear HO_259001; clear ho hb hg hat; obtain ⟨Ao80, co80, eo80⟩ := Kd.R_slice HO272.out; subst eo80; have hcz81_0 : w79.cell? ⟨gb258, 0, none⟩ = some (.int .i64 (wrap64 (Int.tmod a0_0 13))) := (blk_cell BK258.out 0).trans rfl; have hcz81_1 : w79.cell? ⟨gb258, 1, none⟩ = some (u259001) := (blk_cell BK258.out 1).trans rfl; have hfz81_0 := blk_frozen BK258.out 0; have hfz81_1 := blk_frozen BK258.out 1))
        go_roundg kj9
        case measure => have := HK1.out; have := HJ9.out; omega
        case rel => exact ⟨(wrap64 (x5_1 + 2)), (y270), (.slice Ao80 y270.length co80), rS, H', ⟨by have := HK1.out; have := HJ9.out; omega⟩, ⟨by (with_reducible repeat (first | apply Kd.R_alloc | apply Kd.R_drewN | apply Kd.R_drew)); exact Kd.R_mono (Kd.R_far (p := ⟨gb258, 1, none⟩) (Kd.R_types HO272.out BK258.out (by decide)) (fun _ hk => hk.2) (.slice Ao80 y270.length co80)) (fun _ hk => trivial)⟩, ⟨by (with_reducible repeat (first | refine blk_drewN ?_ _ | refine blk_drew ?_ | refine blk_alloc ?_ _)); refine blk_far ?_ NB256_258.out _; (with_reducible repeat (first | refine blk_drewN ?_ _ | refine blk_drew ?_ | refine blk_alloc ?_ _)); exact BK256.out⟩, ⟨by (with_reducible repeat (first | refine blk_drewN ?_ _ | refine blk_drew ?_ | refine blk_alloc ?_ _)); refine blk_far ?_ NB257_258.out _; (with_reducible repeat (first | refine blk_drewN ?_ _ | refine blk_drew ?_ | refine blk_alloc ?_ _)); exact BK257.out⟩, ⟨by (with_reducible repeat (first | refine blk_drewN ?_ _ | refine blk_drew ?_ | refine blk_alloc ?_ _)); refine blk_put (cs := #[.int .i64 (wrap64 (Int.tmod a0_0 13)), u259001]) ?_ 1 _ rfl; (with_reducible repeat (first | refine blk_drewN ?_ _ | refine blk_drew ?_ | refine blk_alloc ?_ _)); exact BK258.out⟩, ⟨wB3 HB.out GE256.out GE257.out GE258.out⟩⟩
     ·replace c22 := Bool.eq_false_iff.mpr c22
      subst c22
      have H1 : (some ((wrap64 (Int.tmod a0_0 13)), x259001_1)) = some (r1, r2) := by rw [if_neg (show ¬ (false = true) by decide)] at H; exact H
      clear H
      have H := H1
      clear H1
      simp only [Option.some.injEq, Prod.mk.injEq] at H
      obtain ⟨rfl, rfl⟩ := H
      have hnb82 := NB258_256.out
      have hnc82 := NB256_258.out
      have hnb83 := NB258_257.out
      have hnc83 := NB257_258.out
      have hcz84_0 : wc.cell? ⟨gb258, 0, none⟩ = some (.int .i64 (wrap64 (Int.tmod a0_0 13))) := (blk_cell BK258.out 0).trans rfl
      have hcz84_1 : wc.cell? ⟨gb258, 1, none⟩ = some (u259001) := (blk_cell BK258.out 1).trans rfl
      have hfz84_0 := blk_frozen BK258.out 0
      have hfz84_1 := blk_frozen BK258.out 1
      have hnb85 := NB257_256.out
      have hnc85 := NB256_257.out
      have hcz86_0 : wc.cell? ⟨gb257, 0, none⟩ = some (.int .i64 0) := (blk_cell BK257.out 0).trans rfl
      have hcz86_1 : wc.cell? ⟨gb257, 1, none⟩ = some (.slice none 0 0) := (blk_cell BK257.out 1).trans rfl
      have hfz86_0 := blk_frozen BK257.out 0
      have hfz86_1 := blk_frozen BK257.out 1
      obtain ⟨Ao87, co87, eo87⟩ := Kd.R_slice HO_259001.out
      subst eo87
      go_wp2
      refine bodyPost_ret (results_cell_row rfl _ _ gb257 31 #[.int .i64 (wrap64 (Int.tmod a0_0 13)), .slice Ao87 x259001_1.length co87] (0, 0) _ rfl (by (with_reducible repeat (first | refine blk_drewN ?_ _ | refine blk_drew ?_ | refine blk_alloc ?_ _)); refine blk_put (cs := #[.int .i64 (wrap64 (Int.tmod a0_0 13)), .slice none 0 0]) ?_ 1 _ rfl; (with_reducible repeat (first | refine blk_drewN ?_ _ | refine blk_drew ?_ | refine blk_alloc ?_ _)); refine blk_put (cs := #[.int .i64 0, .slice none 0 0]) ?_ 0 _ rfl; (with_reducible repeat (first | refine blk_drewN ?_ _ | refine blk_drew ?_ | refine blk_alloc ?_ _)); exact BK257.out) Try.underlying31 rfl (by kernel_rfl)) rfl ?_
      exact ⟨_, eS, by (with_reducible repeat (first | apply Kd.R_alloc | apply Kd.R_drewN | apply Kd.R_drew)); exact Kd.R_mono (Kd.R_far (p := ⟨gb257, 1, none⟩) (Kd.R_far (p := ⟨gb257, 0, none⟩) (Kd.R_types HO_259001.out BK257.out (by decide)) (fun _ hk => hk.2) (.int .i64 (wrap64 (Int.tmod a0_0 13)))) (fun _ hk => hk.2) (.slice Ao87 x259001_1.length co87)) (fun _ hk => trivial), by repeat (first | (with_reducible first | exact HB.out | apply below_alloc | apply pw_below_drewN | apply below_drew1 | refine below_set ?_ GE256.out | refine below_set ?_ GE257.out | refine below_set ?_ GE258.out) | exact HB.out)⟩
end Go.Proofs.Ytlldjinejckbaaa.PD

end
section
namespace Go.Proofs.Ytlldjinejckbaaa.PD
open Go.RowKit Go.Proofs.YtlldjinejckbaaaW.PrintWords Go.Proofs.YtlldjinejckbaaaW.PrintLast Go.Proofs.YtlldjinejckbaaaW.PrintMore
attribute [local go_sem] max2_int min2_int max_two min_two max_three min_three max_four min_four
set_option linter.unusedVariables false
set_option linter.unusedSimpArgs false
def wireloomlaw05_edge.l0 : Nat → List (S55) → Int → Int → Int → Option (Bool)
 | 0, _, _, _, _ => none
 | k + 1, x0, x1, x2, x7 => if x7 < (x0.length : Int) then (if 0 ≤ x7 then (if ((rd_T55 x0 x7).f0) = x1 then (if ((rd_T55 x0 x7).f1) = x2 then (some true) else (wireloomlaw05_edge.l0 k x0 x1 x2 (wrap64 (x7 + 1)))) else (wireloomlaw05_edge.l0 k x0 x1 x2 (wrap64 (x7 + 1)))) else (none)) else (some false)
def wireloomlaw05_edge.f (k : Nat) (l0 : List (S55)) (a1 : Int) (a2 : Int) : Option (Bool) := wireloomlaw05_edge.l0 k l0 a1 a2 0
set_option maxHeartbeats 8000000 in
set_option maxRecDepth 100000 in
theorem wireloomlaw05_edge.calls (k : Nat) (A0 : Option Addr) (c0 : Nat) (l0 : List (S55)) (a1 : Int) (a2 : Int) (r : Bool) (w : World) (hr0 : Kd.C k55 w A0 l0.length l0) (hc0 : l0.length ≤ c0) (h : wireloomlaw05_edge.f k l0 a1 a2 = some r) :
  Calls Try.prog 29 #[.slice A0 l0.length c0, .int .i64 a1, .int .i64 a2] w fun e w' => e = .returned (.bool r) ∧ Drawn0 w w' := by
 have HR0 := Aside0.mk hr0
 have HC0 := Aside0.mk hc0
 clear hr0 hc0
 have H : (wireloomlaw05_edge.l0 k l0 a1 a2 0) = some r := h
 clear h
 have H' := Aside0.mk H
 clear H
 go_enter Try.func29, Try.ntmps29
 go_wp2
 go_loopg [7] k (fun kq v7 w' => ∃ (x7_1 : Int), v7 = .int .i64 x7_1 ∧ Aside0 (wireloomlaw05_edge.l0 kq l0 a1 a2 x7_1 = some r) ∧ Aside0 (kq ≤ k) ∧ Drawn0 w w')
 case atStart => exact ⟨(0), rS, H', ⟨Nat.le_refl _⟩, by repeat (first | exact Drawn0.refl _ | apply Drawn0.step)⟩
 case round =>
  clear H'
  try clear c2; try clear p2
  obtain ⟨x7_1, rfl, HA, HK1, ⟨m1, rfl⟩⟩ := hrel
  cases gk with
  | zero => exact absurd HA.out (by simp [wireloomlaw05_edge.l0])
  | succ k1 =>
   have H := HA.out
   clear HA
   simp only [wireloomlaw05_edge.l0] at H
   by_cases c4 : x7_1 < (l0.length : Int)
   ·rw [if_pos c4] at H
    have c4b0 : decide (x7_1 < (l0.length : Int)) = true := decide_eq_true c4
    clear c4
    by_cases c5 : 0 ≤ x7_1
    rotate_left
    ·rw [if_neg c5] at H
     exact absurd H (by simp)
    rw [if_pos c5] at H
    have c5b0 : decide (0 ≤ x7_1) = true := decide_eq_true c5
    clear c5
    by_cases c6 : ((rd_T55 l0 x7_1).f0) = a1
    ·rw [if_pos c6] at H
     have c6b0 : (((rd_T55 l0 x7_1).f0) == a1) = true := beq_iff_eq.mpr c6
     have c6b1 : (((rd_T55 l0 x7_1).f0) != a1) = false := bne_eq_false_iff_eq.mpr c6
     clear c6
     by_cases c7 : ((rd_T55 l0 x7_1).f1) = a2
     ·rw [if_pos c7] at H
      have c7b0 : (((rd_T55 l0 x7_1).f1) == a2) = true := beq_iff_eq.mpr c7
      have c7b1 : (((rd_T55 l0 x7_1).f1) != a2) = false := bne_eq_false_iff_eq.mpr c7
      clear c7
      obtain rfl := Option.some.inj H
      have p455 : 0 ≤ (x7_1 : Int) := oD
      have q455 : x7_1 < (l0.length : Int) := oD
      obtain ⟨ad455, e455, hx455_0, hx455_1⟩ := at_T55 HR0.out x7_1 p455 q455
      cases e455
      replace p455 := eq_true p455
      replace q455 := eq_true q455
      have p456 : 0 ≤ (x7_1 : Int) := oD
      have q456 : x7_1 < (l0.length : Int) := oD
      obtain ⟨ad456, e456, hx456_0, hx456_1⟩ := at_T55 HR0.out x7_1 p456 q456
      obtain rfl : ad455 = ad456 := (by injection e456)
      replace p456 := eq_true p456
      replace q456 := eq_true q456
      go_wp2
      go_ret
      exact ⟨by first | rfl | (simp; done) | (simp [*]; done), by repeat (first | exact Drawn0.refl _ | apply Drawn0.step)⟩
     ·rw [if_neg c7] at H
      have c7b0 : (((rd_T55 l0 x7_1).f1) == a2) = false := beq_eq_false_iff_ne.mpr c7
      have c7b1 : (((rd_T55 l0 x7_1).f1) != a2) = true := bne_iff_ne.mpr c7
      have H' := Aside0.mk H
      clear H
      have p455 : 0 ≤ (x7_1 : Int) := oD
      have q455 : x7_1 < (l0.length : Int) := oD
      obtain ⟨ad455, e455, hx455_0, hx455_1⟩ := at_T55 HR0.out x7_1 p455 q455
      cases e455
      replace p455 := eq_true p455
      replace q455 := eq_true q455
      have p456 : 0 ≤ (x7_1 : Int) := oD
      have q456 : x7_1 < (l0.length : Int) := oD
      obtain ⟨ad456, e456, hx456_0, hx456_1⟩ := at_T55 HR0.out x7_1 p456 q456
      obtain rfl : ad455 = ad456 := (by injection e456)
      replace p456 := eq_true p456
      replace q456 := eq_true q456
      go_wp2
      go_roundg k1
      case measure => have := HK1.out; omega
      case rel => exact ⟨(wrap64 (x7_1 + 1)), rS, H', ⟨by have := HK1.out; omega⟩, by repeat (first | exact Drawn0.refl _ | apply Drawn0.step)⟩
    ·rw [if_neg c6] at H
     have c6b0 : (((rd_T55 l0 x7_1).f0) == a1) = false := beq_eq_false_iff_ne.mpr c6
     have c6b1 : (((rd_T55 l0 x7_1).f0) != a1) = true := bne_iff_ne.mpr c6
     have H' := Aside0.mk H
     clear H
     have p455 : 0 ≤ (x7_1 : Int) := oD
     have q455 : x7_1 < (l0.length : Int) := oD
     obtain ⟨ad455, e455, hx455_0, hx455_1⟩ := at_T55 HR0.out x7_1 p455 q455
     cases e455
     replace p455 := eq_true p455
     replace q455 := eq_true q455
     go_wp2
     go_roundg k1
     case measure => have := HK1.out; omega
     case rel => exact ⟨(wrap64 (x7_1 + 1)), rS, H', ⟨by have := HK1.out; omega⟩, by repeat (first | exact Drawn0.refl _ | apply Drawn0.step)⟩
   ·rw [if_neg c4] at H
    have c4b0 : decide (x7_1 < (l0.length : Int)) = false := decide_eq_false c4
    clear c4
    obtain rfl := Option.some.inj H
    go_wp2
    go_ret
    exact ⟨by first | rfl | (simp; done) | (simp [*]; done), by repeat (first | exact Drawn0.refl _ | apply Drawn0.step)⟩
end Go.Proofs.Ytlldjinejckbaaa.PD

end
section
namespace Go.Proofs.Ytlldjinejckbaaa.PD
open Go.RowKit Go.Proofs.YtlldjinejckbaaaW.PrintWords Go.Proofs.YtlldjinejckbaaaW.PrintLast Go.Proofs.YtlldjinejckbaaaW.PrintMore
attribute [local go_sem] max2_int min2_int max_two min_two max_three min_three max_four min_four
set_option linter.unusedVariables false
set_option linter.unusedSimpArgs false
mutual
def wireloomlaw05_DigraphOrders.j0 : Nat → Int → Bool → Bool → Int → List (S55) → List Int → Int → Option (Bool)
 | 0, _, _, _, _, _, _, _ => none
 | k + 1, x1, x5, x50, x464000, x464001, x469000, x469001 => if x50 = true then (none) else (if x469001 = 0 then (if (x469000.length : Int) = x464000 then ((digraph_Check.f x464000 x464001 x469000).bind fun t474 => (if t474 = 0 then (wireloomlaw05_DigraphOrders.l0 k x1 x5 0 x464000 x464001 x469000 x469001) else (none))) else (none)) else (some x5))
def wireloomlaw05_DigraphOrders.l0 : Nat → Int → Bool → Int → Int → List (S55) → List Int → Int → Option (Bool)
 | 0, _, _, _, _, _, _, _ => none
 | k + 1, x1, x5, x9, x464000, x464001, x469000, x469001 => if x9 < x464000 then (wireloomlaw05_DigraphOrders.l1 k x1 x5 x9 (wrap64 (x9 + 1)) x464000 x464001 x469000 x469001) else (if x464000 < 2 then (some x5) else (if (wrap64 (x464000 - 1)) = 0 then (none) else ((some (([] : List Int) : List Int)).bind fun y480 => (if y480.length + x469000.length < 17592186044416 then ((some (y480 ++ x469000 : List Int)).bind fun y483 => (if 0 ≤ (wrap64 ((Int.tmod (wrap64 (x1)) (wrap64 (x464000 - 1))) + 1)) then (if (wrap64 ((Int.tmod (wrap64 (x1)) (wrap64 (x464000 - 1))) + 1)) < (y483.length : Int) then (if 0 ≤ (Int.tmod (wrap64 (x1)) (wrap64 (x464000 - 1))) then (if (Int.tmod (wrap64 (x1)) (wrap64 (x464000 - 1))) < (y483.length : Int) then ((digraph_Check.f x464000 x464001 ((y483.set ((Int.tmod (wrap64 (x1)) (wrap64 (x464000 - 1))) : Int).toNat (rd y483 (wrap64 ((Int.tmod (wrap64 (x1)) (wrap64 (x464000 - 1))) + 1)))).set ((wrap64 ((Int.tmod (wrap64 (x1)) (wrap64 (x464000 - 1))) + 1)) : Int).toNat (rd y483 (Int.tmod (wrap64 (x1)) (wrap64 (x464000 - 1)))))).bind fun t490 => (if (Int.tmod (wrap64 (x1)) (wrap64 (x464000 - 1))) < (x469000.length : Int) then (if (wrap64 ((Int.tmod (wrap64 (x1)) (wrap64 (x464000 - 1))) + 1)) < (x469000.length : Int) then ((wireloomlaw05_edge.f k x464001 (rd x469000 (Int.tmod (wrap64 (x1)) (wrap64 (x464000 - 1)))) (rd x469000 (wrap64 ((Int.tmod (wrap64 (x1)) (wrap64 (x464000 - 1))) + 1)))).bind fun t493 => (if ((t490 == 0) == (!t493)) = true then (if 1 ≤ (x469000.length : Int) then ((digraph_Check.f x464000 x464001 (x469000.drop 1)).bind fun t498 => (if t498 = 6 then (some x5) else (none))) else (none)) else (none))) else (none)) else (none))) else (none)) else (none)) else (none)) else (none))) else (none)))))
def wireloomlaw05_DigraphOrders.l1 : Nat → Int → Bool → Int → Int → Int → List (S55) → List Int → Int → Option (Bool)
 | 0, _, _, _, _, _, _, _, _ => none
 | k + 1, x1, x5, x9, x10, x464000, x464001, x469000, x469001 => if x10 < x464000 then (if 0 ≤ x10 then (if x10 < (x469000.length : Int) then (if 0 ≤ x9 then (if x9 < (x469000.length : Int) then (if (rd x469000 x10) > (rd x469000 x9) then (wireloomlaw05_DigraphOrders.l1 k x1 x5 x9 (wrap64 (x10 + 1)) x464000 x464001 x469000 x469001) else (wireloomlaw05_DigraphOrders.l2 k x1 x5 x9 x10 false x9 x464000 x464001 x469000 x469001)) else (none)) else (none)) else (none)) else (none)) else (wireloomlaw05_DigraphOrders.l0 k x1 x5 (wrap64 (x9 + 1)) x464000 x464001 x469000 x469001)
def wireloomlaw05_DigraphOrders.l2 : Nat → Int → Bool → Int → Int → Bool → Int → Int → List (S55) → List Int → Int → Option (Bool)
 | 0, _, _, _, _, _, _, _, _, _, _ => none
 | k + 1, x1, x5, x9, x10, x11, x12, x464000, x464001, x469000, x469001 => if x12 < x464000 then (if x11 = true then (wireloomlaw05_DigraphOrders.l2 k x1 x5 x9 x10 true (wrap64 (x12 + 1)) x464000 x464001 x469000 x469001) else (if 0 ≤ x12 then (if x12 < (x469000.length : Int) then (if 0 ≤ x10 then (if x10 < (x469000.length : Int) then ((wireloomlaw05_edge.f k x464001 (rd x469000 x12) (rd x469000 x10)).bind fun t479 => (wireloomlaw05_DigraphOrders.l2 k x1 x5 x9 x10 t479 (wrap64 (x12 + 1)) x464000 x464001 x469000 x469001)) else (none)) else (none)) else (none)) else (none))) else (if x11 = true then (wireloomlaw05_DigraphOrders.l1 k x1 x5 x9 (wrap64 (x10 + 1)) x464000 x464001 x469000 x469001) else (none))
end
def wireloomlaw05_DigraphOrders.f (k : Nat) (a0_0 : Int) (a0_1 : Int) (l0_2 : List Int) (a1 : Int) : Option (Bool) := (wireloomlaw05_examples.f k).bind fun t458 => (if t458 = true then ((wireloomref05_Made.f k a0_0 a0_1 l0_2).bind fun bt459 => ((wireloomlaw05_order.f bt459.1 bt459.2).bind fun bt464 => ((wireloomlaw05_cycle.f bt459.1 bt459.2).bind fun bt469 => (if ((bt464.2 == 0) == (bt469.2 == 0)) = true then (none) else (if bt464.2 = 0 then (if bt469.2 = 0 then (wireloomlaw05_DigraphOrders.j0 k a1 t458 false bt459.1 bt459.2 bt464.1 bt464.2) else (wireloomlaw05_DigraphOrders.j0 k a1 t458 (bt469.2 != 4) bt459.1 bt459.2 bt464.1 bt464.2)) else (if bt464.2 = 50 then (if bt469.2 = 0 then (wireloomlaw05_DigraphOrders.j0 k a1 t458 false bt459.1 bt459.2 bt464.1 bt464.2) else (wireloomlaw05_DigraphOrders.j0 k a1 t458 (bt469.2 != 4) bt459.1 bt459.2 bt464.1 bt464.2)) else (none))))))) else (none))
def wireloomlaw05_DigraphOrders.T19 : Bool × List (List Nat × List Nat) := (true, [([], []), ([0], [0]), ([], []), ([1, 2], [1, 2]), ([3], [3]), ([], []), ([5], [5]), ([], []), ([6, 7], [6, 7]), ([8], [8]), ([4, 9], [4, 9])])
def wireloomlaw05_DigraphOrders.B19 : List Nat := [0, 1, 0, 7, 15, 0, 32, 0, 224, 480, 1023]
theorem wireloomlaw05_DigraphOrders.tab19 : rtab .any (opsOf Try.f4 19) = wireloomlaw05_DigraphOrders.T19 := by kernel_rfl
theorem wireloomlaw05_DigraphOrders.bits19 : waitsOk wireloomlaw05_DigraphOrders.T19.2 wireloomlaw05_DigraphOrders.B19 = true := by kernel_rfl
def wireloomlaw05_DigraphOrders.T24 : Bool × List (List Nat × List Nat) := (true, [([], []), ([0], [0]), ([1], [1]), ([2, 1], [1, 2]), ([1], [1]), ([4, 1], [1, 4]), ([1], [1]), ([5, 6, 1], [1, 5, 6]), ([7, 1], [1, 7]), ([1], [1]), ([9, 1], [1, 9]), ([1], [1]), ([10, 11, 1], [1, 10, 11]), ([12, 1], [1, 12]), ([3, 8, 13, 1, 1], [1, 3, 8, 13]), ([1, 14], [1, 14]), ([15, 14, 0, 1, 2, 3, 4, 5, 6, 7, 8, 9, 10, 11, 12, 13, 14, 15], [0, 15])])
def wireloomlaw05_DigraphOrders.B24 : List Nat := [0, 1, 3, 7, 3, 19, 3, 115, 243, 3, 515, 3, 3587, 7683, 16383, 32767, 65535]
theorem wireloomlaw05_DigraphOrders.tab24 : rtab .any (opsOf Try.f4 24) = wireloomlaw05_DigraphOrders.T24 := by kernel_rfl
theorem wireloomlaw05_DigraphOrders.bits24 : waitsOk wireloomlaw05_DigraphOrders.T24.2 wireloomlaw05_DigraphOrders.B24 = true := by kernel_rfl
def wireloomlaw05_DigraphOrders.T31 : Bool × List (List Nat × List Nat) := (true, [([], []), ([], []), ([], []), ([], []), ([3], [3]), ([], []), ([], []), ([6], [6]), ([5, 7], [5, 7]), ([8], [8]), ([], []), ([], []), ([10, 11], [10, 11]), ([12], [12]), ([0, 1, 0, 1, 5, 6, 7, 8, 9, 13], [0, 1]), ([14, 9, 0, 1, 5, 6, 7, 8, 9, 13], [9, 14]), ([2, 4, 0, 1, 2, 3, 4, 5, 6, 7, 8, 9, 10, 11, 12, 13, 14, 15], [2, 4]), ([16, 13, 15, 0, 1, 2, 3, 4, 5, 6, 7, 8, 9, 10, 11, 12, 13, 14, 15], [13, 16])])
def wireloomlaw05_DigraphOrders.B31 : List Nat := [0, 0, 0, 0, 8, 0, 0, 64, 224, 480, 0, 0, 3072, 7168, 16355, 32739, 65535, 131071]
theorem wireloomlaw05_DigraphOrders.tab31 : rtab .any (opsOf Try.f4 31) = wireloomlaw05_DigraphOrders.T31 := by kernel_rfl
theorem wireloomlaw05_DigraphOrders.bits31 : waitsOk wireloomlaw05_DigraphOrders.T31.2 wireloomlaw05_DigraphOrders.B31 = true := by kernel_rfl
def wireloomlaw05_DigraphOrders.T32 : Bool × List (List Nat × List Nat) := (true, [([], []), ([0], [0]), ([], []), ([2], [2]), ([], []), ([1, 3, 4], [1, 3, 4]), ([5], [5]), ([], []), ([7], [7]), ([], []), ([9], [9]), ([], []), ([10, 11], [10, 11]), ([12], [12]), ([], []), ([14], [14]), ([], []), ([16], [16]), ([15, 17], [15, 17]), ([18], [18]), ([8, 13, 19, 5], [8, 13, 19]), ([20], [20]), ([6, 21], [6, 21]), ([22, 20], [22]), ([23], [23]), ([24, 23], [23, 24]), ([23], [23]), ([26, 23], [23, 26]), ([23], [23]), ([28, 23], [23, 28]), ([29, 23], [23, 29]), ([25, 27, 30, 23, 23], [23, 25, 27, 30]), ([31, 23], [23, 31]), ([23, 32], [23, 32]), ([33, 31], [33]), ([34], [34]), ([34, 35], [34, 35]), ([36, 34, 0, 1, 2, 3, 4, 5, 6, 7, 8, 9, 10, 11, 12, 13, 14, 15, 16, 17, 18, 19, 20, 21, 22, 23, 24, 25, 26, 27, 28, 29, 30, 31, 32, 33, 34, 35, 36], [36])])
def wireloomlaw05_DigraphOrders.B32 : List Nat := [0, 1, 0, 4, 0, 31, 63, 0, 128, 0, 512, 0, 3584, 7680, 0, 16384, 0, 65536, 245760, 507904, 1048511, 2097087, 4194303, 8388607, 16777215, 33554431, 16777215, 83886079, 16777215, 285212671, 822083583, 2147483647, 4294967295, 8589934591, 17179869183, 34359738367, 68719476735, 137438953471]
theorem wireloomlaw05_DigraphOrders.tab32 : rtab .any (opsOf Try.f4 32) = wireloomlaw05_DigraphOrders.T32 := by kernel_rfl
theorem wireloomlaw05_DigraphOrders.bits32 : waitsOk wireloomlaw05_DigraphOrders.T32.2 wireloomlaw05_DigraphOrders.B32 = true := by kernel_rfl
set_option maxHeartbeats 8000000 in
set_option maxRecDepth 100000 in
theorem wireloomlaw05_DigraphOrders.calls (k : Nat) (a0_0 : Int) (a0_1 : Int) (A0_2 : Option Addr) (c0_2 : Nat) (l0_2 : List Int) (a1 : Int) (r : Bool) (w : World) (hr0_2 : Kd.C (Kd.int .u8) w A0_2 l0_2.length l0_2) (hc0_2 : l0_2.length ≤ c0_2) (h : wireloomlaw05_DigraphOrders.f k a0_0 a0_1 l0_2 a1 = some r) :
  Calls Try.prog 4 #[.agg #[.int .u8 a0_0, .int .u8 a0_1, .slice A0_2 l0_2.length c0_2], .int .u8 a1] w fun e w' => e = .returned (.bool r) ∧ Below w.heap.size w w' := by
 have hu24 := Try.underlying24
 have hu31 := Try.underlying31
 have hu37 := Try.underlying37
 have HR0_2 := Aside0.mk hr0_2
 have HC0_2 := Aside0.mk hc0_2
 clear hr0_2 hc0_2
 have HB := Aside0.mk (Below.refl w.heap.size w)
 have H : ((wireloomlaw05_examples.f k).bind fun t458 => (if t458 = true then ((wireloomref05_Made.f k a0_0 a0_1 l0_2).bind fun bt459 => ((wireloomlaw05_order.f bt459.1 bt459.2).bind fun bt464 => ((wireloomlaw05_cycle.f bt459.1 bt459.2).bind fun bt469 => (if ((bt464.2 == 0) == (bt469.2 == 0)) = true then (none) else (if bt464.2 = 0 then (if bt469.2 = 0 then (wireloomlaw05_DigraphOrders.j0 k a1 t458 false bt459.1 bt459.2 bt464.1 bt464.2) else (wireloomlaw05_DigraphOrders.j0 k a1 t458 (bt469.2 != 4) bt459.1 bt459.2 bt464.1 bt464.2)) else (if bt464.2 = 50 then (if bt469.2 = 0 then (wireloomlaw05_DigraphOrders.j0 k a1 t458 false bt459.1 bt459.2 bt464.1 bt464.2) else (wireloomlaw05_DigraphOrders.j0 k a1 t458 (bt469.2 != 4) bt459.1 bt459.2 bt464.1 bt464.2)) else (none))))))) else (none))) = some r := h
 clear h
 replace H := Option.bind_eq_some_iff.mp H
 obtain ⟨t458, A30, H⟩ := H
 replace H : (if t458 = true then ((wireloomref05_Made.f k a0_0 a0_1 l0_2).bind fun bt459 => ((wireloomlaw05_order.f bt459.1 bt459.2).bind fun bt464 => ((wireloomlaw05_cycle.f bt459.1 bt459.2).bind fun bt469 => (if ((bt464.2 == 0) == (bt469.2 == 0)) = true then (none) else (if bt464.2 = 0 then (if bt469.2 = 0 then (wireloomlaw05_DigraphOrders.j0 k a1 t458 false bt459.1 bt459.2 bt464.1 bt464.2) else (wireloomlaw05_DigraphOrders.j0 k a1 t458 (bt469.2 != 4) bt459.1 bt459.2 bt464.1 bt464.2)) else (if bt464.2 = 50 then (if bt469.2 = 0 then (wireloomlaw05_DigraphOrders.j0 k a1 t458 false bt459.1 bt459.2 bt464.1 bt464.2) else (wireloomlaw05_DigraphOrders.j0 k a1 t458 (bt469.2 != 4) bt459.1 bt459.2 bt464.1 bt464.2)) else (none))))))) else (none)) = some r := H
 have A3 := Aside0.mk A30
 clear A30
 by_cases c4 : t458 = true
 ·subst c4
  have H1 : ((wireloomref05_Made.f k a0_0 a0_1 l0_2).bind fun bt459 => ((wireloomlaw05_order.f bt459.1 bt459.2).bind fun bt464 => ((wireloomlaw05_cycle.f bt459.1 bt459.2).bind fun bt469 => (if ((bt464.2 == 0) == (bt469.2 == 0)) = true then (none) else (if bt464.2 = 0 then (if bt469.2 = 0 then (wireloomlaw05_DigraphOrders.j0 k a1 true false bt459.1 bt459.2 bt464.1 bt464.2) else (wireloomlaw05_DigraphOrders.j0 k a1 true (bt469.2 != 4) bt459.1 bt459.2 bt464.1 bt464.2)) else (if bt464.2 = 50 then (if bt469.2 = 0 then (wireloomlaw05_DigraphOrders.j0 k a1 true false bt459.1 bt459.2 bt464.1 bt464.2) else (wireloomlaw05_DigraphOrders.j0 k a1 true (bt469.2 != 4) bt459.1 bt459.2 bt464.1 bt464.2)) else (none))))))) = some r := by rw [if_pos rfl] at H; exact H
  clear H
  have H := H1
  clear H1
  replace H := Option.bind_eq_some_iff.mp H
  obtain ⟨⟨t459, t460⟩, A50, H⟩ := H
  replace H : ((wireloomlaw05_order.f t459 t460).bind fun bt464 => ((wireloomlaw05_cycle.f t459 t460).bind fun bt469 => (if ((bt464.2 == 0) == (bt469.2 == 0)) = true then (none) else (if bt464.2 = 0 then (if bt469.2 = 0 then (wireloomlaw05_DigraphOrders.j0 k a1 true false t459 t460 bt464.1 bt464.2) else (wireloomlaw05_DigraphOrders.j0 k a1 true (bt469.2 != 4) t459 t460 bt464.1 bt464.2)) else (if bt464.2 = 50 then (if bt469.2 = 0 then (wireloomlaw05_DigraphOrders.j0 k a1 true false t459 t460 bt464.1 bt464.2) else (wireloomlaw05_DigraphOrders.j0 k a1 true (bt469.2 != 4) t459 t460 bt464.1 bt464.2)) else (none)))))) = some r := H
  have A5 := Aside0.mk A50
  clear A50
  replace H := Option.bind_eq_some_iff.mp H
  obtain ⟨⟨t464, t467⟩, A60, H⟩ := H
  replace H : ((wireloomlaw05_cycle.f t459 t460).bind fun bt469 => (if ((t467 == 0) == (bt469.2 == 0)) = true then (none) else (if t467 = 0 then (if bt469.2 = 0 then (wireloomlaw05_DigraphOrders.j0 k a1 true false t459 t460 t464 t467) else (wireloomlaw05_DigraphOrders.j0 k a1 true (bt469.2 != 4) t459 t460 t464 t467)) else (if t467 = 50 then (if bt469.2 = 0 then (wireloomlaw05_DigraphOrders.j0 k a1 true false t459 t460 t464 t467) else (wireloomlaw05_DigraphOrders.j0 k a1 true (bt469.2 != 4) t459 t460 t464 t467)) else (none))))) = some r := H
  have A6 := Aside0.mk A60
  clear A60
  replace H := Option.bind_eq_some_iff.mp H
  obtain ⟨⟨t469, t472⟩, A70, H⟩ := H
  replace H : (if ((t467 == 0) == (t472 == 0)) = true then (none) else (if t467 = 0 then (if t472 = 0 then (wireloomlaw05_DigraphOrders.j0 k a1 true false t459 t460 t464 t467) else (wireloomlaw05_DigraphOrders.j0 k a1 true (t472 != 4) t459 t460 t464 t467)) else (if t467 = 50 then (if t472 = 0 then (wireloomlaw05_DigraphOrders.j0 k a1 true false t459 t460 t464 t467) else (wireloomlaw05_DigraphOrders.j0 k a1 true (t472 != 4) t459 t460 t464 t467)) else (none)))) = some r := H
  have A7 := Aside0.mk A70
  clear A70
  have HC8 := Aside0.mk H
  clear H
  go_enter Try.func4, Try.ntmps4
  go_upto_region 7 with (first | ((with_reducible refine gate_dst (N := 2) rfl ?_); refine box_event ?hg (N := 2) ?hd (cs := #[.int .u8 a0_0, .int .u8 a0_1, .slice A0_2 l0_2.length c0_2]) (t := 24) ?hr ?_; (case hd => rfl); (case hg => rfl); (case hr => first | (go_simp; done) | (go_simp; rfl)); intro gb457 hg w9 hbox hb; have BK457 := Aside0.mk (hbox); have GW457 := Aside0.mk ((by rw [hg]; exact (below_size (wB0 HB.out)) : w.heap.size ≤ gb457)); have GE457 := Aside0.mk ((by rw [hg]; exact (below_size (wB0 HB.out)) : w.heap.size ≤ gb457)); replace HB := Aside0.mk (below_step (wB0 HB.out) hb); clear hb hbox hg) | ((with_reducible refine gate_callee (f := 10) rfl ?_); refine goesL_ (some 15) rfl rfl Try.func10 (by kernel_rfl) rfl #[] rfl (by (try simp only [List.map_toArray, List.map_cons, List.map_nil]); first | done | rfl | (simp only [List.length_drop, List.length_take]; rfl)) ?_; (with_reducible refine (wireloomlaw05_examples.calls k  true _ A3.out).mono ?_); rintro e w10 ⟨rfl, hb⟩; refine ⟨_, rfl, ?_⟩; replace BK457 := kC BK457 hb; replace HB := Aside0.mk (below_step (wB1 HB.out GE457.out) hb); (try clear hb); (try clear hb2); (try clear hk); (try clear hi); have hcz11_0 : w10.cell? ⟨gb457, 0, none⟩ = some (.int .u8 a0_0) := (blk_cell BK457.out 0).trans rfl; have hcz11_1 : w10.cell? ⟨gb457, 1, none⟩ = some (.int .u8 a0_1) := (blk_cell BK457.out 1).trans rfl; have hcz11_2 : w10.cell? ⟨gb457, 2, none⟩ = some (.slice A0_2 l0_2.length c0_2) := (blk_cell BK457.out 2).trans rfl; have hfz11_0 := blk_frozen BK457.out 0; have hfz11_1 := blk_frozen BK457.out 1; have hfz11_2 := blk_frozen BK457.out 2) | ((with_reducible refine gate_callee (f := 11) rfl ?_); refine goesL_ (some 19) rfl rfl Try.func11 (by kernel_rfl) rfl #[.agg #[.int .u8 a0_0, .int .u8 a0_1, .slice A0_2 l0_2.length c0_2]] rfl (by (try simp only [List.map_toArray, List.map_cons, List.map_nil]); first | done | rfl | (simp only [List.length_drop, List.length_take]; rfl)) ?_; (with_reducible refine (wireloomref05_Made.calls k a0_0 a0_1 _ _ l0_2 t459 t460 _ ?side1 ?side2 A5.out).mono ?_); (case side1 => exact cA (Kd.C_below HR0_2.out HB.out)); (case side2 => exact HC0_2.out); rintro e w12 ⟨v461, rfl, ho0, hb⟩; refine ⟨_, rfl, ?_⟩; have HO462 := Aside0.mk (Kd.R_lower ho0 (below_size (wB1 HB.out GE457.out))); replace BK457 := kC BK457 hb; replace HB := Aside0.mk (below_step (wB1 HB.out GE457.out) hb); (try clear hb); (try clear hb2); (try clear hk); (try clear hi); (try clear ho0)) | ((with_reducible refine gate_dst (N := 6) rfl ?_); refine box_event ?hg (N := 6) ?hd (cs := #[.int .i64 0, .slice none 0 0]) (t := 31) ?hr ?_; (case hd => rfl); (case hg => rfl); (case hr => first | (go_simp; done) | (go_simp; rfl)); intro gb463 hg w13 hbox hb; replace HO462 := Aside0.mk (Kd.R_below (rA HO462.out) hb); have BK463 := Aside0.mk (hbox); have GW463 := Aside0.mk ((by rw [hg]; exact (below_size (wB1 HB.out GE457.out)) : w.heap.size ≤ gb463)); have GE463 := Aside0.mk ((by rw [hg]; exact (below_size (wB1 HB.out GE457.out)) : w.heap.size ≤ gb463)); replace HB := Aside0.mk (below_step (wB1 HB.out GE457.out) hb); have NB457_463 := Aside0.mk ((by rw [hg]; exact Nat.ne_of_lt (blk_lt (g := gb457) (o := .cells #[.int .u8 a0_0, .int .u8 a0_1, .slice A0_2 l0_2.length c0_2] 24 (0, 0)) (bA BK457.out)) : gb457 ≠ gb463)); have NB463_457 := Aside0.mk ((by rw [hg]; exact Nat.ne_of_gt (blk_lt (g := gb457) (o := .cells #[.int .u8 a0_0, .int .u8 a0_1, .slice A0_2 l0_2.length c0_2] 24 (0, 0)) (bA BK457.out)) : gb463 ≠ gb457)); replace BK457 := kC BK457 hb; clear hb hbox hg; have hnb14 := NB463_457.out; have hnc14 := NB457_463.out; have hcz15_0 : w13.cell? ⟨gb463, 0, none⟩ = some (.int .i64 0) := (blk_cell BK463.out 0).trans rfl; have hcz15_1 : w13.cell? ⟨gb463, 1, none⟩ = some (.slice none 0 0) := (blk_cell BK463.out 1).trans rfl; have hfz15_0 := blk_frozen BK463.out 0; have hfz15_1 := blk_frozen BK463.out 1; obtain ⟨Ao16, co16, eo16⟩ := Kd.R_slice HO462.out; subst eo16) | ((with_reducible refine gate_callee (f := 15) rfl ?_); refine goesL_ (some 21) rfl rfl Try.func15 (by kernel_rfl) rfl #[.agg #[.int .i64 t459, .slice Ao16 t460.length co16]] rfl (by (try simp only [List.map_toArray, List.map_cons, List.map_nil]); first | done | rfl | (simp only [List.length_drop, List.length_take]; rfl)) ?_; (with_reducible refine (wireloomlaw05_order.calls t459 _ _ t460 t464 t467 _ ?side1 ?side2 A6.out).mono ?_); (case side1 => refine (Kd.R_reads' (e := 55) (base := w.heap.size) (ok := fun k_ => True) (n := t460.length) (c := co16) ?_).2.2; exact (by (with_reducible repeat (first | apply Kd.R_alloc | apply Kd.R_drewN | apply Kd.R_drew)); exact (Kd.R_mono (Kd.R_far (p := ⟨gb463, 1, none⟩) (Kd.R_far (p := ⟨gb463, 0, none⟩) (Kd.R_types HO462.out BK463.out (by decide)) (fun _ hk => hk.2) (.int .i64 t459)) (fun _ hk => hk.2) (.slice Ao16 t460.length co16)) (fun _ h_ => h_.1)))); (case side2 => exact (Kd.R_reads' HO462.out).2.1); rintro e w17 ⟨v465, rfl, ho0, hb⟩; refine ⟨_, rfl, ?_⟩; replace HO462 := Aside0.mk (Kd.R_below (by (with_reducible repeat (first | apply Kd.R_alloc | apply Kd.R_drewN | apply Kd.R_drew)); exact (Kd.R_mono (Kd.R_far (p := ⟨gb463, 1, none⟩) (Kd.R_far (p := ⟨gb463, 0, none⟩) (Kd.R_types HO462.out BK463.out (by decide)) (fun _ hk => hk.2) (.int .i64 t459)) (fun _ hk => hk.2) (.slice Ao16 t460.length co16)) (fun _ h_ => h_.1))) hb); have HO466 := Aside0.mk (Kd.R_lower ho0 (below_size (wB2 HB.out GE457.out GE463.out))); replace BK457 := Aside0.mk (blk_below (g := gb457) (o := .cells #[.int .u8 a0_0, .int .u8 a0_1, .slice A0_2 l0_2.length c0_2] 24 (0, 0)) (by (with_reducible repeat (first | refine blk_drewN ?_ _ | refine blk_drew ?_ | refine blk_alloc ?_ _)); refine blk_far ?_ NB457_463.out _; (with_reducible repeat (first | refine blk_drewN ?_ _ | refine blk_drew ?_ | refine blk_alloc ?_ _)); refine blk_far ?_ NB457_463.out _; (with_reducible repeat (first | refine blk_drewN ?_ _ | refine blk_drew ?_ | refine blk_alloc ?_ _)); exact BK457.out) hb); replace BK463 := Aside0.mk (blk_below (g := gb463) (o := .cells #[.int .i64 t459, .slice Ao16 t460.length co16] 31 (0, 0)) (by (with_reducible repeat (first | refine blk_drewN ?_ _ | refine blk_drew ?_ | refine blk_alloc ?_ _)); refine blk_put (cs := #[.int .i64 t459, .slice none 0 0]) ?_ 1 _ rfl; (with_reducible repeat (first | refine blk_drewN ?_ _ | refine blk_drew ?_ | refine blk_alloc ?_ _)); refine blk_put (cs := #[.int .i64 0, .slice none 0 0]) ?_ 0 _ rfl; (with_reducible repeat (first | refine blk_drewN ?_ _ | refine blk_drew ?_ | refine blk_alloc ?_ _)); exact BK463.out) hb); replace HB := Aside0.mk (below_step (wB2 HB.out GE457.out GE463.out) hb); (try clear hb); (try clear hb2); (try clear hk); (try clear hi); (try clear ho0)) | ((with_reducible refine gate_dst (N := 7) rfl ?_); refine box_event ?hg (N := 7) ?hd (cs := #[.slice none 0 0, .int .i64 0]) (t := 37) ?hr ?_; (case hd => rfl); (case hg => rfl); (case hr => first | (go_simp; done) | (go_simp; rfl)); intro gb468 hg w18 hbox hb; replace HO462 := Aside0.mk (Kd.R_below (rA HO462.out) hb); replace HO466 := Aside0.mk (Kd.R_below (rA HO466.out) hb); have BK468 := Aside0.mk (hbox); have GW468 := Aside0.mk ((by rw [hg]; exact (below_size (wB2 HB.out GE457.out GE463.out)) : w.heap.size ≤ gb468)); have GE468 := Aside0.mk ((by rw [hg]; exact (below_size (wB2 HB.out GE457.out GE463.out)) : w.heap.size ≤ gb468)); replace HB := Aside0.mk (below_step (wB2 HB.out GE457.out GE463.out) hb); have NB457_468 := Aside0.mk ((by rw [hg]; exact Nat.ne_of_lt (blk_lt (g := gb457) (o := .cells #[.int .u8 a0_0, .int .u8 a0_1, .slice A0_2 l0_2.length c0_2] 24 (0, 0)) (bA BK457.out)) : gb457 ≠ gb468)); have NB468_457 := Aside0.mk ((by rw [hg]; exact Nat.ne_of_gt (blk_lt (g := gb457) (o := .cells #[.int .u8 a0_0, .int .u8 a0_1, .slice A0_2 l0_2.length c0_2] 24 (0, 0)) (bA BK457.out)) : gb468 ≠ gb457)); replace BK457 := Aside0.mk (blk_below (g := gb457) (o := .cells #[.int .u8 a0_0, .int .u8 a0_1, .slice A0_2 l0_2.length c0_2] 24 (0, 0)) (bA BK457.out) hb); have NB463_468 := Aside0.mk ((by rw [hg]; exact Nat.ne_of_lt (blk_lt (g := gb463) (o := .cells #[.int .i64 t459, .slice Ao16 t460.length co16] 31 (0, 0)) (bA BK463.out)) : gb463 ≠ gb468)); have NB468_463 := Aside0.mk ((by rw [hg]; exact Nat.ne_of_gt (blk_lt (g := gb463) (o := .cells #[.int .i64 t459, .slice Ao16 t460.length co16] 31 (0, 0)) (bA BK463.out)) : gb468 ≠ gb463)); replace BK463 := kC BK463 hb; clear hb hbox hg; obtain ⟨Ao19, co19, eo19⟩ := Kd.R_slice HO466.out; subst eo19; have hnb20 := NB468_457.out; have hnc20 := NB457_468.out; have hnb21 := NB468_463.out; have hnc21 := NB463_468.out; have hcz22_0 : w18.cell? ⟨gb468, 0, none⟩ = some (.slice none 0 0) := (blk_cell BK468.out 0).trans rfl; have hcz22_1 : w18.cell? ⟨gb468, 1, none⟩ = some (.int .i64 0) := (blk_cell BK468.out 1).trans rfl; have hfz22_0 := blk_frozen BK468.out 0; have hfz22_1 := blk_frozen BK468.out 1; have hcz23_0 : w18.cell? ⟨gb463, 0, none⟩ = some (.int .i64 t459) := (blk_cell BK463.out 0).trans rfl; have hcz23_1 : w18.cell? ⟨gb463, 1, none⟩ = some (.slice Ao16 t460.length co16) := (blk_cell BK463.out 1).trans rfl; have hfz23_0 := blk_frozen BK463.out 0; have hfz23_1 := blk_frozen BK463.out 1) | ((with_reducible refine gate_callee (f := 17) rfl ?_); refine goesL_ (some 23) rfl rfl Try.func17 (by kernel_rfl) rfl #[.agg #[.int .i64 t459, .slice Ao16 t460.length co16]] rfl (by (try simp only [List.map_toArray, List.map_cons, List.map_nil]); first | done | rfl | (simp only [List.length_drop, List.length_take]; rfl)) ?_; (with_reducible refine (wireloomlaw05_cycle.calls t459 _ _ t460 t469 t472 _ ?side1 ?side2 A7.out).mono ?_); (case side1 => refine (Kd.R_reads' (e := 55) (base := w.heap.size) (ok := fun k_ => True) (n := t460.length) (c := co16) ?_).2.2; exact (by (with_reducible repeat (first | apply Kd.R_alloc | apply Kd.R_drewN | apply Kd.R_drew)); exact (Kd.R_mono (Kd.R_far (p := ⟨gb468, 1, none⟩) (Kd.R_far (p := ⟨gb468, 0, none⟩) (Kd.R_types HO462.out BK468.out (by decide)) (fun _ hk => hk.2) (.slice Ao19 t464.length co19)) (fun _ hk => hk.2) (.int .i64 t467)) (fun _ h_ => h_.1)))); (case side2 => exact (Kd.R_reads' HO462.out).2.1); rintro e w24 ⟨v470, rfl, ho0, hb⟩; refine ⟨_, rfl, ?_⟩; replace HO462 := Aside0.mk (Kd.R_below (by (with_reducible repeat (first | apply Kd.R_alloc | apply Kd.R_drewN | apply Kd.R_drew)); exact (Kd.R_mono (Kd.R_far (p := ⟨gb468, 1, none⟩) (Kd.R_far (p := ⟨gb468, 0, none⟩) (Kd.R_types HO462.out BK468.out (by decide)) (fun _ hk => hk.2) (.slice Ao19 t464.length co19)) (fun _ hk => hk.2) (.int .i64 t467)) (fun _ h_ => h_.1))) hb); have HO471 := Aside0.mk (Kd.R_lower (Kd.R_new' ho0 (Kd.R_lt (by (with_reducible repeat (first | apply Kd.R_alloc | apply Kd.R_drewN | apply Kd.R_drew)); exact (Kd.R_mono (Kd.R_far (p := ⟨gb468, 1, none⟩) (Kd.R_far (p := ⟨gb468, 0, none⟩) (Kd.R_types HO466.out BK468.out (by decide)) (fun _ hk => hk.2) (.slice Ao19 t464.length co19)) (fun _ hk => hk.2) (.int .i64 t467)) (fun _ h_ => h_.1))))) (below_size (wB3 HB.out GE457.out GE463.out GE468.out))); replace HO466 := Aside0.mk (Kd.R_elder' (by (with_reducible repeat (first | apply Kd.R_alloc | apply Kd.R_drewN | apply Kd.R_drew)); exact (Kd.R_mono (Kd.R_far (p := ⟨gb468, 1, none⟩) (Kd.R_far (p := ⟨gb468, 0, none⟩) (Kd.R_types HO466.out BK468.out (by decide)) (fun _ hk => hk.2) (.slice Ao19 t464.length co19)) (fun _ hk => hk.2) (.int .i64 t467)) (fun _ h_ => h_.1))) (Kd.R_base ho0) hb); replace BK457 := Aside0.mk (blk_below (g := gb457) (o := .cells #[.int .u8 a0_0, .int .u8 a0_1, .slice A0_2 l0_2.length c0_2] 24 (0, 0)) (by (with_reducible repeat (first | refine blk_drewN ?_ _ | refine blk_drew ?_ | refine blk_alloc ?_ _)); refine blk_far ?_ NB457_468.out _; (with_reducible repeat (first | refine blk_drewN ?_ _ | refine blk_drew ?_ | refine blk_alloc ?_ _)); refine blk_far ?_ NB457_468.out _; (with_reducible repeat (first | refine blk_drewN ?_ _ | refine blk_drew ?_ | refine blk_alloc ?_ _)); exact BK457.out) hb); replace BK463 := Aside0.mk (blk_below (g := gb463) (o := .cells #[.int .i64 t459, .slice Ao16 t460.length co16] 31 (0, 0)) (by (with_reducible repeat (first | refine blk_drewN ?_ _ | refine blk_drew ?_ | refine blk_alloc ?_ _)); refine blk_far ?_ NB463_468.out _; (with_reducible repeat (first | refine blk_drewN ?_ _ | refine blk_drew ?_ | refine blk_alloc ?_ _)); refine blk_far ?_ NB463_468.out _; (with_reducible repeat (first | refine blk_drewN ?_ _ | refine blk_drew ?_ | refine blk_alloc ?_ _)); exact BK463.out) hb); replace BK468 := Aside0.mk (blk_below (g := gb468) (o := .cells #[.slice Ao19 t464.length co19, .int .i64 t467] 37 (0, 0)) (by (with_reducible repeat (first | refine blk_drewN ?_ _ | refine blk_drew ?_ | refine blk_alloc ?_ _)); refine blk_put (cs := #[.slice Ao19 t464.length co19, .int .i64 0]) ?_ 1 _ rfl; (with_reducible repeat (first | refine blk_drewN ?_ _ | refine blk_drew ?_ | refine blk_alloc ?_ _)); refine blk_put (cs := #[.slice none 0 0, .int .i64 0]) ?_ 0 _ rfl; (with_reducible repeat (first | refine blk_drewN ?_ _ | refine blk_drew ?_ | refine blk_alloc ?_ _)); exact BK468.out) hb); replace HB := Aside0.mk (below_step (wB3 HB.out GE457.out GE463.out GE468.out) hb); (try clear hb); (try clear hb2); (try clear hk); (try clear hi); (try clear ho0)) | ((with_reducible refine gate_dst (N := 8) rfl ?_); refine box_event ?hg (N := 8) ?hd (cs := #[.slice none 0 0, .int .i64 0]) (t := 37) ?hr ?_; (case hd => rfl); (case hg => rfl); (case hr => first | (go_simp; done) | (go_simp; rfl)); intro gb473 hg w25 hbox hb; replace HO462 := Aside0.mk (Kd.R_below (rA HO462.out) hb); replace HO466 := Aside0.mk (Kd.R_below (rA HO466.out) hb); replace HO471 := Aside0.mk (Kd.R_below (rA HO471.out) hb); have BK473 := Aside0.mk (hbox); have GW473 := Aside0.mk ((by rw [hg]; exact (below_size (wB3 HB.out GE457.out GE463.out GE468.out)) : w.heap.size ≤ gb473)); have GE473 := Aside0.mk ((by rw [hg]; exact (below_size (wB3 HB.out GE457.out GE463.out GE468.out)) : w.heap.size ≤ gb473)); replace HB := Aside0.mk (below_step (wB3 HB.out GE457.out GE463.out GE468.out) hb); have NB457_473 := Aside0.mk ((by rw [hg]; exact Nat.ne_of_lt (blk_lt (g := gb457) (o := .cells #[.int .u8 a0_0, .int .u8 a0_1, .slice A0_2 l0_2.length c0_2] 24 (0, 0)) (bA BK457.out)) : gb457 ≠ gb473)); have NB473_457 := Aside0.mk ((by rw [hg]; exact Nat.ne_of_gt (blk_lt (g := gb457) (o := .cells #[.int .u8 a0_0, .int .u8 a0_1, .slice A0_2 l0_2.length c0_2] 24 (0, 0)) (bA BK457.out)) : gb473 ≠ gb457)); replace BK457 := Aside0.mk (blk_below (g := gb457) (o := .cells #[.int .u8 a0_0, .int .u8 a0_1, .slice A0_2 l0_2.length c0_2] 24 (0, 0)) (bA BK457.out) hb); have NB463_473 := Aside0.mk ((by rw [hg]; exact Nat.ne_of_lt (blk_lt (g := gb463) (o := .cells #[.int .i64 t459, .slice Ao16 t460.length co16] 31 (0, 0)) (bA BK463.out)) : gb463 ≠ gb473)); have NB473_463 := Aside0.mk ((by rw [hg]; exact Nat.ne_of_gt (blk_lt (g := gb463) (o := .cells #[.int .i64 t459, .slice Ao16 t460.length co16] 31 (0, 0)) (bA BK463.out)) : gb473 ≠ gb463)); replace BK463 := kC BK463 hb; have NB468_473 := Aside0.mk ((by rw [hg]; exact Nat.ne_of_lt (blk_lt (g := gb468) (o := .cells #[.slice Ao19 t464.length co19, .int .i64 t467] 37 (0, 0)) (bA BK468.out)) : gb468 ≠ gb473)); have NB473_468 := Aside0.mk ((by rw [hg]; exact Nat.ne_of_gt (blk_lt (g := gb468) (o := .cells #[.slice Ao19 t464.length co19, .int .i64 t467] 37 (0, 0)) (bA BK468.out)) : gb473 ≠ gb468)); replace BK468 := kC BK468 hb; clear hb hbox hg; obtain ⟨Ao26, co26, eo26⟩ := Kd.R_slice HO471.out; subst eo26; have hnb27 := NB473_457.out; have hnc27 := NB457_473.out; have hnb28 := NB473_463.out; have hnc28 := NB463_473.out; have hnb29 := NB473_468.out; have hnc29 := NB468_473.out; have hcz30_0 : w25.cell? ⟨gb473, 0, none⟩ = some (.slice none 0 0) := (blk_cell BK473.out 0).trans rfl; have hcz30_1 : w25.cell? ⟨gb473, 1, none⟩ = some (.int .i64 0) := (blk_cell BK473.out 1).trans rfl; have hfz30_0 := blk_frozen BK473.out 0; have hfz30_1 := blk_frozen BK473.out 1))
  (try simp only [Act.put, List.setIfInBounds_toArray, List.set_cons_zero, List.set_cons_succ])
  go_cut [50] (fun v50 wc => ∃ (kq : Nat) (x50_7 : Bool), v50 = .bool x50_7 ∧ Aside0 (wireloomlaw05_DigraphOrders.j0 kq a1 true x50_7 t459 t460 t464 t467 = some r) ∧ Aside0 (kq ≤ k) ∧ Aside0 (Kd.R k55 55 wc w.heap.size (fun _ => True) (.slice Ao16 t460.length co16) t460) ∧ Aside0 (Kd.R (Kd.int .i64) 3 wc w.heap.size (fun k_ => some k_ ≠ ((.slice Ao26 t469.length co26) : Value).ownBlock) (.slice Ao19 t464.length co19) t464) ∧ Aside0 (Kd.R (Kd.int .i64) 3 wc w.heap.size (fun k_ => some k_ ≠ ((.slice Ao19 t464.length co19) : Value).ownBlock) (.slice Ao26 t469.length co26) t469) ∧ Aside0 (wc.heap[gb457]? = some (.cells #[.int .u8 a0_0, .int .u8 a0_1, (.slice A0_2 l0_2.length c0_2)] 24 (0, 0))) ∧ Aside0 (wc.heap[gb463]? = some (.cells #[.int .i64 t459, (.slice Ao16 t460.length co16)] 31 (0, 0))) ∧ Aside0 (wc.heap[gb468]? = some (.cells #[(.slice Ao19 t464.length co19), .int .i64 t467] 37 (0, 0))) ∧ Aside0 (wc.heap[gb473]? = some (.cells #[(.slice Ao26 t469.length co26), .int .i64 t472] 37 (0, 0))) ∧ Aside0 (Below w.heap.size w wc))
  case first =>
   have H := HC8.out
   clear HC8
   by_cases c31 : ((t467 == 0) == (t472 == 0)) = true
   ·rw [if_pos c31] at H
    exact absurd H (by simp)
   ·rw [if_neg c31] at H
    have c31b0 : ((t467 == 0) == (t472 == 0)) = false := by simpa using c31
    (try (have c31b1 : decide ((t467 == 0) = (t472 == 0)) = false := by simpa using c31))
    (try (have c31b2 : ((t467 == 0) == (t472 == 0)) = false := by simpa using c31))
    (try (have c31b3 : ¬ ((t467 == 0) = (t472 == 0)) := by simpa using c31))
    clear c31
    (first | rw [c31b0] | (simp only [i64_w, i32_w]; rw [c31b0]) | skip)
    by_cases c32 : t467 = 0
    ·rw [if_pos c32] at H
     have c32b0 : (t467 == 0) = true := beq_iff_eq.mpr c32
     have c32b1 : (t467 != 0) = false := bne_eq_false_iff_eq.mpr c32
     clear c32
     by_cases c33 : t472 = 0
     ·rw [if_pos c33] at H
      have c33b0 : (t472 == 0) = true := beq_iff_eq.mpr c33
      exact absurd c31b0 (by simp [c32b0, c33b0])
     ·rw [if_neg c33] at H
      have c33b0 : (t472 == 0) = false := beq_eq_false_iff_ne.mpr c33
      have c33b1 : (t472 != 0) = true := bne_iff_ne.mpr c33
      have H' := Aside0.mk H
      clear H
      have hnb41 := NB468_457.out
      have hnc41 := NB457_468.out
      have hnb42 := NB468_463.out
      have hnc42 := NB463_468.out
      have hnb43 := NB468_473.out
      have hnc43 := NB473_468.out
      have hcz44_0 : w25.cell? ⟨gb468, 0, none⟩ = some (.slice Ao19 t464.length co19) := (blk_cell BK468.out 0).trans rfl
      have hcz44_1 : w25.cell? ⟨gb468, 1, none⟩ = some (.int .i64 t467) := (blk_cell BK468.out 1).trans rfl
      have hfz44_0 := blk_frozen BK468.out 0
      have hfz44_1 := blk_frozen BK468.out 1
      have hnb45 := NB473_457.out
      have hnc45 := NB457_473.out
      have hnb46 := NB473_463.out
      have hnc46 := NB463_473.out
      have hcz47_0 : w25.cell? ⟨gb473, 0, none⟩ = some (.slice none 0 0) := (blk_cell BK473.out 0).trans rfl
      have hcz47_1 : w25.cell? ⟨gb473, 1, none⟩ = some (.int .i64 0) := (blk_cell BK473.out 1).trans rfl
      have hfz47_0 := blk_frozen BK473.out 0
      have hfz47_1 := blk_frozen BK473.out 1
      go_wp2
      go_meet
      case rel => exact ⟨_, ((t472 != 4)), rS, H', ⟨by first | omega | exact Nat.le_refl _⟩, ⟨by (with_reducible repeat (first | apply Kd.R_alloc | apply Kd.R_drewN | apply Kd.R_drew)); exact Kd.R_mono (Kd.R_far (p := ⟨gb473, 1, none⟩) (Kd.R_far (p := ⟨gb473, 0, none⟩) (Kd.R_types HO462.out BK473.out (by decide)) (fun _ hk => hk.2) (.slice Ao26 t469.length co26)) (fun _ hk => hk.2) (.int .i64 t472)) (fun _ hk => trivial)⟩, ⟨by (with_reducible repeat (first | apply Kd.R_alloc | apply Kd.R_drewN | apply Kd.R_drew)); exact Kd.R_mono (Kd.R_far (p := ⟨gb473, 1, none⟩) (Kd.R_far (p := ⟨gb473, 0, none⟩) (Kd.R_types HO466.out BK473.out (by decide)) (fun _ hk => hk.2) (.slice Ao26 t469.length co26)) (fun _ hk => hk.2) (.int .i64 t472)) (fun _ hk => hk.1.2)⟩, ⟨by (with_reducible repeat (first | apply Kd.R_alloc | apply Kd.R_drewN | apply Kd.R_drew)); exact Kd.R_mono (Kd.R_far (p := ⟨gb473, 1, none⟩) (Kd.R_far (p := ⟨gb473, 0, none⟩) (Kd.R_types HO471.out BK473.out (by decide)) (fun _ hk => hk.2) (.slice Ao26 t469.length co26)) (fun _ hk => hk.2) (.int .i64 t472)) (fun _ hk => hk.1.2)⟩, ⟨by (with_reducible repeat (first | refine blk_drewN ?_ _ | refine blk_drew ?_ | refine blk_alloc ?_ _)); refine blk_far ?_ NB457_473.out _; (with_reducible repeat (first | refine blk_drewN ?_ _ | refine blk_drew ?_ | refine blk_alloc ?_ _)); refine blk_far ?_ NB457_473.out _; (with_reducible repeat (first | refine blk_drewN ?_ _ | refine blk_drew ?_ | refine blk_alloc ?_ _)); exact BK457.out⟩, ⟨by (with_reducible repeat (first | refine blk_drewN ?_ _ | refine blk_drew ?_ | refine blk_alloc ?_ _)); refine blk_far ?_ NB463_473.out _; (with_reducible repeat (first | refine blk_drewN ?_ _ | refine blk_drew ?_ | refine blk_alloc ?_ _)); refine blk_far ?_ NB463_473.out _; (with_reducible repeat (first | refine blk_drewN ?_ _ | refine blk_drew ?_ | refine blk_alloc ?_ _)); exact BK463.out⟩, ⟨by (with_reducible repeat (first | refine blk_drewN ?_ _ | refine blk_drew ?_ | refine blk_alloc ?_ _)); refine blk_far ?_ NB468_473.out _; (with_reducible repeat (first | refine blk_drewN ?_ _ | refine blk_drew ?_ | refine blk_alloc ?_ _)); refine blk_far ?_ NB468_473.out _; (with_reducible repeat (first | refine blk_drewN ?_ _ | refine blk_drew ?_ | refine blk_alloc ?_ _)); exact BK468.out⟩, ⟨by (with_reducible repeat (first | refine blk_drewN ?_ _ | refine blk_drew ?_ | refine blk_alloc ?_ _)); refine blk_put (cs := #[.slice Ao26 t469.length co26, .int .i64 0]) ?_ 1 _ rfl; (with_reducible repeat (first | refine blk_drewN ?_ _ | refine blk_drew ?_ | refine blk_alloc ?_ _)); refine blk_put (cs := #[.slice none 0 0, .int .i64 0]) ?_ 0 _ rfl; (with_reducible repeat (first | refine blk_drewN ?_ _ | refine blk_drew ?_ | refine blk_alloc ?_ _)); exact BK473.out⟩, ⟨wB4 HB.out GE457.out GE463.out GE468.out GE473.out⟩⟩
    ·rw [if_neg c32] at H
     have c32b0 : (t467 == 0) = false := beq_eq_false_iff_ne.mpr c32
     have c32b1 : (t467 != 0) = true := bne_iff_ne.mpr c32
     by_cases c48 : t467 = 50
     rotate_left
     ·rw [if_neg c48] at H
      exact absurd H (by simp)
     rw [if_pos c48] at H
     have c48b0 : (t467 == 50) = true := beq_iff_eq.mpr c48
     have c48b1 : (t467 != 50) = false := bne_eq_false_iff_eq.mpr c48
     clear c48
     by_cases c49 : t472 = 0
     rotate_left
     ·rw [if_neg c49] at H
      have c49b0 : (t472 == 0) = false := beq_eq_false_iff_ne.mpr c49
      exact absurd c31b0 (by simp [c32b0, c49b0])
     rw [if_pos c49] at H
     have c49b0 : (t472 == 0) = true := beq_iff_eq.mpr c49
     have c49b1 : (t472 != 0) = false := bne_eq_false_iff_eq.mpr c49
     clear c49
     have H' := Aside0.mk H
     clear H
     have hnb50 := NB468_457.out
     have hnc50 := NB457_468.out
     have hnb51 := NB468_463.out
     have hnc51 := NB463_468.out
     have hnb52 := NB468_473.out
     have hnc52 := NB473_468.out
     have hcz53_0 : w25.cell? ⟨gb468, 0, none⟩ = some (.slice Ao19 t464.length co19) := (blk_cell BK468.out 0).trans rfl
     have hcz53_1 : w25.cell? ⟨gb468, 1, none⟩ = some (.int .i64 t467) := (blk_cell BK468.out 1).trans rfl
     have hfz53_0 := blk_frozen BK468.out 0
     have hfz53_1 := blk_frozen BK468.out 1
     have hnb54 := NB473_457.out
     have hnc54 := NB457_473.out
     have hnb55 := NB473_463.out
     have hnc55 := NB463_473.out
     have hcz56_0 : w25.cell? ⟨gb473, 0, none⟩ = some (.slice none 0 0) := (blk_cell BK473.out 0).trans rfl
     have hcz56_1 : w25.cell? ⟨gb473, 1, none⟩ = some (.int .i64 0) := (blk_cell BK473.out 1).trans rfl
     have hfz56_0 := blk_frozen BK473.out 0
     have hfz56_1 := blk_frozen BK473.out 1
     go_wp2
     go_meet
     case rel => exact ⟨_, (false), rS, H', ⟨by first | omega | exact Nat.le_refl _⟩, ⟨by (with_reducible repeat (first | apply Kd.R_alloc | apply Kd.R_drewN | apply Kd.R_drew)); exact Kd.R_mono (Kd.R_far (p := ⟨gb473, 1, none⟩) (Kd.R_far (p := ⟨gb473, 0, none⟩) (Kd.R_types HO462.out BK473.out (by decide)) (fun _ hk => hk.2) (.slice Ao26 t469.length co26)) (fun _ hk => hk.2) (.int .i64 t472)) (fun _ hk => trivial)⟩, ⟨by (with_reducible repeat (first | apply Kd.R_alloc | apply Kd.R_drewN | apply Kd.R_drew)); exact Kd.R_mono (Kd.R_far (p := ⟨gb473, 1, none⟩) (Kd.R_far (p := ⟨gb473, 0, none⟩) (Kd.R_types HO466.out BK473.out (by decide)) (fun _ hk => hk.2) (.slice Ao26 t469.length co26)) (fun _ hk => hk.2) (.int .i64 t472)) (fun _ hk => hk.1.2)⟩, ⟨by (with_reducible repeat (first | apply Kd.R_alloc | apply Kd.R_drewN | apply Kd.R_drew)); exact Kd.R_mono (Kd.R_far (p := ⟨gb473, 1, none⟩) (Kd.R_far (p := ⟨gb473, 0, none⟩) (Kd.R_types HO471.out BK473.out (by decide)) (fun _ hk => hk.2) (.slice Ao26 t469.length co26)) (fun _ hk => hk.2) (.int .i64 t472)) (fun _ hk => hk.1.2)⟩, ⟨by (with_reducible repeat (first | refine blk_drewN ?_ _ | refine blk_drew ?_ | refine blk_alloc ?_ _)); refine blk_far ?_ NB457_473.out _; (with_reducible repeat (first | refine blk_drewN ?_ _ | refine blk_drew ?_ | refine blk_alloc ?_ _)); refine blk_far ?_ NB457_473.out _; (with_reducible repeat (first | refine blk_drewN ?_ _ | refine blk_drew ?_ | refine blk_alloc ?_ _)); exact BK457.out⟩, ⟨by (with_reducible repeat (first | refine blk_drewN ?_ _ | refine blk_drew ?_ | refine blk_alloc ?_ _)); refine blk_far ?_ NB463_473.out _; (with_reducible repeat (first | refine blk_drewN ?_ _ | refine blk_drew ?_ | refine blk_alloc ?_ _)); refine blk_far ?_ NB463_473.out _; (with_reducible repeat (first | refine blk_drewN ?_ _ | refine blk_drew ?_ | refine blk_alloc ?_ _)); exact BK463.out⟩, ⟨by (with_reducible repeat (first | refine blk_drewN ?_ _ | refine blk_drew ?_ | refine blk_alloc ?_ _)); refine blk_far ?_ NB468_473.out _; (with_reducible repeat (first | refine blk_drewN ?_ _ | refine blk_drew ?_ | refine blk_alloc ?_ _)); refine blk_far ?_ NB468_473.out _; (with_reducible repeat (first | refine blk_drewN ?_ _ | refine blk_drew ?_ | refine blk_alloc ?_ _)); exact BK468.out⟩, ⟨by (with_reducible repeat (first | refine blk_drewN ?_ _ | refine blk_drew ?_ | refine blk_alloc ?_ _)); refine blk_put (cs := #[.slice Ao26 t469.length co26, .int .i64 0]) ?_ 1 _ rfl; (with_reducible repeat (first | refine blk_drewN ?_ _ | refine blk_drew ?_ | refine blk_alloc ?_ _)); refine blk_put (cs := #[.slice none 0 0, .int .i64 0]) ?_ 0 _ rfl; (with_reducible repeat (first | refine blk_drewN ?_ _ | refine blk_drew ?_ | refine blk_alloc ?_ _)); exact BK473.out⟩, ⟨wB4 HB.out GE457.out GE463.out GE468.out GE473.out⟩⟩
  case rest =>
   clear HC8
   try clear c1; try clear c2; try clear p2; try clear c3; try clear c4; try clear c5; try clear c6; try clear c10; try clear c11; try clear c14; try clear c15; try clear c17; try clear c20; try clear c21; try clear c27; try clear c28; try clear c29; try clear c31; try clear c31b0; try clear c31b1; try clear c31b2; try clear c32; try clear c32b0; try clear c32b1; try clear c33; try clear c33b0; try clear c33b1; try clear c34; try clear c35; try clear c36; try clear c38; try clear c39; try clear c41; try clear c42; try clear c43; try clear c45; try clear c46; try clear c48; try clear c48b0; try clear c48b1
   try clear c49; try clear c49b0; try clear c49b1; try clear c50; try clear c51; try clear c52; try clear c54; try clear c55; try clear c57; try clear c58; try clear c59; try clear c61; try clear c62; try clear hcz11_0; try clear hcz11_1; try clear hcz11_2; try clear hcz15_0; try clear hcz15_1; try clear hcz22_0; try clear hcz22_1; try clear hcz23_0; try clear hcz23_1; try clear hcz30_0; try clear hcz30_1; try clear hcz37_0; try clear hcz37_1; try clear hcz40_0; try clear hcz40_1; try clear hcz44_0; try clear hcz44_1; try clear hcz47_0; try clear hcz47_1; try clear hcz53_0; try clear hcz53_1; try clear hcz56_0; try clear hcz56_1; try clear hcz60_0; try clear hcz60_1; try clear hcz63_0; try clear hcz63_1
   try clear hfz11_0; try clear hfz11_1; try clear hfz11_2; try clear hfz15_0; try clear hfz15_1; try clear hfz22_0; try clear hfz22_1; try clear hfz23_0; try clear hfz23_1; try clear hfz30_0; try clear hfz30_1; try clear hfz37_0; try clear hfz37_1; try clear hfz40_0; try clear hfz40_1; try clear hfz44_0; try clear hfz44_1; try clear hfz47_0; try clear hfz47_1; try clear hfz53_0; try clear hfz53_1; try clear hfz56_0; try clear hfz56_1; try clear hfz60_0; try clear hfz60_1; try clear hfz63_0; try clear hfz63_1
   obtain ⟨kq, x50_7, rfl, HA, HJ7, HO_464001, HO_469000, HO_474000, BK457, BK463, BK468, BK473, HB⟩ := hcut
   cases kq with
   | zero => exact absurd HA.out (by simp [wireloomlaw05_DigraphOrders.j0])
   | succ kj7 =>
    have H := HA.out
    clear HA
    simp only [wireloomlaw05_DigraphOrders.j0] at H
    by_cases c64 : x50_7 = true
    ·subst c64
     have H1 : (none) = some r := by rw [if_pos rfl] at H; exact H
     clear H
     have H := H1
     clear H1
     exact absurd H (by simp)
    ·replace c64 := Bool.eq_false_iff.mpr c64
     subst c64
     have H1 : (if t467 = 0 then (if (t464.length : Int) = t459 then ((digraph_Check.f t459 t460 t464).bind fun t474 => (if t474 = 0 then (wireloomlaw05_DigraphOrders.l0 kj7 a1 true 0 t459 t460 t464 t467) else (none))) else (none)) else (some true)) = some r := by rw [if_neg (show ¬ (false = true) by decide)] at H; exact H
     clear H
     have H := H1
     clear H1
     by_cases c65 : t467 = 0
     ·rw [if_pos c65] at H
      have c65b0 : (t467 == 0) = true := beq_iff_eq.mpr c65
      have c65b1 : (t467 != 0) = false := bne_eq_false_iff_eq.mpr c65
      clear c65
      by_cases c66 : (t464.length : Int) = t459
      rotate_left
      ·rw [if_neg c66] at H
       exact absurd H (by simp)
      rw [if_pos c66] at H
      have c66b0 : ((t464.length : Int) == t459) = true := beq_iff_eq.mpr c66
      have c66b1 : ((t464.length : Int) != t459) = false := bne_eq_false_iff_eq.mpr c66
      clear c66
      replace H := Option.bind_eq_some_iff.mp H
      obtain ⟨t474, A670, H⟩ := H
      replace H : (if t474 = 0 then (wireloomlaw05_DigraphOrders.l0 kj7 a1 true 0 t459 t460 t464 t467) else (none)) = some r := H
      have A67 := Aside0.mk A670
      clear A670
      by_cases c68 : t474 = 0
      rotate_left
      ·rw [if_neg c68] at H
       exact absurd H (by simp)
      rw [if_pos c68] at H
      have c68b0 : (t474 == 0) = true := beq_iff_eq.mpr c68
      have c68b1 : (t474 != 0) = false := bne_eq_false_iff_eq.mpr c68
      clear c68
      have H' := Aside0.mk H
      clear H
      have hnb69 := NB468_457.out
      have hnc69 := NB457_468.out
      have hnb70 := NB468_463.out
      have hnc70 := NB463_468.out
      have hnb71 := NB468_473.out
      have hnc71 := NB473_468.out
      have hcz72_0 : wc.cell? ⟨gb468, 0, none⟩ = some (.slice Ao19 t464.length co19) := (blk_cell BK468.out 0).trans rfl
      have hcz72_1 : wc.cell? ⟨gb468, 1, none⟩ = some (.int .i64 t467) := (blk_cell BK468.out 1).trans rfl
      have hfz72_0 := blk_frozen BK468.out 0
      have hfz72_1 := blk_frozen BK468.out 1
      have hnb73 := NB463_457.out
      have hnc73 := NB457_463.out
      have hnb74 := NB463_473.out
      have hnc74 := NB473_463.out
      have hcz75_0 : wc.cell? ⟨gb463, 0, none⟩ = some (.int .i64 t459) := (blk_cell BK463.out 0).trans rfl
      have hcz75_1 : wc.cell? ⟨gb463, 1, none⟩ = some (.slice Ao16 t460.length co16) := (blk_cell BK463.out 1).trans rfl
      have hfz75_0 := blk_frozen BK463.out 0
      have hfz75_1 := blk_frozen BK463.out 1
      go_wp2_with (first | (go_at_call 21; (with_reducible refine (digraph_Check.calls t459 _ _ t460 _ _ t464 t474 _ ?side1 ?side2 ?side3 ?side4 A67.out).mono ?_); (case side1 => exact cA (Kd.R_reads' HO_464001.out).2.2); (case side2 => exact (Kd.R_reads' HO_464001.out).2.1); (case side3 => exact cA (Kd.R_reads' HO_469000.out).2.2); (case side4 => exact (Kd.R_reads' HO_469000.out).2.1); rintro e w76 ⟨rfl, hb⟩; replace HO_464001 := Aside0.mk (Kd.R_below (rA HO_464001.out) hb); replace HO_469000 := Aside0.mk (Kd.R_below (rA HO_469000.out) hb); replace HO_474000 := Aside0.mk (Kd.R_below (rA HO_474000.out) hb); replace BK457 := kC BK457 hb; replace BK463 := kC BK463 hb; replace BK468 := kC BK468 hb; replace BK473 := kC BK473 hb; replace HB := Aside0.mk (below_step (wB4 HB.out GE457.out GE463.out GE468.out GE473.out) hb); (try clear hb); (try clear hb2); (try clear hk); (try clear hi)))
      go_loopg [9] kj7 (fun kq v9 w' => ∃ (x9_2 : Int), v9 = .int .i64 x9_2 ∧ Aside0 (wireloomlaw05_DigraphOrders.l0 kq a1 true x9_2 t459 t460 t464 t467 = some r) ∧ Aside0 (kq ≤ kj7) ∧ Aside0 (Kd.R k55 55 w' w.heap.size (fun _ => True) (.slice Ao16 t460.length co16) t460) ∧ Aside0 (Kd.R (Kd.int .i64) 3 w' w.heap.size (fun k_ => some k_ ≠ ((.slice Ao26 t469.length co26) : Value).ownBlock) (.slice Ao19 t464.length co19) t464) ∧ Aside0 (Kd.R (Kd.int .i64) 3 w' w.heap.size (fun k_ => some k_ ≠ ((.slice Ao19 t464.length co19) : Value).ownBlock) (.slice Ao26 t469.length co26) t469) ∧ Aside0 (w'.heap[gb457]? = some (.cells #[.int .u8 a0_0, .int .u8 a0_1, (.slice A0_2 l0_2.length c0_2)] 24 (0, 0))) ∧ Aside0 (w'.heap[gb463]? = some (.cells #[.int .i64 t459, (.slice Ao16 t460.length co16)] 31 (0, 0))) ∧ Aside0 (w'.heap[gb468]? = some (.cells #[(.slice Ao19 t464.length co19), .int .i64 t467] 37 (0, 0))) ∧ Aside0 (w'.heap[gb473]? = some (.cells #[(.slice Ao26 t469.length co26), .int .i64 t472] 37 (0, 0))) ∧ Aside0 (Below w.heap.size w w'))
      case atStart => exact ⟨(0), rS, H', ⟨Nat.le_refl _⟩, ⟨rA HO_464001.out⟩, ⟨rA HO_469000.out⟩, ⟨rA HO_474000.out⟩, ⟨bA BK457.out⟩, ⟨bA BK463.out⟩, ⟨bA BK468.out⟩, ⟨bA BK473.out⟩, ⟨wB4 HB.out GE457.out GE463.out GE468.out GE473.out⟩⟩
      case round =>
       clear H'
       try clear c1; try clear c2; try clear p2; try clear c3; try clear c4; try clear c5; try clear c6; try clear c7; try clear c10; try clear c11; try clear c14; try clear c15; try clear c17; try clear c20; try clear c21; try clear c27; try clear c28; try clear c29; try clear c31; try clear c31b0; try clear c31b1; try clear c31b2; try clear c32; try clear c32b0; try clear c32b1; try clear c33; try clear c33b0; try clear c33b1; try clear c34; try clear c35; try clear c36; try clear c38; try clear c39; try clear c41; try clear c42; try clear c43; try clear c45; try clear c46; try clear c48; try clear c48b0
       try clear c48b1; try clear c49; try clear c49b0; try clear c49b1; try clear c50; try clear c51; try clear c52; try clear c54; try clear c55; try clear c57; try clear c58; try clear c59; try clear c61; try clear c62; try clear c64; try clear c65; try clear c65b0; try clear c65b1; try clear c66; try clear c66b0; try clear c66b1; try clear c68; try clear c68b0; try clear c68b1; try clear c69; try clear c70; try clear c71; try clear c73; try clear c74; try clear hcz11_0; try clear hcz11_1; try clear hcz11_2; try clear hcz15_0; try clear hcz15_1; try clear hcz22_0; try clear hcz22_1; try clear hcz23_0; try clear hcz23_1; try clear hcz30_0; try clear hcz30_1
       try clear hcz37_0; try clear hcz37_1; try clear hcz40_0; try clear hcz40_1; try clear hcz44_0; try clear hcz44_1; try clear hcz47_0; try clear hcz47_1; try clear hcz53_0; try clear hcz53_1; try clear hcz56_0; try clear hcz56_1; try clear hcz60_0; try clear hcz60_1; try clear hcz63_0; try clear hcz63_1; try clear hcz72_0; try clear hcz72_1; try clear hcz75_0; try clear hcz75_1; try clear hfz11_0; try clear hfz11_1; try clear hfz11_2; try clear hfz15_0; try clear hfz15_1; try clear hfz22_0; try clear hfz22_1; try clear hfz23_0; try clear hfz23_1; try clear hfz30_0; try clear hfz30_1; try clear hfz37_0; try clear hfz37_1; try clear hfz40_0; try clear hfz40_1; try clear hfz44_0; try clear hfz44_1; try clear hfz47_0; try clear hfz47_1; try clear hfz53_0
       try clear hfz53_1; try clear hfz56_0; try clear hfz56_1; try clear hfz60_0; try clear hfz60_1; try clear hfz63_0; try clear hfz63_1; try clear hfz72_0; try clear hfz72_1; try clear hfz75_0; try clear hfz75_1; try clear p2
       obtain ⟨x9_2, rfl, HA, HK2, HO_464001, HO_469000, HO_474000, BK457, BK463, BK468, BK473, HB⟩ := hrel
       cases gk with
       | zero => exact absurd HA.out (by simp [wireloomlaw05_DigraphOrders.l0])
       | succ k2 =>
        have H := HA.out
        clear HA
        simp only [wireloomlaw05_DigraphOrders.l0] at H
        by_cases c77 : x9_2 < t459
        ·rw [if_pos c77] at H
         have c77b0 : decide (x9_2 < t459) = true := decide_eq_true c77
         clear c77
         have H' := Aside0.mk H
         clear H
         have hnb78 := NB463_457.out
         have hnc78 := NB457_463.out
         have hnb79 := NB463_468.out
         have hnc79 := NB468_463.out
         have hnb80 := NB463_473.out
         have hnc80 := NB473_463.out
         have hcz81_0 : wr.cell? ⟨gb463, 0, none⟩ = some (.int .i64 t459) := (blk_cell BK463.out 0).trans rfl
         have hcz81_1 : wr.cell? ⟨gb463, 1, none⟩ = some (.slice Ao16 t460.length co16) := (blk_cell BK463.out 1).trans rfl
         have hfz81_0 := blk_frozen BK463.out 0
         have hfz81_1 := blk_frozen BK463.out 1
         go_wp2
         go_loopg [10] k2 (fun kq v10 w' => ∃ (x10_3 : Int), v10 = .int .i64 x10_3 ∧ Aside0 (wireloomlaw05_DigraphOrders.l1 kq a1 true x9_2 x10_3 t459 t460 t464 t467 = some r) ∧ Aside0 (kq ≤ k2) ∧ Aside0 (Kd.R k55 55 w' w.heap.size (fun _ => True) (.slice Ao16 t460.length co16) t460) ∧ Aside0 (Kd.R (Kd.int .i64) 3 w' w.heap.size (fun k_ => some k_ ≠ ((.slice Ao26 t469.length co26) : Value).ownBlock) (.slice Ao19 t464.length co19) t464) ∧ Aside0 (Kd.R (Kd.int .i64) 3 w' w.heap.size (fun k_ => some k_ ≠ ((.slice Ao19 t464.length co19) : Value).ownBlock) (.slice Ao26 t469.length co26) t469) ∧ Aside0 (w'.heap[gb457]? = some (.cells #[.int .u8 a0_0, .int .u8 a0_1, (.slice A0_2 l0_2.length c0_2)] 24 (0, 0))) ∧ Aside0 (w'.heap[gb463]? = some (.cells #[.int .i64 t459, (.slice Ao16 t460.length co16)] 31 (0, 0))) ∧ Aside0 (w'.heap[gb468]? = some (.cells #[(.slice Ao19 t464.length co19), .int .i64 t467] 37 (0, 0))) ∧ Aside0 (w'.heap[gb473]? = some (.cells #[(.slice Ao26 t469.length co26), .int .i64 t472] 37 (0, 0))) ∧ Aside0 (Below w.heap.size w w'))
         case atStart => exact ⟨(wrap64 (x9_2 + 1)), rS, H', ⟨Nat.le_refl _⟩, ⟨rA HO_464001.out⟩, ⟨rA HO_469000.out⟩, ⟨rA HO_474000.out⟩, ⟨bA BK457.out⟩, ⟨bA BK463.out⟩, ⟨bA BK468.out⟩, ⟨bA BK473.out⟩, ⟨wB4 HB.out GE457.out GE463.out GE468.out GE473.out⟩⟩
         case round =>
          clear H'
          try clear c1; try clear c2; try clear p2; try clear c3; try clear c4; try clear c5; try clear c6; try clear p6; try clear c7; try clear c8; try clear c10; try clear c11; try clear c14; try clear c15; try clear c17; try clear c20; try clear c21; try clear c27; try clear c28; try clear c29; try clear c31; try clear c31b0; try clear c31b1; try clear c31b2; try clear c32; try clear c32b0; try clear c32b1; try clear c33; try clear c33b0; try clear c33b1; try clear c34; try clear c35; try clear c36; try clear c38; try clear c39; try clear c41; try clear c42; try clear c43; try clear c45; try clear c46
          try clear c48; try clear c48b0; try clear c48b1; try clear c49; try clear c49b0; try clear c49b1; try clear c50; try clear c51; try clear c52; try clear c54; try clear c55; try clear c57; try clear c58; try clear c59; try clear c61; try clear c62; try clear c64; try clear p64; try clear c65; try clear c65b0; try clear c65b1; try clear c66; try clear c66b0; try clear c66b1; try clear c68; try clear c68b0; try clear c68b1; try clear c69; try clear c70; try clear c71; try clear c73; try clear c74; try clear c77; try clear c77b0; try clear c78; try clear c79; try clear c80; try clear hcz11_0; try clear hcz11_1; try clear hcz11_2
          try clear hcz15_0; try clear hcz15_1; try clear hcz22_0; try clear hcz22_1; try clear hcz23_0; try clear hcz23_1; try clear hcz30_0; try clear hcz30_1; try clear hcz37_0; try clear hcz37_1; try clear hcz40_0; try clear hcz40_1; try clear hcz44_0; try clear hcz44_1; try clear hcz47_0; try clear hcz47_1; try clear hcz53_0; try clear hcz53_1; try clear hcz56_0; try clear hcz56_1; try clear hcz60_0; try clear hcz60_1; try clear hcz63_0; try clear hcz63_1; try clear hcz72_0; try clear hcz72_1; try clear hcz75_0; try clear hcz75_1; try clear hcz81_0; try clear hcz81_1; try clear hfz11_0; try clear hfz11_1; try clear hfz11_2; try clear hfz15_0; try clear hfz15_1; try clear hfz22_0; try clear hfz22_1; try clear hfz23_0; try clear hfz23_1; try clear hfz30_0
          try clear hfz30_1; try clear hfz37_0; try clear hfz37_1; try clear hfz40_0; try clear hfz40_1; try clear hfz44_0; try clear hfz44_1; try clear hfz47_0; try clear hfz47_1; try clear hfz53_0; try clear hfz53_1; try clear hfz56_0; try clear hfz56_1; try clear hfz60_0; try clear hfz60_1; try clear hfz63_0; try clear hfz63_1; try clear hfz72_0; try clear hfz72_1; try clear hfz75_0; try clear hfz75_1; try clear hfz81_0; try clear hfz81_1; try clear p2
          obtain ⟨x10_3, rfl, HA, HK3, HO_464001, HO_469000, HO_474000, BK457, BK463, BK468, BK473, HB⟩ := hrel
          cases gk with
          | zero => exact absurd HA.out (by simp [wireloomlaw05_DigraphOrders.l1])
          | succ k3 =>
           have H := HA.out
           clear HA
           simp only [wireloomlaw05_DigraphOrders.l1] at H
           by_cases c82 : x10_3 < t459
           ·rw [if_pos c82] at H
            have c82b0 : decide (x10_3 < t459) = true := decide_eq_true c82
            clear c82
            by_cases c83 : 0 ≤ x10_3
            rotate_left
            ·rw [if_neg c83] at H
             exact absurd H (by simp)
            rw [if_pos c83] at H
            have c83b0 : decide (0 ≤ x10_3) = true := decide_eq_true c83
            clear c83
            by_cases c84 : x10_3 < (t464.length : Int)
            rotate_left
            ·rw [if_neg c84] at H
             exact absurd H (by simp)
            rw [if_pos c84] at H
            have c84b0 : decide (x10_3 < (t464.length : Int)) = true := decide_eq_true c84
            clear c84
            by_cases c85 : 0 ≤ x9_2
            rotate_left
            ·rw [if_neg c85] at H
             exact absurd H (by simp)
            rw [if_pos c85] at H
            have c85b0 : decide (0 ≤ x9_2) = true := decide_eq_true c85
            clear c85
            by_cases c86 : x9_2 < (t464.length : Int)
            rotate_left
            ·rw [if_neg c86] at H
             exact absurd H (by simp)
            rw [if_pos c86] at H
            have c86b0 : decide (x9_2 < (t464.length : Int)) = true := decide_eq_true c86
            clear c86
            by_cases c87 : (rd t464 x10_3) > (rd t464 x9_2)
            ·rw [if_pos c87] at H
             have c87b0 : decide ((rd t464 x9_2) < (rd t464 x10_3)) = true := decide_eq_true c87
             clear c87
             have H' := Aside0.mk H
             clear H
             have hnb88 := NB463_457.out
             have hnc88 := NB457_463.out
             have hnb89 := NB463_468.out
             have hnc89 := NB468_463.out
             have hnb90 := NB463_473.out
             have hnc90 := NB473_463.out
             have hcz91_0 : wr.cell? ⟨gb463, 0, none⟩ = some (.int .i64 t459) := (blk_cell BK463.out 0).trans rfl
             have hcz91_1 : wr.cell? ⟨gb463, 1, none⟩ = some (.slice Ao16 t460.length co16) := (blk_cell BK463.out 1).trans rfl
             have hfz91_0 := blk_frozen BK463.out 0
             have hfz91_1 := blk_frozen BK463.out 1
             try go_wp2
             replace HO_464001 := Aside0.mk (Kd.R_drew HO_464001.out)
             replace HO_469000 := Aside0.mk (Kd.R_drew HO_469000.out)
             replace HO_474000 := Aside0.mk (Kd.R_drew HO_474000.out)
             replace BK457 := Aside0.mk (blk_drew BK457.out)
             replace BK463 := Aside0.mk (blk_drew BK463.out)
             replace BK468 := Aside0.mk (blk_drew BK468.out)
             replace BK473 := Aside0.mk (blk_drew BK473.out)
             replace HB := Aside0.mk (below_drew1 HB.out)
             have p475 : 0 ≤ (x10_3 : Int) := oD
             have q475 : x10_3 < (t464.length : Int) := oD
             obtain ⟨ad475, e475, hx475_0⟩ := Kd.at_int (Kd.R_reads' HO_469000.out).2.2 x10_3 p475 q475
             cases e475
             replace p475 := eq_true p475
             replace q475 := eq_true q475
             have p476 : 0 ≤ (x9_2 : Int) := oD
             have q476 : x9_2 < (t464.length : Int) := oD
             obtain ⟨ad476, e476, hx476_0⟩ := Kd.at_int (Kd.R_reads' HO_469000.out).2.2 x9_2 p476 q476
             obtain rfl : ad475 = ad476 := (by injection e476)
             replace p476 := eq_true p476
             replace q476 := eq_true q476
             refine start_ (n := 11) (S := fun w' => w'.cell? ⟨gb468, 0, none⟩ = some (.slice (some ad475) t464.length co19) ∧ w'.cell? ⟨gb468, 1, none⟩ = some (.int .i64 t467) ∧ w'.cell? (ad475.add (x10_3).toNat) = some (.int .i64 (rd t464 x10_3)) ∧ w'.cell? (ad475.add (x9_2).toNat) = some (.int .i64 (rd t464 x9_2))) (ds := []) #[false, false, false, false, false, false, false, false, false, false, false] (by kernel_rfl) rfl rfl ⟨(blk_cell BK468.out 0).trans rfl, (blk_cell BK468.out 1).trans rfl, hx475_0, hx476_0⟩ (fun hHeld => ?_); refine with_tabW wireloomlaw05_DigraphOrders.tab19 wireloomlaw05_DigraphOrders.bits19 (fun HT_ HW_ => ?_)
             generalize wr.drew = w92 at HO_464001 HO_469000 HO_474000 BK457 BK463 BK468 BK473 HB hx475_0 hx476_0 hHeld ⊢
             refine pV 0 85 (bz 11 0x1) HT_.out ?_
             refine pV 2 87 (bz 11 0x5) HT_.out ?_
             refine pV 5 90 (bz 11 0x25) HT_.out ?_
             refine pV 7 92 (bz 11 0xa5) HT_.out ?_
             refine tV 1 86 (bz 11 0xa7) HT_.out HW_.out hHeld rfl rfl (by rintro w' ⟨s0, s1, s2, s3⟩; go_simp; with_reducible rfl) ?_
             refine pV 3 88 (bz 11 0xaf) HT_.out ?_
             refine tV 4 89 (bz 11 0xbf) HT_.out HW_.out hHeld rfl rfl (by rintro w' ⟨s0, s1, s2, s3⟩; go_simp; with_reducible rfl) ?_
             refine tV 6 91 (bz 11 0xff) HT_.out HW_.out hHeld rfl rfl (by rintro w' ⟨s0, s1, s2, s3⟩; go_simp; with_reducible rfl) ?_
             refine pV 8 93 (bz 11 0x1ff) HT_.out ?_
             refine tV 9 94 (bz 11 0x3ff) HT_.out HW_.out hHeld rfl rfl (by rintro w' ⟨s0, s1, s2, s3⟩; go_simp; with_reducible rfl) ?_
             refine pV 10 95 (bz 11 0x7ff) HT_.out ?_
             refine done_ (done_of HT_.out (by kernel_rfl)) ?_
             try go_wp2
             go_roundg k3
             case measure => have := HJ7.out; have := HK2.out; have := HK3.out; omega
             case rel => exact ⟨(wrap64 (x10_3 + 1)), rS, H', ⟨by have := HJ7.out; have := HK2.out; have := HK3.out; omega⟩, ⟨rA HO_464001.out⟩, ⟨rA HO_469000.out⟩, ⟨rA HO_474000.out⟩, ⟨bA BK457.out⟩, ⟨bA BK463.out⟩, ⟨bA BK468.out⟩, ⟨bA BK473.out⟩, ⟨wB4 HB.out GE457.out GE463.out GE468.out GE473.out⟩⟩
            ·rw [if_neg c87] at H
             have c87b0 : decide ((rd t464 x9_2) < (rd t464 x10_3)) = false := decide_eq_false c87
             clear c87
             have H' := Aside0.mk H
             clear H
             have hnb93 := NB463_457.out
             have hnc93 := NB457_463.out
             have hnb94 := NB463_468.out
             have hnc94 := NB468_463.out
             have hnb95 := NB463_473.out
             have hnc95 := NB473_463.out
             have hcz96_0 : wr.cell? ⟨gb463, 0, none⟩ = some (.int .i64 t459) := (blk_cell BK463.out 0).trans rfl
             have hcz96_1 : wr.cell? ⟨gb463, 1, none⟩ = some (.slice Ao16 t460.length co16) := (blk_cell BK463.out 1).trans rfl
             have hfz96_0 := blk_frozen BK463.out 0
             have hfz96_1 := blk_frozen BK463.out 1
             try go_wp2
             replace HO_464001 := Aside0.mk (Kd.R_drew HO_464001.out)
             replace HO_469000 := Aside0.mk (Kd.R_drew HO_469000.out)
             replace HO_474000 := Aside0.mk (Kd.R_drew HO_474000.out)
             replace BK457 := Aside0.mk (blk_drew BK457.out)
             replace BK463 := Aside0.mk (blk_drew BK463.out)
             replace BK468 := Aside0.mk (blk_drew BK468.out)
             replace BK473 := Aside0.mk (blk_drew BK473.out)
             replace HB := Aside0.mk (below_drew1 HB.out)
             have p475 : 0 ≤ (x10_3 : Int) := oD
             have q475 : x10_3 < (t464.length : Int) := oD
             obtain ⟨ad475, e475, hx475_0⟩ := Kd.at_int (Kd.R_reads' HO_469000.out).2.2 x10_3 p475 q475
             cases e475
             replace p475 := eq_true p475
             replace q475 := eq_true q475
             have p476 : 0 ≤ (x9_2 : Int) := oD
             have q476 : x9_2 < (t464.length : Int) := oD
             obtain ⟨ad476, e476, hx476_0⟩ := Kd.at_int (Kd.R_reads' HO_469000.out).2.2 x9_2 p476 q476
             obtain rfl : ad475 = ad476 := (by injection e476)
             replace p476 := eq_true p476
             replace q476 := eq_true q476
             refine start_ (n := 11) (S := fun w' => w'.cell? ⟨gb468, 0, none⟩ = some (.slice (some ad475) t464.length co19) ∧ w'.cell? ⟨gb468, 1, none⟩ = some (.int .i64 t467) ∧ w'.cell? (ad475.add (x10_3).toNat) = some (.int .i64 (rd t464 x10_3)) ∧ w'.cell? (ad475.add (x9_2).toNat) = some (.int .i64 (rd t464 x9_2))) (ds := []) #[false, false, false, false, false, false, false, false, false, false, false] (by kernel_rfl) rfl rfl ⟨(blk_cell BK468.out 0).trans rfl, (blk_cell BK468.out 1).trans rfl, hx475_0, hx476_0⟩ (fun hHeld => ?_); refine with_tabW wireloomlaw05_DigraphOrders.tab19 wireloomlaw05_DigraphOrders.bits19 (fun HT_ HW_ => ?_)
             generalize wr.drew = w97 at HO_464001 HO_469000 HO_474000 BK457 BK463 BK468 BK473 HB hx475_0 hx476_0 hHeld ⊢
             refine pV 0 85 (bz 11 0x1) HT_.out ?_
             refine pV 2 87 (bz 11 0x5) HT_.out ?_
             refine pV 5 90 (bz 11 0x25) HT_.out ?_
             refine pV 7 92 (bz 11 0xa5) HT_.out ?_
             refine tV 1 86 (bz 11 0xa7) HT_.out HW_.out hHeld rfl rfl (by rintro w' ⟨s0, s1, s2, s3⟩; go_simp; with_reducible rfl) ?_
             refine pV 3 88 (bz 11 0xaf) HT_.out ?_
             refine tV 4 89 (bz 11 0xbf) HT_.out HW_.out hHeld rfl rfl (by rintro w' ⟨s0, s1, s2, s3⟩; go_simp; with_reducible rfl) ?_
             refine tV 6 91 (bz 11 0xff) HT_.out HW_.out hHeld rfl rfl (by rintro w' ⟨s0, s1, s2, s3⟩; go_simp; with_reducible rfl) ?_
             refine pV 8 93 (bz 11 0x1ff) HT_.out ?_
             refine tV 9 94 (bz 11 0x3ff) HT_.out HW_.out hHeld rfl rfl (by rintro w' ⟨s0, s1, s2, s3⟩; go_simp; with_reducible rfl) ?_
             refine pV 10 95 (bz 11 0x7ff) HT_.out ?_
             refine done_ (done_of HT_.out (by kernel_rfl)) ?_
             try go_wp2
             go_loopg [11, 12] k3 (fun kq v11 v12 w' => ∃ (x11_4 : Bool) (x12_4 : Int), v11 = .bool x11_4 ∧ v12 = .int .i64 x12_4 ∧ Aside0 (wireloomlaw05_DigraphOrders.l2 kq a1 true x9_2 x10_3 x11_4 x12_4 t459 t460 t464 t467 = some r) ∧ Aside0 (kq ≤ k3) ∧ Aside0 (Kd.R k55 55 w' w.heap.size (fun _ => True) (.slice Ao16 t460.length co16) t460) ∧ Aside0 (Kd.R (Kd.int .i64) 3 w' w.heap.size (fun k_ => some k_ ≠ ((.slice Ao26 t469.length co26) : Value).ownBlock) (.slice (some ad475) t464.length co19) t464) ∧ Aside0 (Kd.R (Kd.int .i64) 3 w' w.heap.size (fun k_ => some k_ ≠ ((.slice (some ad475) t464.length co19) : Value).ownBlock) (.slice Ao26 t469.length co26) t469) ∧ Aside0 (w'.heap[gb457]? = some (.cells #[.int .u8 a0_0, .int .u8 a0_1, (.slice A0_2 l0_2.length c0_2)] 24 (0, 0))) ∧ Aside0 (w'.heap[gb463]? = some (.cells #[.int .i64 t459, (.slice Ao16 t460.length co16)] 31 (0, 0))) ∧ Aside0 (w'.heap[gb468]? = some (.cells #[(.slice (some ad475) t464.length co19), .int .i64 t467] 37 (0, 0))) ∧ Aside0 (w'.heap[gb473]? = some (.cells #[(.slice Ao26 t469.length co26), .int .i64 t472] 37 (0, 0))) ∧ Aside0 (Below w.heap.size w w'))
             case atStart => exact ⟨(false), (x9_2), rS, rS, H', ⟨Nat.le_refl _⟩, ⟨rA HO_464001.out⟩, ⟨rA HO_469000.out⟩, ⟨rA HO_474000.out⟩, ⟨bA BK457.out⟩, ⟨bA BK463.out⟩, ⟨bA BK468.out⟩, ⟨bA BK473.out⟩, ⟨wB4 HB.out GE457.out GE463.out GE468.out GE473.out⟩⟩
             case round =>
              clear H'
              try clear c1; try clear c2; try clear p2; try clear c3; try clear c4; try clear p4; try clear q4; try clear hx4; try clear c5; try clear c6; try clear p6; try clear c7; try clear c8; try clear c9; try clear c10; try clear c11; try clear c14; try clear c15; try clear c17; try clear c20; try clear c21; try clear c27; try clear c28; try clear c29; try clear c31; try clear c31b0; try clear c31b1; try clear c31b2; try clear c32; try clear c32b0; try clear c32b1; try clear c33; try clear c33b0; try clear c33b1; try clear c34; try clear c35; try clear c36; try clear c38; try clear c39; try clear c41
              try clear c42; try clear c43; try clear c45; try clear c46; try clear p47; try clear q47; try clear hx47; try clear c48; try clear c48b0; try clear c48b1; try clear c49; try clear c49b0; try clear c49b1; try clear c50; try clear c51; try clear c52; try clear c54; try clear c55; try clear c57; try clear c58; try clear c59; try clear c61; try clear c62; try clear c64; try clear p64; try clear c65; try clear c65b0; try clear c65b1; try clear c66; try clear c66b0; try clear c66b1; try clear c68; try clear c68b0; try clear c68b1; try clear c69; try clear c70; try clear c71; try clear c73; try clear c74; try clear c77
              try clear c77b0; try clear c78; try clear c79; try clear c80; try clear c82; try clear c82b0; try clear c83; try clear c83b0; try clear c84; try clear c84b0; try clear c85; try clear c85b0; try clear c86; try clear c86b0; try clear c87; try clear c87b0; try clear c88; try clear c89; try clear c90; try clear c93; try clear c94; try clear c95; try clear hcz11_0; try clear hcz11_1; try clear hcz11_2; try clear hcz15_0; try clear hcz15_1; try clear hcz22_0; try clear hcz22_1; try clear hcz23_0; try clear hcz23_1; try clear hcz30_0; try clear hcz30_1; try clear hcz37_0; try clear hcz37_1; try clear hcz40_0; try clear hcz40_1; try clear hcz44_0; try clear hcz44_1; try clear hcz47_0
              try clear hcz47_1; try clear hcz53_0; try clear hcz53_1; try clear hcz56_0; try clear hcz56_1; try clear hcz60_0; try clear hcz60_1; try clear hcz63_0; try clear hcz63_1; try clear hcz72_0; try clear hcz72_1; try clear hcz75_0; try clear hcz75_1; try clear hcz81_0; try clear hcz81_1; try clear hcz91_0; try clear hcz91_1; try clear hcz96_0; try clear hcz96_1; try clear hfz11_0; try clear hfz11_1; try clear hfz11_2; try clear hfz15_0; try clear hfz15_1; try clear hfz22_0; try clear hfz22_1; try clear hfz23_0; try clear hfz23_1; try clear hfz30_0; try clear hfz30_1; try clear hfz37_0; try clear hfz37_1; try clear hfz40_0; try clear hfz40_1; try clear hfz44_0; try clear hfz44_1; try clear hfz47_0; try clear hfz47_1; try clear hfz53_0; try clear hfz53_1
              try clear hfz56_0; try clear hfz56_1; try clear hfz60_0; try clear hfz60_1; try clear hfz63_0; try clear hfz63_1; try clear hfz72_0; try clear hfz72_1; try clear hfz75_0; try clear hfz75_1; try clear hfz81_0; try clear hfz81_1; try clear hfz91_0; try clear hfz91_1; try clear hfz96_0; try clear hfz96_1; try clear hx475_0; try clear hx476_0; try clear p2; try clear p475; try clear p476; try clear p6; try clear p64; try clear q475; try clear q476
              obtain ⟨x11_4, x12_4, rfl, rfl, HA, HK4, HO_464001, HO_469000, HO_474000, BK457, BK463, BK468, BK473, HB⟩ := hrel
              cases gk with
              | zero => exact absurd HA.out (by simp [wireloomlaw05_DigraphOrders.l2])
              | succ k4 =>
               have H := HA.out
               clear HA
               simp only [wireloomlaw05_DigraphOrders.l2] at H
               by_cases c98 : x12_4 < t459
               ·rw [if_pos c98] at H
                have c98b0 : decide (x12_4 < t459) = true := decide_eq_true c98
                clear c98
                by_cases c99 : x11_4 = true
                ·subst c99
                 have H1 : (wireloomlaw05_DigraphOrders.l2 k4 a1 true x9_2 x10_3 true (wrap64 (x12_4 + 1)) t459 t460 t464 t467) = some r := by rw [if_pos rfl] at H; exact H
                 clear H
                 have H := H1
                 clear H1
                 have H' := Aside0.mk H
                 clear H
                 have hnb100 := NB463_457.out
                 have hnc100 := NB457_463.out
                 have hnb101 := NB463_468.out
                 have hnc101 := NB468_463.out
                 have hnb102 := NB463_473.out
                 have hnc102 := NB473_463.out
                 have hcz103_0 : wr.cell? ⟨gb463, 0, none⟩ = some (.int .i64 t459) := (blk_cell BK463.out 0).trans rfl
                 have hcz103_1 : wr.cell? ⟨gb463, 1, none⟩ = some (.slice Ao16 t460.length co16) := (blk_cell BK463.out 1).trans rfl
                 have hfz103_0 := blk_frozen BK463.out 0
                 have hfz103_1 := blk_frozen BK463.out 1
                 try go_wp2
                 replace HO_464001 := Aside0.mk (Kd.R_drew HO_464001.out)
                 replace HO_469000 := Aside0.mk (Kd.R_drew HO_469000.out)
                 replace HO_474000 := Aside0.mk (Kd.R_drew HO_474000.out)
                 replace BK457 := Aside0.mk (blk_drew BK457.out)
                 replace BK463 := Aside0.mk (blk_drew BK463.out)
                 replace BK468 := Aside0.mk (blk_drew BK468.out)
                 replace BK473 := Aside0.mk (blk_drew BK473.out)
                 replace HB := Aside0.mk (below_drew1 HB.out)
                 refine start_ (n := 17) (S := fun w' => True) (ds := []) #[false, false, false, false, false, false, false, false, false, false, false, false, false, false, false, false, false] (by kernel_rfl) rfl rfl trivial (fun hHeld => ?_); refine with_tabW wireloomlaw05_DigraphOrders.tab24 wireloomlaw05_DigraphOrders.bits24 (fun HT_ HW_ => ?_)
                 generalize wr.drew = w104 at HO_464001 HO_469000 HO_474000 BK457 BK463 BK468 BK473 HB hHeld ⊢
                 refine pV 0 103 (bz 17 0x1) HT_.out ?_
                 refine pV 1 104 (bz 17 0x3) HT_.out ?_
                 refine pU 2 105 (bz 17 0x7) HT_.out ?_
                 refine pU 3 106 (bz 17 0xf) HT_.out ?_
                 refine pU 4 107 (bz 17 0x1f) HT_.out ?_
                 refine pU 5 108 (bz 17 0x3f) HT_.out ?_
                 refine pU 6 109 (bz 17 0x7f) HT_.out ?_
                 refine pU 7 110 (bz 17 0xff) HT_.out ?_
                 refine pU 8 111 (bz 17 0x1ff) HT_.out ?_
                 refine pU 9 112 (bz 17 0x3ff) HT_.out ?_
                 refine pU 10 113 (bz 17 0x7ff) HT_.out ?_
                 refine pU 11 114 (bz 17 0xfff) HT_.out ?_
                 refine pU 12 115 (bz 17 0x1fff) HT_.out ?_
                 refine pU 13 116 (bz 17 0x3fff) HT_.out ?_
                 refine pU 14 117 (bz 17 0x7fff) HT_.out ?_
                 refine pV 15 118 (bz 17 0xffff) HT_.out ?_
                 refine pV 16 11 (bz 17 0x1ffff) HT_.out ?_
                 refine done_ (done_of HT_.out (by kernel_rfl)) ?_
                 try go_wp2
                 go_roundg k4
                 case measure => have := HJ7.out; have := HK2.out; have := HK3.out; have := HK4.out; omega
                 case rel => exact ⟨(true), (wrap64 (x12_4 + 1)), rS, rS, H', ⟨by have := HJ7.out; have := HK2.out; have := HK3.out; have := HK4.out; omega⟩, ⟨rA HO_464001.out⟩, ⟨rA HO_469000.out⟩, ⟨rA HO_474000.out⟩, ⟨bA BK457.out⟩, ⟨bA BK463.out⟩, ⟨bA BK468.out⟩, ⟨bA BK473.out⟩, ⟨wB4 HB.out GE457.out GE463.out GE468.out GE473.out⟩⟩
                ·replace c99 := Bool.eq_false_iff.mpr c99
                 subst c99
                 have H1 : (if 0 ≤ x12_4 then (if x12_4 < (t464.length : Int) then (if 0 ≤ x10_3 then (if x10_3 < (t464.length : Int) then ((wireloomlaw05_edge.f k4 t460 (rd t464 x12_4) (rd t464 x10_3)).bind fun t479 => (wireloomlaw05_DigraphOrders.l2 k4 a1 true x9_2 x10_3 t479 (wrap64 (x12_4 + 1)) t459 t460 t464 t467)) else (none)) else (none)) else (none)) else (none)) = some r := by rw [if_neg (show ¬ (false = true) by decide)] at H; exact H
                 clear H
                 have H := H1
                 clear H1
                 by_cases c105 : 0 ≤ x12_4
                 rotate_left
                 ·rw [if_neg c105] at H
                  exact absurd H (by simp)
                 rw [if_pos c105] at H
                 have c105b0 : decide (0 ≤ x12_4) = true := decide_eq_true c105
                 clear c105
                 by_cases c106 : x12_4 < (t464.length : Int)
                 rotate_left
                 ·rw [if_neg c106] at H
                  exact absurd H (by simp)
                 rw [if_pos c106] at H
                 have c106b0 : decide (x12_4 < (t464.length : Int)) = true := decide_eq_true c106
                 clear c106
                 by_cases c107 : 0 ≤ x10_3
                 rotate_left
                 ·rw [if_neg c107] at H
                  exact absurd H (by simp)
                 rw [if_pos c107] at H
                 have c107b0 : decide (0 ≤ x10_3) = true := decide_eq_true c107
                 clear c107
                 by_cases c108 : x10_3 < (t464.length : Int)
                 rotate_left
                 ·rw [if_neg c108] at H
                  exact absurd H (by simp)
                 rw [if_pos c108] at H
                 have c108b0 : decide (x10_3 < (t464.length : Int)) = true := decide_eq_true c108
                 clear c108
                 replace H := Option.bind_eq_some_iff.mp H
                 obtain ⟨t479, A1090, H⟩ := H
                 replace H : (wireloomlaw05_DigraphOrders.l2 k4 a1 true x9_2 x10_3 t479 (wrap64 (x12_4 + 1)) t459 t460 t464 t467) = some r := H
                 have A109 := Aside0.mk A1090
                 clear A1090
                 have H' := Aside0.mk H
                 clear H
                 have hnb110 := NB463_457.out
                 have hnc110 := NB457_463.out
                 have hnb111 := NB463_468.out
                 have hnc111 := NB468_463.out
                 have hnb112 := NB463_473.out
                 have hnc112 := NB473_463.out
                 have hcz113_0 : wr.cell? ⟨gb463, 0, none⟩ = some (.int .i64 t459) := (blk_cell BK463.out 0).trans rfl
                 have hcz113_1 : wr.cell? ⟨gb463, 1, none⟩ = some (.slice Ao16 t460.length co16) := (blk_cell BK463.out 1).trans rfl
                 have hfz113_0 := blk_frozen BK463.out 0
                 have hfz113_1 := blk_frozen BK463.out 1
                 try go_wp2
                 replace HO_464001 := Aside0.mk (Kd.R_drew HO_464001.out)
                 replace HO_469000 := Aside0.mk (Kd.R_drew HO_469000.out)
                 replace HO_474000 := Aside0.mk (Kd.R_drew HO_474000.out)
                 replace BK457 := Aside0.mk (blk_drew BK457.out)
                 replace BK463 := Aside0.mk (blk_drew BK463.out)
                 replace BK468 := Aside0.mk (blk_drew BK468.out)
                 replace BK473 := Aside0.mk (blk_drew BK473.out)
                 replace HB := Aside0.mk (below_drew1 HB.out)
                 have p477 : 0 ≤ (x12_4 : Int) := oD
                 have q477 : x12_4 < (t464.length : Int) := oD
                 obtain ⟨ad477, e477, hx477_0⟩ := Kd.at_int (Kd.R_reads' HO_469000.out).2.2 x12_4 p477 q477
                 obtain rfl : ad475 = ad477 := (by injection e477)
                 replace p477 := eq_true p477
                 replace q477 := eq_true q477
                 have p478 : 0 ≤ (x10_3 : Int) := oD
                 have q478 : x10_3 < (t464.length : Int) := oD
                 obtain ⟨ad478, e478, hx478_0⟩ := Kd.at_int (Kd.R_reads' HO_469000.out).2.2 x10_3 p478 q478
                 obtain rfl : ad475 = ad478 := (by injection e478)
                 replace p478 := eq_true p478
                 replace q478 := eq_true q478
                 refine start_ (n := 17) (S := fun w' => w'.cell? ⟨gb463, 0, none⟩ = some (.int .i64 t459) ∧ w'.cell? ⟨gb463, 1, none⟩ = some (.slice Ao16 t460.length co16) ∧ w'.cell? ⟨gb468, 0, none⟩ = some (.slice (some ad475) t464.length co19) ∧ w'.cell? ⟨gb468, 1, none⟩ = some (.int .i64 t467) ∧ w'.cell? (ad475.add (x12_4).toNat) = some (.int .i64 (rd t464 x12_4)) ∧ w'.cell? (ad475.add (x10_3).toNat) = some (.int .i64 (rd t464 x10_3))) (ds := []) #[false, false, false, false, false, false, false, false, false, false, false, false, false, false, false, false, false] (by kernel_rfl) rfl rfl ⟨(blk_cell BK463.out 0).trans rfl, (blk_cell BK463.out 1).trans rfl, (blk_cell BK468.out 0).trans rfl, (blk_cell BK468.out 1).trans rfl, hx477_0, hx478_0⟩ (fun hHeld => ?_); refine with_tabW wireloomlaw05_DigraphOrders.tab24 wireloomlaw05_DigraphOrders.bits24 (fun HT_ HW_ => ?_)
                 generalize wr.drew = w114 at HO_464001 HO_469000 HO_474000 BK457 BK463 BK468 BK473 HB hx477_0 hx478_0 hHeld ⊢
                 refine pV 0 103 (bz 17 0x1) HT_.out ?_
                 refine pV 1 104 (bz 17 0x3) HT_.out ?_
                 refine pV 2 105 (bz 17 0x7) HT_.out ?_
                 refine pV 4 107 (bz 17 0x17) HT_.out ?_
                 refine pV 6 109 (bz 17 0x57) HT_.out ?_
                 refine pV 9 112 (bz 17 0x257) HT_.out ?_
                 refine pV 11 114 (bz 17 0xa57) HT_.out ?_
                 refine tV 3 106 (bz 17 0xa5f) HT_.out HW_.out hHeld rfl rfl (by rintro w' ⟨s0, s1, s2, s3, s4, s5⟩; go_simp; with_reducible rfl) ?_
                 refine tV 5 108 (bz 17 0xa7f) HT_.out HW_.out hHeld rfl rfl (by rintro w' ⟨s0, s1, s2, s3, s4, s5⟩; go_simp; with_reducible rfl) ?_
                 refine pV 7 110 (bz 17 0xaff) HT_.out ?_
                 refine tV 8 111 (bz 17 0xbff) HT_.out HW_.out hHeld rfl rfl (by rintro w' ⟨s0, s1, s2, s3, s4, s5⟩; go_simp; with_reducible rfl) ?_
                 refine tV 10 113 (bz 17 0xfff) HT_.out HW_.out hHeld rfl rfl (by rintro w' ⟨s0, s1, s2, s3, s4, s5⟩; go_simp; with_reducible rfl) ?_
                 refine pV 12 115 (bz 17 0x1fff) HT_.out ?_
                 refine tV 13 116 (bz 17 0x3fff) HT_.out HW_.out hHeld rfl rfl (by rintro w' ⟨s0, s1, s2, s3, s4, s5⟩; go_simp; with_reducible rfl) ?_
                 refine one_ (i := 14) (N := some 117) (bz 17 0x7fff) rfl rfl (one_of HT_.out (by kernel_rfl)) (by decide) (fun K hK => ?_)
                 refine goes_ Try.func29 (by kernel_rfl) rfl #[.slice Ao16 t460.length co16, .int .i64 (rd t464 x12_4), .int .i64 (rd t464 x10_3)] (by rfl) rfl rfl (by (try simp only [List.map_toArray, List.map_cons, List.map_nil]); first | done | rfl | (simp only [List.length_drop, List.length_take]; rfl)) ?_
                 with_reducible refine (wireloomlaw05_edge.calls k4 _ _ t460 (rd t464 x12_4) (rd t464 x10_3) t479 _ ?side1 ?side2 A109.out).mono ?_
                 (case side1 => exact cA (Kd.R_reads' HO_464001.out).2.2)
                 (case side2 => exact (Kd.R_reads' HO_464001.out).2.1)
                 rintro e w' ⟨rfl, ⟨nd, rfl⟩⟩
                 refine ⟨_, rfl, ?_⟩
                 refine hK.out _ _ ⟨(blk_cell BK463.out 0).trans rfl, (blk_cell BK463.out 1).trans rfl, (blk_cell BK468.out 0).trans rfl, (blk_cell BK468.out 1).trans rfl, hHeld.2.2.2.2.1, hHeld.2.2.2.2.2⟩ (fun hHeld => ?_)
                 clear hK K
                 refine norm_ (a' := ?_) ?_ ?_
                 rotate_left
                 ·show Act.put _ (some 117) _ = _
                  simp only [Act.put, List.setIfInBounds_toArray, List.set_cons_zero, List.set_cons_succ, i64_w, i32_w]
                  rfl
                 refine pV 15 118 (bz 17 0xffff) HT_.out ?_
                 refine pV 16 11 (bz 17 0x1ffff) HT_.out ?_
                 refine done_ (done_of HT_.out (by kernel_rfl)) ?_
                 try go_wp2
                 go_roundg k4
                 case measure => have := HJ7.out; have := HK2.out; have := HK3.out; have := HK4.out; omega
                 case rel => exact ⟨(t479), (wrap64 (x12_4 + 1)), rS, rS, H', ⟨by have := HJ7.out; have := HK2.out; have := HK3.out; have := HK4.out; omega⟩, ⟨rA HO_464001.out⟩, ⟨rA HO_469000.out⟩, ⟨rA HO_474000.out⟩, ⟨bA BK457.out⟩, ⟨bA BK463.out⟩, ⟨bA BK468.out⟩, ⟨bA BK473.out⟩, ⟨wB4 HB.out GE457.out GE463.out GE468.out GE473.out⟩⟩
               ·rw [if_neg c98] at H
                have c98b0 : decide (x12_4 < t459) = false := decide_eq_false c98
                clear c98
                by_cases c115 : x11_4 = true
                ·subst c115
                 have H1 : (wireloomlaw05_DigraphOrders.l1 k4 a1 true x9_2 (wrap64 (x10_3 + 1)) t459 t460 t464 t467) = some r := by rw [if_pos rfl] at H; exact H
                 clear H
                 have H := H1
                 clear H1
                 have H' := Aside0.mk H
                 clear H
                 have hnb116 := NB463_457.out
                 have hnc116 := NB457_463.out
                 have hnb117 := NB463_468.out
                 have hnc117 := NB468_463.out
                 have hnb118 := NB463_473.out
                 have hnc118 := NB473_463.out
                 have hcz119_0 : wr.cell? ⟨gb463, 0, none⟩ = some (.int .i64 t459) := (blk_cell BK463.out 0).trans rfl
                 have hcz119_1 : wr.cell? ⟨gb463, 1, none⟩ = some (.slice Ao16 t460.length co16) := (blk_cell BK463.out 1).trans rfl
                 have hfz119_0 := blk_frozen BK463.out 0
                 have hfz119_1 := blk_frozen BK463.out 1
                 go_wp2
                 go_roundg k4
                 case measure => have := HJ7.out; have := HK2.out; have := HK3.out; have := HK4.out; omega
                 case rel => exact ⟨(wrap64 (x10_3 + 1)), rS, H', ⟨by have := HJ7.out; have := HK2.out; have := HK3.out; have := HK4.out; omega⟩, ⟨rA HO_464001.out⟩, ⟨rA HO_469000.out⟩, ⟨rA HO_474000.out⟩, ⟨bA BK457.out⟩, ⟨bA BK463.out⟩, ⟨bA BK468.out⟩, ⟨bA BK473.out⟩, ⟨wB4 HB.out GE457.out GE463.out GE468.out GE473.out⟩⟩
                ·replace c115 := Bool.eq_false_iff.mpr c115
                 subst c115
                 have H1 : (none) = some r := by rw [if_neg (show ¬ (false = true) by decide)] at H; exact H
                 clear H
                 have H := H1
                 clear H1
                 exact absurd H (by simp)
           ·rw [if_neg c82] at H
            have c82b0 : decide (x10_3 < t459) = false := decide_eq_false c82
            clear c82
            have H' := Aside0.mk H
            clear H
            have hnb120 := NB463_457.out
            have hnc120 := NB457_463.out
            have hnb121 := NB463_468.out
            have hnc121 := NB468_463.out
            have hnb122 := NB463_473.out
            have hnc122 := NB473_463.out
            have hcz123_0 : wr.cell? ⟨gb463, 0, none⟩ = some (.int .i64 t459) := (blk_cell BK463.out 0).trans rfl
            have hcz123_1 : wr.cell? ⟨gb463, 1, none⟩ = some (.slice Ao16 t460.length co16) := (blk_cell BK463.out 1).trans rfl
            have hfz123_0 := blk_frozen BK463.out 0
            have hfz123_1 := blk_frozen BK463.out 1
            go_wp2
            go_roundg k3
            case measure => have := HJ7.out; have := HK2.out; have := HK3.out; omega
            case rel => exact ⟨(wrap64 (x9_2 + 1)), rS, H', ⟨by have := HJ7.out; have := HK2.out; have := HK3.out; omega⟩, ⟨rA HO_464001.out⟩, ⟨rA HO_469000.out⟩, ⟨rA HO_474000.out⟩, ⟨bA BK457.out⟩, ⟨bA BK463.out⟩, ⟨bA BK468.out⟩, ⟨bA BK473.out⟩, ⟨wB4 HB.out GE457.out GE463.out GE468.out GE473.out⟩⟩
        ·rw [if_neg c77] at H
         have c77b0 : decide (x9_2 < t459) = false := decide_eq_false c77
         clear c77
         by_cases c124 : t459 < 2
         ·rw [if_pos c124] at H
          have c124b0 : decide (t459 < 2) = true := decide_eq_true c124
          clear c124
          obtain rfl := Option.some.inj H
          have hnb125 := NB463_457.out
          have hnc125 := NB457_463.out
          have hnb126 := NB463_468.out
          have hnc126 := NB468_463.out
          have hnb127 := NB463_473.out
          have hnc127 := NB473_463.out
          have hcz128_0 : wr.cell? ⟨gb463, 0, none⟩ = some (.int .i64 t459) := (blk_cell BK463.out 0).trans rfl
          have hcz128_1 : wr.cell? ⟨gb463, 1, none⟩ = some (.slice Ao16 t460.length co16) := (blk_cell BK463.out 1).trans rfl
          have hfz128_0 := blk_frozen BK463.out 0
          have hfz128_1 := blk_frozen BK463.out 1
          go_wp2
          go_ret
          exact ⟨eS, by repeat (first | (with_reducible first | exact HB.out | apply below_alloc | apply pw_below_drewN | apply below_drew1 | refine below_set ?_ GE457.out | refine below_set ?_ GE463.out | refine below_set ?_ GE468.out | refine below_set ?_ GE473.out) | exact HB.out)⟩
         ·rw [if_neg c124] at H
          have c124b0 : decide (t459 < 2) = false := decide_eq_false c124
          clear c124
          by_cases c129 : (wrap64 (t459 - 1)) = 0
          ·rw [if_pos c129] at H
           exact absurd H (by simp)
          ·rw [if_neg c129] at H
           have c129b0 : ((wrap64 (t459 - 1)) == 0) = false := beq_eq_false_iff_ne.mpr c129
           have c129b1 : ((wrap64 (t459 - 1)) != 0) = true := bne_iff_ne.mpr c129
           obtain ⟨y480, hy480⟩ : ∃ y_ : List Int, y_ = (([] : List Int)) := ⟨_, rfl⟩
           replace H : (if y480.length + t464.length < 17592186044416 then ((some (y480 ++ t464 : List Int)).bind fun y483 => (if 0 ≤ (wrap64 ((Int.tmod (wrap64 (a1)) (wrap64 (t459 - 1))) + 1)) then (if (wrap64 ((Int.tmod (wrap64 (a1)) (wrap64 (t459 - 1))) + 1)) < (y483.length : Int) then (if 0 ≤ (Int.tmod (wrap64 (a1)) (wrap64 (t459 - 1))) then (if (Int.tmod (wrap64 (a1)) (wrap64 (t459 - 1))) < (y483.length : Int) then ((digraph_Check.f t459 t460 ((y483.set ((Int.tmod (wrap64 (a1)) (wrap64 (t459 - 1))) : Int).toNat (rd y483 (wrap64 ((Int.tmod (wrap64 (a1)) (wrap64 (t459 - 1))) + 1)))).set ((wrap64 ((Int.tmod (wrap64 (a1)) (wrap64 (t459 - 1))) + 1)) : Int).toNat (rd y483 (Int.tmod (wrap64 (a1)) (wrap64 (t459 - 1)))))).bind fun t490 => (if (Int.tmod (wrap64 (a1)) (wrap64 (t459 - 1))) < (t464.length : Int) then (if (wrap64 ((Int.tmod (wrap64 (a1)) (wrap64 (t459 - 1))) + 1)) < (t464.length : Int) then ((wireloomlaw05_edge.f k2 t460 (rd t464 (Int.tmod (wrap64 (a1)) (wrap64 (t459 - 1)))) (rd t464 (wrap64 ((Int.tmod (wrap64 (a1)) (wrap64 (t459 - 1))) + 1)))).bind fun t493 => (if ((t490 == 0) == (!t493)) = true then (if 1 ≤ (t464.length : Int) then ((digraph_Check.f t459 t460 (t464.drop 1)).bind fun t498 => (if t498 = 6 then (some true) else (none))) else (none)) else (none))) else (none)) else (none))) else (none)) else (none)) else (none)) else (none))) else (none)) = some r := by first | (rw [hy480]; with_reducible exact H) | (have H2_ := (Option.bind_some _ _).symm.trans H; rw [hy480]; with_reducible exact H2_) | (have H2_ := (Option.bind_some _ _).symm.trans H; with_reducible exact H2_) | with_reducible exact H | (rw [hy480]; exact H) | exact H
           have Ny480 := Aside0.mk hy480
           clear hy480
           by_cases c130 : y480.length + t464.length < 17592186044416
           rotate_left
           ·rw [if_neg c130] at H
            exact absurd H (by simp)
           rw [if_pos c130] at H
           have LMc130 := Aside0.mk c130
           clear c130
           obtain ⟨y483, hy483⟩ : ∃ y_ : List Int, y_ = (y480 ++ t464) := ⟨_, rfl⟩
           replace H : (if 0 ≤ (wrap64 ((Int.tmod (wrap64 (a1)) (wrap64 (t459 - 1))) + 1)) then (if (wrap64 ((Int.tmod (wrap64 (a1)) (wrap64 (t459 - 1))) + 1)) < (y483.length : Int) then (if 0 ≤ (Int.tmod (wrap64 (a1)) (wrap64 (t459 - 1))) then (if (Int.tmod (wrap64 (a1)) (wrap64 (t459 - 1))) < (y483.length : Int) then ((digraph_Check.f t459 t460 ((y483.set ((Int.tmod (wrap64 (a1)) (wrap64 (t459 - 1))) : Int).toNat (rd y483 (wrap64 ((Int.tmod (wrap64 (a1)) (wrap64 (t459 - 1))) + 1)))).set ((wrap64 ((Int.tmod (wrap64 (a1)) (wrap64 (t459 - 1))) + 1)) : Int).toNat (rd y483 (Int.tmod (wrap64 (a1)) (wrap64 (t459 - 1)))))).bind fun t490 => (if (Int.tmod (wrap64 (a1)) (wrap64 (t459 - 1))) < (t464.length : Int) then (if (wrap64 ((Int.tmod (wrap64 (a1)) (wrap64 (t459 - 1))) + 1)) < (t464.length : Int) then ((wireloomlaw05_edge.f k2 t460 (rd t464 (Int.tmod (wrap64 (a1)) (wrap64 (t459 - 1)))) (rd t464 (wrap64 ((Int.tmod (wrap64 (a1)) (wrap64 (t459 - 1))) + 1)))).bind fun t493 => (if ((t490 == 0) == (!t493)) = true then (if 1 ≤ (t464.length : Int) then ((digraph_Check.f t459 t460 (t464.drop 1)).bind fun t498 => (if t498 = 6 then (some true) else (none))) else (none)) else (none))) else (none)) else (none))) else (none)) else (none)) else (none)) else (none)) = some r := by first | (rw [hy483]; with_reducible exact H) | (have H2_ := (Option.bind_some _ _).symm.trans H; rw [hy483]; with_reducible exact H2_) | (have H2_ := (Option.bind_some _ _).symm.trans H; with_reducible exact H2_) | with_reducible exact H | (rw [hy483]; exact H) | exact H
           have Ny483 := Aside0.mk hy483
           clear hy483
           obtain ⟨ji131, hji131⟩ : ∃ j_ : Int, (wrap64 ((Int.tmod (wrap64 (a1)) (wrap64 (t459 - 1))) + 1)) = j_ := ⟨_, rfl⟩
           replace H : (if 0 ≤ (ji131) then (if (ji131) < (y483.length : Int) then (if 0 ≤ (Int.tmod (wrap64 (a1)) (wrap64 (t459 - 1))) then (if (Int.tmod (wrap64 (a1)) (wrap64 (t459 - 1))) < (y483.length : Int) then ((digraph_Check.f t459 t460 ((y483.set ((Int.tmod (wrap64 (a1)) (wrap64 (t459 - 1))) : Int).toNat (rd y483 (ji131))).set ((ji131) : Int).toNat (rd y483 (Int.tmod (wrap64 (a1)) (wrap64 (t459 - 1)))))).bind fun t490 => (if (Int.tmod (wrap64 (a1)) (wrap64 (t459 - 1))) < (t464.length : Int) then (if (ji131) < (t464.length : Int) then ((wireloomlaw05_edge.f k2 t460 (rd t464 (Int.tmod (wrap64 (a1)) (wrap64 (t459 - 1)))) (rd t464 (ji131))).bind fun t493 => (if ((t490 == 0) == (!t493)) = true then (if 1 ≤ (t464.length : Int) then ((digraph_Check.f t459 t460 (t464.drop 1)).bind fun t498 => (if t498 = 6 then (some true) else (none))) else (none)) else (none))) else (none)) else (none))) else (none)) else (none)) else (none)) else (none)) = some r := by first | (rw [hji131] at H; exact H) | (simp only [hji131] at H ⊢; exact H)
           have hji131w : (IntKind.i64.wrap ((Int.tmod (wrap64 (a1)) (wrap64 (t459 - 1))) + 1)) = ji131 := (i64_w _).trans hji131
           by_cases c132 : 0 ≤ (ji131)
           rotate_left
           ·rw [if_neg c132] at H
            exact absurd H (by simp)
           rw [if_pos c132] at H
           have c132b0 : decide (0 ≤ (ji131)) = true := decide_eq_true c132
           clear c132
           by_cases c133 : (ji131) < (y483.length : Int)
           rotate_left
           ·rw [if_neg c133] at H
            exact absurd H (by simp)
           rw [if_pos c133] at H
           have c133b0 : decide ((ji131) < (y483.length : Int)) = true := decide_eq_true c133
           clear c133
           obtain ⟨ji134, hji134⟩ : ∃ j_ : Int, (Int.tmod (wrap64 (a1)) (wrap64 (t459 - 1))) = j_ := ⟨_, rfl⟩
           try rw [hji134] at hji131w hji131
           replace H : (if 0 ≤ (ji134) then (if (ji134) < (y483.length : Int) then ((digraph_Check.f t459 t460 ((y483.set ((ji134) : Int).toNat (rd y483 (ji131))).set ((ji131) : Int).toNat (rd y483 (ji134)))).bind fun t490 => (if (ji134) < (t464.length : Int) then (if (ji131) < (t464.length : Int) then ((wireloomlaw05_edge.f k2 t460 (rd t464 (ji134)) (rd t464 (ji131))).bind fun t493 => (if ((t490 == 0) == (!t493)) = true then (if 1 ≤ (t464.length : Int) then ((digraph_Check.f t459 t460 (t464.drop 1)).bind fun t498 => (if t498 = 6 then (some true) else (none))) else (none)) else (none))) else (none)) else (none))) else (none)) else (none)) = some r := by first | (rw [hji134] at H; exact H) | (simp only [hji134] at H ⊢; exact H)
           by_cases c135 : 0 ≤ (ji134)
           rotate_left
           ·rw [if_neg c135] at H
            exact absurd H (by simp)
           rw [if_pos c135] at H
           have c135b0 : decide (0 ≤ (ji134)) = true := decide_eq_true c135
           clear c135
           by_cases c136 : (ji134) < (y483.length : Int)
           rotate_left
           ·rw [if_neg c136] at H
            exact absurd H (by simp)
           rw [if_pos c136] at H
           have c136b0 : decide ((ji134) < (y483.length : Int)) = true := decide_eq_true c136
           clear c136
           obtain ⟨y488, hy488⟩ : ∃ y_ : List Int, y_ = (y483.set ((ji134) : Int).toNat (rd y483 (ji131))) := ⟨_, rfl⟩
           replace H : ((digraph_Check.f t459 t460 (y488.set ((ji131) : Int).toNat (rd y483 (ji134)))).bind fun t490 => (if (ji134) < (t464.length : Int) then (if (ji131) < (t464.length : Int) then ((wireloomlaw05_edge.f k2 t460 (rd t464 (ji134)) (rd t464 (ji131))).bind fun t493 => (if ((t490 == 0) == (!t493)) = true then (if 1 ≤ (t464.length : Int) then ((digraph_Check.f t459 t460 (t464.drop 1)).bind fun t498 => (if t498 = 6 then (some true) else (none))) else (none)) else (none))) else (none)) else (none))) = some r := by first | (rw [hy488]; with_reducible exact H) | (have H2_ := (Option.bind_some _ _).symm.trans H; rw [hy488]; with_reducible exact H2_) | (have H2_ := (Option.bind_some _ _).symm.trans H; with_reducible exact H2_) | with_reducible exact H | (rw [hy488]; exact H) | exact H
           have Ny488 := Aside0.mk hy488
           clear hy488
           obtain ⟨y489, hy489⟩ : ∃ y_ : List Int, y_ = (y488.set ((ji131) : Int).toNat (rd y483 (ji134))) := ⟨_, rfl⟩
           replace H : ((digraph_Check.f t459 t460 y489).bind fun t490 => (if (ji134) < (t464.length : Int) then (if (ji131) < (t464.length : Int) then ((wireloomlaw05_edge.f k2 t460 (rd t464 (ji134)) (rd t464 (ji131))).bind fun t493 => (if ((t490 == 0) == (!t493)) = true then (if 1 ≤ (t464.length : Int) then ((digraph_Check.f t459 t460 (t464.drop 1)).bind fun t498 => (if t498 = 6 then (some true) else (none))) else (none)) else (none))) else (none)) else (none))) = some r := by first | (rw [hy489]; with_reducible exact H) | (have H2_ := (Option.bind_some _ _).symm.trans H; rw [hy489]; with_reducible exact H2_) | (have H2_ := (Option.bind_some _ _).symm.trans H; with_reducible exact H2_) | with_reducible exact H | (rw [hy489]; exact H) | exact H
           have Ny489 := Aside0.mk hy489
           clear hy489
           replace H := Option.bind_eq_some_iff.mp H
           obtain ⟨t490, A1390, H⟩ := H
           replace H : (if (ji134) < (t464.length : Int) then (if (ji131) < (t464.length : Int) then ((wireloomlaw05_edge.f k2 t460 (rd t464 (ji134)) (rd t464 (ji131))).bind fun t493 => (if ((t490 == 0) == (!t493)) = true then (if 1 ≤ (t464.length : Int) then ((digraph_Check.f t459 t460 (t464.drop 1)).bind fun t498 => (if t498 = 6 then (some true) else (none))) else (none)) else (none))) else (none)) else (none)) = some r := H
           have A139 := Aside0.mk A1390
           clear A1390
           by_cases c140 : (ji134) < (t464.length : Int)
           rotate_left
           ·rw [if_neg c140] at H
            exact absurd H (by simp)
           rw [if_pos c140] at H
           have c140b0 : decide ((ji134) < (t464.length : Int)) = true := decide_eq_true c140
           clear c140
           by_cases c141 : (ji131) < (t464.length : Int)
           rotate_left
           ·rw [if_neg c141] at H
            exact absurd H (by simp)
           rw [if_pos c141] at H
           have c141b0 : decide ((ji131) < (t464.length : Int)) = true := decide_eq_true c141
           clear c141
           replace H := Option.bind_eq_some_iff.mp H
           obtain ⟨t493, A1420, H⟩ := H
           replace H : (if ((t490 == 0) == (!t493)) = true then (if 1 ≤ (t464.length : Int) then ((digraph_Check.f t459 t460 (t464.drop 1)).bind fun t498 => (if t498 = 6 then (some true) else (none))) else (none)) else (none)) = some r := H
           have A142 := Aside0.mk A1420
           clear A1420
           by_cases c143 : ((t490 == 0) == (!t493)) = true
           rotate_left
           ·rw [if_neg c143] at H
            exact absurd H (by simp)
           rw [if_pos c143] at H
           have c143b0 : ((t490 == 0) == (!t493)) = true := c143
           (try (have c143b1 : decide ((t490 == 0) = (!t493)) = true := by simpa using c143))
           (try (have c143b2 : ((t490 == 0) == (!t493)) = true := by simpa using c143))
           clear c143
           by_cases c144 : 1 ≤ (t464.length : Int)
           rotate_left
           ·rw [if_neg c144] at H
            exact absurd H (by simp)
           rw [if_pos c144] at H
           have c144b0 := eq_true c144
           have c144b1 : decide (1 ≤ (t464.length : Int)) = true := decide_eq_true c144
           clear c144
           obtain ⟨y494, hy494⟩ : ∃ y_ : List Int, y_ = (t464.drop 1) := ⟨_, rfl⟩
           replace H : ((digraph_Check.f t459 t460 y494).bind fun t498 => (if t498 = 6 then (some true) else (none))) = some r := by first | (rw [hy494]; with_reducible exact H) | (have H2_ := (Option.bind_some _ _).symm.trans H; rw [hy494]; with_reducible exact H2_) | (have H2_ := (Option.bind_some _ _).symm.trans H; with_reducible exact H2_) | with_reducible exact H | (rw [hy494]; exact H) | exact H
           have Ny494 := Aside0.mk hy494
           clear hy494
           replace H := Option.bind_eq_some_iff.mp H
           obtain ⟨t498, A1450, H⟩ := H
           replace H : (if t498 = 6 then (some true) else (none)) = some r := H
           have A145 := Aside0.mk A1450
           clear A1450
           by_cases c146 : t498 = 6
           rotate_left
           ·rw [if_neg c146] at H
            exact absurd H (by simp)
           rw [if_pos c146] at H
           have c146b0 : (t498 == 6) = true := beq_iff_eq.mpr c146
           have c146b1 : (t498 != 6) = false := bne_eq_false_iff_eq.mpr c146
           clear c146
           obtain rfl := Option.some.inj H
           have hnb147 := NB463_457.out
           have hnc147 := NB457_463.out
           have hnb148 := NB463_468.out
           have hnc148 := NB468_463.out
           have hnb149 := NB463_473.out
           have hnc149 := NB473_463.out
           have hcz150_0 : wr.cell? ⟨gb463, 0, none⟩ = some (.int .i64 t459) := (blk_cell BK463.out 0).trans rfl
           have hcz150_1 : wr.cell? ⟨gb463, 1, none⟩ = some (.slice Ao16 t460.length co16) := (blk_cell BK463.out 1).trans rfl
           have hfz150_0 := blk_frozen BK463.out 0
           have hfz150_1 := blk_frozen BK463.out 1
           try go_wp2_with (first | ((with_reducible refine gate_dst (N := 131) rfl ?_); refine Kd.R_lit (Kd.int .i64) _ 3 ?hg (N := 131) ?hd (xs := ([] : List Int)) (inner := []) (ok := fun _ => True) (okp := fun _ => True) ?hr ?hp (fun _ hk => hk) trivial (Below.refl _ _) (Nat.le_refl _) (by simp) ?_; (case hd => rfl); (case hg => rfl); (case hr => first | (go_simp; done) | (go_simp; rfl)); (case hp => exact (Reps.none _ _)); intro v481 w151 ho152 hb hg_ hnew_; clear hg_ hnew_; (first | rw [← Ny480.out] at ho152 | (simp only [Int.reduceToNat] at ho152; rw [← Ny480.out] at ho152)); replace HO_464001 := Aside0.mk (Kd.R_below (rA HO_464001.out) hb); have HO482 := Aside0.mk (Kd.R_lower (Kd.R_new' (Kd.R_new' ho152 (Kd.R_lt (rA HO_469000.out))) (Kd.R_lt (rA HO_474000.out))) (below_size (wB4 HB.out GE457.out GE463.out GE468.out GE473.out))); replace HO_469000 := Aside0.mk (Kd.R_elder' (rA HO_469000.out) (Kd.R_base ho152) hb); replace HO_474000 := Aside0.mk (Kd.R_elder' (rA HO_474000.out) (Kd.R_base ho152) hb); replace BK457 := kC BK457 hb; replace BK463 := kC BK463 hb; replace BK468 := kC BK468 hb; replace BK473 := kC BK473 hb; replace HB := Aside0.mk (below_step (wB4 HB.out GE457.out GE463.out GE468.out GE473.out) hb); clear hb ho152; have hnb153 := NB468_457.out; have hnc153 := NB457_468.out; have hnb154 := NB468_473.out; have hnc154 := NB473_468.out; have hcz155_0 : w151.cell? ⟨gb468, 0, none⟩ = some (.slice Ao19 t464.length co19) := (blk_cell BK468.out 0).trans rfl; have hcz155_1 : w151.cell? ⟨gb468, 1, none⟩ = some (.int .i64 t467) := (blk_cell BK468.out 1).trans rfl; have hfz155_0 := blk_frozen BK468.out 0; have hfz155_1 := blk_frozen BK468.out 1) | ((with_reducible refine gate_builtin (b := .append) (xs := #[.tmp 131, .tmp 133]) rfl ?_); at_builtin; refine Kd.R_append_rows (Kd.int .i64) (w0 := w) w.heap.size rfl (.tmp 131) (.tmp 133) 26 3 (.int .i64 0) 8 rfl Try.underlying26 info3 rfl (by decide) (by omega) v481 y480 t464 _ _ _ (fun k_ => some k_ ≠ (.slice Ao19 t464.length co19 : Value).ownBlock ∧ some k_ ≠ (.slice Ao26 t469.length co26 : Value).ownBlock) (fun _ => False) rfl rfl ?aO ?aR (fun _ _ h => h) (fun _ h => h.elim) ?aF ?aB ?aS ?aL ?_; (case aR => repeat (first | exact (Kd.R_reads' HO_469000.out).2.2 | (with_reducible refine Kd.C_alloc ?_ _) | (with_reducible refine Kd.C_drewN ?_ _) | (with_reducible refine Kd.C_drew ?_))); (case aB => exact (wB4 HB.out GE457.out GE463.out GE468.out GE473.out)); (case aF => exact (fun k_ hk => ⟨Kd.fresh' (Kd.R_lt (rA HO_469000.out)) k_ hk, Kd.fresh' (Kd.R_lt (rA HO_474000.out)) k_ hk⟩)); (case aO => exact (by (with_reducible repeat (first | apply Kd.R_alloc | apply Kd.R_drewN | apply Kd.R_drew)); exact Kd.R_mono HO482.out (fun _ hk => ⟨hk.1.2, hk.2⟩))); (case aS => exact (below_size (wB4 HB.out GE457.out GE463.out GE468.out GE473.out))); (case aL => have := LMc130.out; omega); intro v484 w156 ho hb hg hat; rw [← Ny483.out] at ho; replace HO_464001 := Aside0.mk (Kd.R_over' (rA HO_464001.out) (Kd.R_typed (rA HO482.out)) (by decide) hg); replace HO_469000 := Aside0.mk (Kd.R_after (ok := (fun k_ => some k_ ≠ (.slice Ao26 t469.length co26 : Value).ownBlock)) (rA HO_469000.out) hg hat); replace HO_474000 := Aside0.mk (Kd.R_after (ok := (fun k_ => some k_ ≠ (.slice Ao19 t464.length co19 : Value).ownBlock)) (rA HO_474000.out) hg hat); replace BK457 := Aside0.mk (blk_grown (g := gb457) (o := .cells #[.int .u8 a0_0, .int .u8 a0_1, .slice A0_2 l0_2.length c0_2] 24 (0, 0)) (bA BK457.out) hg (Kd.R_ne HO482.out BK457.out (by decide))); replace BK463 := Aside0.mk (blk_grown (g := gb463) (o := .cells #[.int .i64 t459, .slice Ao16 t460.length co16] 31 (0, 0)) (bA BK463.out) hg (Kd.R_ne HO482.out BK463.out (by decide))); replace BK468 := Aside0.mk (blk_grown (g := gb468) (o := .cells #[.slice Ao19 t464.length co19, .int .i64 t467] 37 (0, 0)) (bA BK468.out) hg (Kd.R_ne HO482.out BK468.out (by decide))); replace BK473 := Aside0.mk (blk_grown (g := gb473) (o := .cells #[.slice Ao26 t469.length co26, .int .i64 t472] 37 (0, 0)) (bA BK473.out) hg (Kd.R_ne HO482.out BK473.out (by decide))); replace HB := Aside0.mk (hb); have HO485 := Aside0.mk (ho); clear HO482; clear ho hb hg hat))
           replace HO_464001 := Aside0.mk (Kd.R_drew HO_464001.out)
           replace HO_469000 := Aside0.mk (Kd.R_drew HO_469000.out)
           replace HO_474000 := Aside0.mk (Kd.R_drew HO_474000.out)
           replace HO485 := Aside0.mk (Kd.R_drew HO485.out)
           replace BK457 := Aside0.mk (blk_drew BK457.out)
           replace BK463 := Aside0.mk (blk_drew BK463.out)
           replace BK468 := Aside0.mk (blk_drew BK468.out)
           replace BK473 := Aside0.mk (blk_drew BK473.out)
           replace HB := Aside0.mk (below_drew1 HB.out)
           obtain ⟨Ao158, co158, eo158⟩ := Kd.R_slice HO485.out
           (first | subst eo158 | (injection eo158 with f1_ f2_ f3_; have f4_ := f1_.symm; have f5_ := f3_.symm; clear f1_ f2_ f3_; subst f4_; subst f5_))
           have p486 : 0 ≤ ((ji131) : Int) := oD
           have q486 : (ji131) < (y483.length : Int) := oD
           obtain ⟨ad486, e486, hx486_0⟩ := Kd.at_int (Kd.R_reads' HO485.out).2.2 (ji131) p486 q486
           cases e486
           replace p486 := eq_true p486
           replace q486 := eq_true q486
           have p487 : 0 ≤ ((ji134) : Int) := oD
           have q487 : (ji134) < (y483.length : Int) := oD
           obtain ⟨ad487, e487, hx487_0⟩ := Kd.at_int (Kd.R_reads' HO485.out).2.2 (ji134) p487 q487
           obtain rfl : ad486 = ad487 := (by injection e487)
           replace p487 := eq_true p487
           replace q487 := eq_true q487
           have p137 : 0 ≤ ((ji134) : Int) := oD
           have q137 : ((ji134) : Int) < ((y483.length : Int) : Int) := oD
           obtain ⟨go137, co137, eo137, gb137, gl137, cl137, HG137⟩ := Kd.R_form HO485.out (by omega)
           (first | cases eo137 | (injection eo137 with ea_ en_ ec_; (first | subst ea_ | (injection ea_ with ea_; subst ea_)); subst ec_; clear en_))
           have GB137 := Aside0.mk gb137
           have GG137 := Aside0.mk HG137
           clear gb137 gl137 HG137
           (first | simp only [add_plain] at hx486_0 | skip)
           (first | simp only [add_plain] at hx487_0 | skip)
           obtain ⟨hx137_0, hf137_0⟩ := Kd.R_celln 0 HO485.out ((ji134) : Int) p137 q137
           replace p137 := eq_true p137
           replace q137 := eq_true q137
           have HP159 := Kd.R_putn HO485.out ((ji134) : Int) (rd y483 (ji131))
           rw [← Ny488.out] at HP159
           have HQ159 := Aside0.mk HP159
           clear HP159
           have p138 : 0 ≤ ((ji131) : Int) := oD
           have q138 : ((ji131) : Int) < ((y483.length : Int) : Int) := oD
           obtain ⟨hx138_0, hf138_0⟩ := Kd.R_celln 0 HQ159.out ((ji131) : Int) p138 q138
           replace p138 := eq_true p138
           replace q138 := eq_true q138
           have HP160 := Kd.R_putn HQ159.out ((ji131) : Int) (rd y483 (ji134))
           rw [← Ny489.out] at HP160
           have HQ160 := Aside0.mk HP160
           clear HP160
           refine start_ (n := 18) (S := fun w' => w'.cell? ⟨go137, ((ji131)).toNat, none⟩ = some (.int .i64 (rd y483 (ji131))) ∧ w'.cell? ⟨go137, ((ji134)).toNat, none⟩ = some (.int .i64 (rd y483 (ji134)))) (ds := [15, 17]) #[false, false, false, false, false, false, false, false, false, false, false, false, false, false, false, false, false, false] (by kernel_rfl) rfl rfl ⟨hx486_0, hx487_0⟩ (fun hHeld => ?_); refine with_tabW wireloomlaw05_DigraphOrders.tab31 wireloomlaw05_DigraphOrders.bits31 (fun HT_ HW_ => ?_)
           generalize w156.drew = w157 at HO_464001 HO_469000 HO_474000 HO485 BK457 BK463 BK468 BK473 HB GG137 HQ159 HQ160 hf137_0 hf138_0 hx137_0 hx138_0 hx486_0 hx487_0 hHeld ⊢
           refine pV 0 135 (bz 18 0x1) HT_.out ?_
           refine pV 1 136 (bz 18 0x3) HT_.out ?_
           refine pV 2 137 (bz 18 0x7) HT_.out ?_
           refine pV 3 138 (bz 18 0xf) HT_.out ?_
           refine pV 4 139 (bz 18 0x1f) HT_.out ?_
           refine pV 5 140 (bz 18 0x3f) HT_.out ?_
           refine pV 6 141 (bz 18 0x7f) HT_.out ?_
           refine pV 7 142 (bz 18 0xff) HT_.out ?_
           refine pV 8 143 (bz 18 0x1ff) HT_.out ?_
           refine pV 10 145 (bz 18 0x5ff) HT_.out ?_
           refine pV 11 146 (bz 18 0xdff) HT_.out ?_
           refine pV 12 147 (bz 18 0x1dff) HT_.out ?_
           refine tV 9 144 (bz 18 0x1fff) HT_.out HW_.out hHeld rfl rfl (by rintro w' ⟨s0, s1⟩; go_simp; with_reducible rfl) ?_
           refine tV 13 148 (bz 18 0x3fff) HT_.out HW_.out hHeld rfl rfl (by rintro w' ⟨s0, s1⟩; go_simp; with_reducible rfl) ?_
           refine pV 14 149 (bz 18 0x7fff) HT_.out ?_
           refine last_ (i := 15) (N := none) (bz 18 0xffff) rfl rfl (one_of HT_.out (by kernel_rfl)) (by decide) (fun K hK => ?_)
           refine skip_ (w1 := ?_) (by rfl) rfl ?_ ?_
           rotate_left
           ·go_simp
            rfl
           refine hK.out _ _ ?_
           clear hK K
           refine pV 16 150 (bz 18 0x1ffff) HT_.out ?_
           refine last_ (i := 17) (N := none) (bz 18 0x3ffff) rfl rfl (one_of HT_.out (by kernel_rfl)) (by decide) (fun K hK => ?_)
           refine skip_ (w1 := ?_) (by rfl) rfl ?_ ?_
           rotate_left
           ·go_simp
            rfl
           refine hK.out _ _ ?_
           clear hK K
           refine done_ (done_of HT_.out (by kernel_rfl)) ?_
           try go_wp2
           have n0_ : Aside0 (Kd.R k55 55 ((w157.setCell ⟨go137, ((ji134) : Int).toNat, none⟩ (.int .i64 (rd y483 (ji131)))).setCell ⟨go137, ((ji131) : Int).toNat, none⟩ (.int .i64 (rd y483 (ji134)))) w.heap.size (fun _ => True) (.slice Ao16 t460.length co16) t460) := ⟨by (with_reducible repeat (first | apply Kd.R_alloc | apply Kd.R_drewN | apply Kd.R_drew)); exact Kd.R_mono (Kd.R_far (p := ⟨go137, ((ji131) : Int).toNat, none⟩) (Kd.R_far (p := ⟨go137, ((ji134) : Int).toNat, none⟩) (Kd.R_types HO_464001.out GG137.out (by decide)) (fun _ hk => hk.2) (.int .i64 (rd y483 (ji131)))) (fun _ hk => hk.2) (.int .i64 (rd y483 (ji134)))) (fun _ hk => trivial)⟩
           have n1_ : Aside0 (Kd.R (Kd.int .i64) 3 ((w157.setCell ⟨go137, ((ji134) : Int).toNat, none⟩ (.int .i64 (rd y483 (ji131)))).setCell ⟨go137, ((ji131) : Int).toNat, none⟩ (.int .i64 (rd y483 (ji134)))) w.heap.size (fun k_ => some k_ ≠ (.slice Ao26 t469.length co26 : Value).ownBlock ∧ some k_ ≠ (.slice (some ⟨go137, 0, none⟩) y483.length co158 : Value).ownBlock) (.slice Ao19 t464.length co19) t464) := ⟨by (with_reducible repeat (first | apply Kd.R_alloc | apply Kd.R_drewN | apply Kd.R_drew)); exact Kd.R_mono (Kd.R_far (p := ⟨go137, ((ji131) : Int).toNat, none⟩) (Kd.R_far (p := ⟨go137, ((ji134) : Int).toNat, none⟩) (Kd.R_mono HO_469000.out (fun k_ hk => (⟨hk, fun e_ => hk.2 (by rw [e_]; rfl)⟩ : _ ∧ k_ ≠ go137))) (fun _ hk => hk.2) (.int .i64 (rd y483 (ji131)))) (fun _ hk => hk.2) (.int .i64 (rd y483 (ji134)))) (fun _ hk => ⟨hk.1.1, hk.1.2⟩)⟩
           have n2_ : Aside0 (Kd.R (Kd.int .i64) 3 ((w157.setCell ⟨go137, ((ji134) : Int).toNat, none⟩ (.int .i64 (rd y483 (ji131)))).setCell ⟨go137, ((ji131) : Int).toNat, none⟩ (.int .i64 (rd y483 (ji134)))) w.heap.size (fun k_ => some k_ ≠ (.slice Ao19 t464.length co19 : Value).ownBlock ∧ some k_ ≠ (.slice (some ⟨go137, 0, none⟩) y483.length co158 : Value).ownBlock) (.slice Ao26 t469.length co26) t469) := ⟨by (with_reducible repeat (first | apply Kd.R_alloc | apply Kd.R_drewN | apply Kd.R_drew)); exact Kd.R_mono (Kd.R_far (p := ⟨go137, ((ji131) : Int).toNat, none⟩) (Kd.R_far (p := ⟨go137, ((ji134) : Int).toNat, none⟩) (Kd.R_mono HO_474000.out (fun k_ hk => (⟨hk, fun e_ => hk.2 (by rw [e_]; rfl)⟩ : _ ∧ k_ ≠ go137))) (fun _ hk => hk.2) (.int .i64 (rd y483 (ji131)))) (fun _ hk => hk.2) (.int .i64 (rd y483 (ji134)))) (fun _ hk => ⟨hk.1.1, hk.1.2⟩)⟩
           have n3_ : Aside0 (Kd.R (Kd.int .i64) 3 ((w157.setCell ⟨go137, ((ji134) : Int).toNat, none⟩ (.int .i64 (rd y483 (ji131)))).setCell ⟨go137, ((ji131) : Int).toNat, none⟩ (.int .i64 (rd y483 (ji134)))) w.heap.size (fun k_ => some k_ ≠ (.slice Ao19 t464.length co19 : Value).ownBlock ∧ some k_ ≠ (.slice Ao26 t469.length co26 : Value).ownBlock) (.slice (some ⟨go137, 0, none⟩) y483.length co158) y489) := ⟨rA HQ160.out⟩
           have n4_ : Aside0 (((w157.setCell ⟨go137, ((ji134) : Int).toNat, none⟩ (.int .i64 (rd y483 (ji131)))).setCell ⟨go137, ((ji131) : Int).toNat, none⟩ (.int .i64 (rd y483 (ji134)))).heap[gb457]? = some (.cells #[.int .u8 a0_0, .int .u8 a0_1, .slice A0_2 l0_2.length c0_2] 24 (0, 0))) := ⟨by (with_reducible repeat (first | refine blk_drewN ?_ _ | refine blk_drew ?_ | refine blk_alloc ?_ _)); refine blk_far ?_ (by have h_ := Kd.R_ne HO485.out BK457.out (by decide); intro e_; exact h_ (by rw [e_]; rfl)) _; (with_reducible repeat (first | refine blk_drewN ?_ _ | refine blk_drew ?_ | refine blk_alloc ?_ _)); refine blk_far ?_ (by have h_ := Kd.R_ne HO485.out BK457.out (by decide); intro e_; exact h_ (by rw [e_]; rfl)) _; (with_reducible repeat (first | refine blk_drewN ?_ _ | refine blk_drew ?_ | refine blk_alloc ?_ _)); exact BK457.out⟩
           have n5_ : Aside0 (((w157.setCell ⟨go137, ((ji134) : Int).toNat, none⟩ (.int .i64 (rd y483 (ji131)))).setCell ⟨go137, ((ji131) : Int).toNat, none⟩ (.int .i64 (rd y483 (ji134)))).heap[gb463]? = some (.cells #[.int .i64 t459, .slice Ao16 t460.length co16] 31 (0, 0))) := ⟨by (with_reducible repeat (first | refine blk_drewN ?_ _ | refine blk_drew ?_ | refine blk_alloc ?_ _)); refine blk_far ?_ (by have h_ := Kd.R_ne HO485.out BK463.out (by decide); intro e_; exact h_ (by rw [e_]; rfl)) _; (with_reducible repeat (first | refine blk_drewN ?_ _ | refine blk_drew ?_ | refine blk_alloc ?_ _)); refine blk_far ?_ (by have h_ := Kd.R_ne HO485.out BK463.out (by decide); intro e_; exact h_ (by rw [e_]; rfl)) _; (with_reducible repeat (first | refine blk_drewN ?_ _ | refine blk_drew ?_ | refine blk_alloc ?_ _)); exact BK463.out⟩
           have n6_ : Aside0 (((w157.setCell ⟨go137, ((ji134) : Int).toNat, none⟩ (.int .i64 (rd y483 (ji131)))).setCell ⟨go137, ((ji131) : Int).toNat, none⟩ (.int .i64 (rd y483 (ji134)))).heap[gb468]? = some (.cells #[.slice Ao19 t464.length co19, .int .i64 t467] 37 (0, 0))) := ⟨by (with_reducible repeat (first | refine blk_drewN ?_ _ | refine blk_drew ?_ | refine blk_alloc ?_ _)); refine blk_far ?_ (by have h_ := Kd.R_ne HO485.out BK468.out (by decide); intro e_; exact h_ (by rw [e_]; rfl)) _; (with_reducible repeat (first | refine blk_drewN ?_ _ | refine blk_drew ?_ | refine blk_alloc ?_ _)); refine blk_far ?_ (by have h_ := Kd.R_ne HO485.out BK468.out (by decide); intro e_; exact h_ (by rw [e_]; rfl)) _; (with_reducible repeat (first | refine blk_drewN ?_ _ | refine blk_drew ?_ | refine blk_alloc ?_ _)); exact BK468.out⟩
           have n7_ : Aside0 (((w157.setCell ⟨go137, ((ji134) : Int).toNat, none⟩ (.int .i64 (rd y483 (ji131)))).setCell ⟨go137, ((ji131) : Int).toNat, none⟩ (.int .i64 (rd y483 (ji134)))).heap[gb473]? = some (.cells #[.slice Ao26 t469.length co26, .int .i64 t472] 37 (0, 0))) := ⟨by (with_reducible repeat (first | refine blk_drewN ?_ _ | refine blk_drew ?_ | refine blk_alloc ?_ _)); refine blk_far ?_ (by have h_ := Kd.R_ne HO485.out BK473.out (by decide); intro e_; exact h_ (by rw [e_]; rfl)) _; (with_reducible repeat (first | refine blk_drewN ?_ _ | refine blk_drew ?_ | refine blk_alloc ?_ _)); refine blk_far ?_ (by have h_ := Kd.R_ne HO485.out BK473.out (by decide); intro e_; exact h_ (by rw [e_]; rfl)) _; (with_reducible repeat (first | refine blk_drewN ?_ _ | refine blk_drew ?_ | refine blk_alloc ?_ _)); exact BK473.out⟩
           have n8_ : Aside0 (Below w.heap.size w ((w157.setCell ⟨go137, ((ji134) : Int).toNat, none⟩ (.int .i64 (rd y483 (ji131)))).setCell ⟨go137, ((ji131) : Int).toNat, none⟩ (.int .i64 (rd y483 (ji134))))) := ⟨by repeat (first | (with_reducible first | exact HB.out | apply below_alloc | apply pw_below_drewN | apply below_drew1 | refine below_set ?_ GB137.out | refine below_set ?_ GB137.out | refine below_set ?_ GE457.out | refine below_set ?_ GE463.out | refine below_set ?_ GE468.out | refine below_set ?_ GE473.out) | exact HB.out)⟩
           (try clear HO_464001)
           (try clear HO_469000)
           (try clear HO_474000)
           (try clear HO485)
           (try clear BK457)
           (try clear BK463)
           (try clear BK468)
           (try clear BK473)
           (try clear HB)
           generalize ((w157.setCell ⟨go137, ((ji134) : Int).toNat, none⟩ (.int .i64 (rd y483 (ji131)))).setCell ⟨go137, ((ji131) : Int).toNat, none⟩ (.int .i64 (rd y483 (ji134)))) = w161 at n0_ n1_ n2_ n3_ n4_ n5_ n6_ n7_ n8_ ⊢
           have HO_464001 := n0_
           have HO_469000 := n1_
           have HO_474000 := n2_
           have HO485 := n3_
           have BK457 := n4_
           have BK463 := n5_
           have BK468 := n6_
           have BK473 := n7_
           have HB := n8_
           clear n0_ n1_ n2_ n3_ n4_ n5_ n6_ n7_ n8_
           replace HO_464001 := Aside0.mk (Kd.R_drew HO_464001.out)
           replace HO_469000 := Aside0.mk (Kd.R_drew HO_469000.out)
           replace HO_474000 := Aside0.mk (Kd.R_drew HO_474000.out)
           replace HO485 := Aside0.mk (Kd.R_drew HO485.out)
           replace BK457 := Aside0.mk (blk_drew BK457.out)
           replace BK463 := Aside0.mk (blk_drew BK463.out)
           replace BK468 := Aside0.mk (blk_drew BK468.out)
           replace BK473 := Aside0.mk (blk_drew BK473.out)
           replace HB := Aside0.mk (below_drew1 HB.out)
           have p491 : 0 ≤ ((ji134) : Int) := oD
           have q491 : (ji134) < (t464.length : Int) := oD
           obtain ⟨ad491, e491, hx491_0⟩ := Kd.at_int (Kd.R_reads' HO_469000.out).2.2 (ji134) p491 q491
           cases e491
           replace p491 := eq_true p491
           replace q491 := eq_true q491
           have p492 : 0 ≤ ((ji131) : Int) := oD
           have q492 : (ji131) < (t464.length : Int) := oD
           obtain ⟨ad492, e492, hx492_0⟩ := Kd.at_int (Kd.R_reads' HO_469000.out).2.2 (ji131) p492 q492
           obtain rfl : ad491 = ad492 := (by injection e492)
           replace p492 := eq_true p492
           replace q492 := eq_true q492
           refine start_ (n := 38) (S := fun w' => w'.cell? ⟨gb463, 0, none⟩ = some (.int .i64 t459) ∧ w'.cell? ⟨gb463, 1, none⟩ = some (.slice Ao16 t460.length co16) ∧ w'.cell? ⟨gb468, 0, none⟩ = some (.slice (some ad491) t464.length co19) ∧ w'.cell? ⟨gb468, 1, none⟩ = some (.int .i64 t467) ∧ w'.cell? (ad491.add ((ji134)).toNat) = some (.int .i64 (rd t464 (ji134))) ∧ w'.cell? (ad491.add ((ji131)).toNat) = some (.int .i64 (rd t464 (ji131)))) (ds := []) #[false, false, false, false, false, false, false, false, false, false, false, false, false, false, false, false, false, false, false, false, false, false, false, false, false, false, false, false, false, false, false, false, false, false, false, false, false, false] (by kernel_rfl) rfl rfl ⟨(blk_cell BK463.out 0).trans rfl, (blk_cell BK463.out 1).trans rfl, (blk_cell BK468.out 0).trans rfl, (blk_cell BK468.out 1).trans rfl, hx491_0, hx492_0⟩ (fun hHeld => ?_); refine with_tabW wireloomlaw05_DigraphOrders.tab32 wireloomlaw05_DigraphOrders.bits32 (fun HT_ HW_ => ?_)
           generalize w161.drew = w162 at HO_464001 HO_469000 HO_474000 HO485 BK457 BK463 BK468 BK473 HB HQ160 hx491_0 hx492_0 hHeld ⊢
           refine pV 0 151 (bz 38 0x1) HT_.out ?_
           refine pV 2 153 (bz 38 0x5) HT_.out ?_
           refine pV 4 155 (bz 38 0x15) HT_.out ?_
           refine pV 7 158 (bz 38 0x95) HT_.out ?_
           refine pV 9 160 (bz 38 0x295) HT_.out ?_
           refine pV 11 162 (bz 38 0xa95) HT_.out ?_
           refine pV 14 165 (bz 38 0x4a95) HT_.out ?_
           refine pV 16 167 (bz 38 0x14a95) HT_.out ?_
           refine pV 17 168 (bz 38 0x34a95) HT_.out ?_
           refine tV 1 152 (bz 38 0x34a97) HT_.out HW_.out hHeld rfl rfl (by rintro w' ⟨s0, s1, s2, s3, s4, s5⟩; go_simp; with_reducible rfl) ?_
           refine tV 3 154 (bz 38 0x34a9f) HT_.out HW_.out hHeld rfl rfl (by rintro w' ⟨s0, s1, s2, s3, s4, s5⟩; go_simp; with_reducible rfl) ?_
           refine tV 8 159 (bz 38 0x34b9f) HT_.out HW_.out hHeld rfl rfl (by rintro w' ⟨s0, s1, s2, s3, s4, s5⟩; go_simp; with_reducible rfl) ?_
           refine tV 10 161 (bz 38 0x34f9f) HT_.out HW_.out hHeld rfl rfl (by rintro w' ⟨s0, s1, s2, s3, s4, s5⟩; go_simp; with_reducible rfl) ?_
           refine pV 12 163 (bz 38 0x35f9f) HT_.out ?_
           refine tV 13 164 (bz 38 0x37f9f) HT_.out HW_.out hHeld rfl rfl (by rintro w' ⟨s0, s1, s2, s3, s4, s5⟩; go_simp; with_reducible rfl) ?_
           refine tV 15 166 (bz 38 0x3ff9f) HT_.out HW_.out hHeld rfl rfl (by rintro w' ⟨s0, s1, s2, s3, s4, s5⟩; go_simp; with_reducible rfl) ?_
           refine pV 18 169 (bz 38 0x7ff9f) HT_.out ?_
           refine tV 19 170 (bz 38 0xfff9f) HT_.out HW_.out hHeld rfl rfl (by rintro w' ⟨s0, s1, s2, s3, s4, s5⟩; go_simp; with_reducible rfl) ?_
           refine one_ (i := 5) (N := some 156) (bz 38 0xfffbf) rfl rfl (one_of HT_.out (by kernel_rfl)) (by decide) (fun K hK => ?_)
           refine goes_ Try.func21 (by kernel_rfl) rfl #[.int .i64 t459, .slice Ao16 t460.length co16, .slice (some ⟨go137, 0, none⟩) y489.length co158] (by rfl) rfl rfl (by (try simp only [List.map_toArray, List.map_cons, List.map_nil]); first | done | (rw [show y489.length = y483.length from (Kd.R_reads' HO485.out).1.symm] <;> rfl) | rfl | (simp only [List.length_drop, List.length_take]; rfl)) ?_
           with_reducible refine (digraph_Check.calls t459 _ _ t460 _ _ y489 t490 _ ?side1 ?side2 ?side3 ?side4 A139.out).mono ?_
           (case side1 => exact cA (Kd.R_reads' HO_464001.out).2.2)
           (case side2 => exact (Kd.R_reads' HO_464001.out).2.1)
           (case side3 => exact cA (Kd.R_reads' HO485.out).2.2)
           (case side4 => rw [show y489.length = y483.length from (Kd.R_reads' HO485.out).1.symm]; exact (Kd.R_reads' HO485.out).2.1)
           rintro e w163 ⟨rfl, hb⟩
           have HS4_ := (hb.cell (World.block_lt_of_cell? _ _ (hHeld.2.2.2.2.1))).trans (hHeld.2.2.2.2.1)
           have HS5_ := (hb.cell (World.block_lt_of_cell? _ _ (hHeld.2.2.2.2.2))).trans (hHeld.2.2.2.2.2)
           refine ⟨_, rfl, ?_⟩
           replace HO_464001 := Aside0.mk (Kd.R_below (rA HO_464001.out) hb)
           replace HO_469000 := Aside0.mk (Kd.R_below (rA HO_469000.out) hb)
           replace HO_474000 := Aside0.mk (Kd.R_below (rA HO_474000.out) hb)
           replace HO485 := Aside0.mk (Kd.R_below (rA HO485.out) hb)
           replace BK457 := kC BK457 hb
           replace BK463 := kC BK463 hb
           replace BK468 := kC BK468 hb
           replace BK473 := kC BK473 hb
           replace HB := Aside0.mk (below_step (wB4 HB.out GE457.out GE463.out GE468.out GE473.out) hb)
           (try clear hb)
           (try clear hb2)
           (try clear hk)
           (try clear hi)
           refine hK.out _ _ ⟨(blk_cell BK463.out 0).trans rfl, (blk_cell BK463.out 1).trans rfl, (blk_cell BK468.out 0).trans rfl, (blk_cell BK468.out 1).trans rfl, HS4_, HS5_⟩ (fun hHeld => ?_)
           clear hK K
           refine norm_ (a' := ?_) ?_ ?_
           rotate_left
           ·show Act.put _ (some 156) _ = _
            simp only [Act.put, List.setIfInBounds_toArray, List.set_cons_zero, List.set_cons_succ, i64_w, i32_w]
            rfl
           refine pV 6 157 (bz 38 0xfffff) HT_.out ?_
           refine one_ (i := 20) (N := some 171) (bz 38 0x1fffff) rfl rfl (one_of HT_.out (by kernel_rfl)) (by decide) (fun K hK => ?_)
           refine goes_ Try.func29 (by kernel_rfl) rfl #[.slice Ao16 t460.length co16, .int .i64 (rd t464 (ji134)), .int .i64 (rd t464 (ji131))] (by rfl) rfl rfl (by (try simp only [List.map_toArray, List.map_cons, List.map_nil]); first | done | (simp only [hji131, hji134]; rfl) | rfl | (simp only [List.length_drop, List.length_take]; rfl)) ?_
           with_reducible refine (wireloomlaw05_edge.calls k2 _ _ t460 (rd t464 (ji134)) (rd t464 (ji131)) t493 _ ?side1 ?side2 A142.out).mono ?_
           (case side1 => exact cA (Kd.R_reads' HO_464001.out).2.2)
           (case side2 => exact (Kd.R_reads' HO_464001.out).2.1)
           rintro e w' ⟨rfl, ⟨nd, rfl⟩⟩
           refine ⟨_, rfl, ?_⟩
           have q164 : (1 : Int) ≤ ((t464.length : Int) : Int) := oD
           obtain ⟨i0164, hi0164, _, hsz164, _⟩ := info_parts info3
           have hroom164 : t464.length ≤ co19 := (Kd.R_reads' HO_469000.out).2.1
           have hC164 : Kd.C (Kd.int .i64) _ (some ad491) t464.length t464 := (Kd.R_reads' HO_469000.out).2.2
           have hcut164 := cut_from (P := Try.prog) 26 3 .i64 Try.underlying26 hi0164 1 hsz164 (some ad491) t464.length co19 1 (by omega) q164
           have hr164 := Kd.C_drop (m := (1 : Int).toNat) (c := co19) hC164 (by omega) hroom164
           obtain ⟨A164, hA164⟩ : ∃ A1, A1 = (if co19 = (1 : Int).toNat then (some ad491) else ((some ad491) : Option Addr).map (·.add ((1 : Int).toNat * 1))) := ⟨_, rfl⟩
           obtain ⟨c164, hc164⟩ : ∃ c1, c1 = co19 - (1 : Int).toNat := ⟨_, rfl⟩
           have hy164 : y494.length = t464.length - (1 : Int).toNat := (by rw [Ny494.out, List.length_drop] <;> omega)
           rw [show (t464).drop (1 : Int).toNat = y494 from Ny494.out.symm] at hr164
           replace hr164 : Kd.C (Kd.int .i64) _ A164 y494.length y494 := (by rw [hA164]; exact hr164)
           rw [← hy164, ← hA164, ← hc164] at hcut164
           have HR497 := Aside0.mk hr164
           have HC497 := Aside0.mk (show y494.length ≤ c164 from by rw [hy164, hc164]; exact Nat.sub_le_sub_right hroom164 _)
           clear hr164 hC164 hroom164 hi0164 hsz164 hc164
           have KY164 := Aside0.mk hy164
           have KA164 := Aside0.mk hA164
           clear hy164 hA164
           have KL164 := Aside0.mk (show 1 ≤ t464.length from by omega)
           replace q164 := eq_true q164
           refine hK.out _ _ ⟨(blk_cell BK463.out 0).trans rfl, (blk_cell BK463.out 1).trans rfl, (blk_cell BK468.out 0).trans rfl, (blk_cell BK468.out 1).trans rfl, hHeld.2.2.2.2.1, hHeld.2.2.2.2.2⟩ (fun hHeld => ?_)
           clear hK K
           refine norm_ (a' := ?_) ?_ ?_
           rotate_left
           ·show Act.put _ (some 171) _ = _
            simp only [Act.put, List.setIfInBounds_toArray, List.set_cons_zero, List.set_cons_succ, i64_w, i32_w]
            rfl
           refine pV 21 172 (bz 38 0x3fffff) HT_.out ?_
           refine pV 22 173 (bz 38 0x7fffff) HT_.out ?_
           refine pV 23 174 (bz 38 0xffffff) HT_.out ?_
           refine pV 24 175 (bz 38 0x1ffffff) HT_.out ?_
           refine pV 26 177 (bz 38 0x5ffffff) HT_.out ?_
           refine pV 28 179 (bz 38 0x15ffffff) HT_.out ?_
           refine tV 25 176 (bz 38 0x17ffffff) HT_.out HW_.out hHeld rfl rfl (by rintro w' ⟨s0, s1, s2, s3, s4, s5⟩; go_simp; with_reducible rfl) ?_
           refine tV 27 178 (bz 38 0x1fffffff) HT_.out HW_.out hHeld rfl rfl (by rintro w' ⟨s0, s1, s2, s3, s4, s5⟩; go_simp; with_reducible rfl) ?_
           refine tV 29 180 (bz 38 0x3fffffff) HT_.out HW_.out hHeld rfl rfl (by rintro w' ⟨s0, s1, s2, s3, s4, s5⟩; go_simp; with_reducible rfl) ?_
           refine pV 30 181 (bz 38 0x7fffffff) HT_.out ?_
           refine one_ (i := 31) (N := some 182) (bz 38 0xffffffff) rfl rfl (one_of HT_.out (by kernel_rfl)) (by decide) (fun K hK => ?_)
           refine goes_ Try.func21 (by kernel_rfl) rfl #[.int .i64 t459, .slice Ao16 t460.length co16, .slice A164 y494.length c164] (by rfl) rfl rfl (by (try simp only [List.map_toArray, List.map_cons, List.map_nil]); first | done | rfl | (simp only [List.length_drop, List.length_take]; rfl)) ?_
           with_reducible refine (digraph_Check.calls t459 _ _ t460 _ _ y494 t498 _ ?side1 ?side2 ?side3 ?side4 A145.out).mono ?_
           (case side1 => exact cA (Kd.R_reads' HO_464001.out).2.2)
           (case side2 => exact (Kd.R_reads' HO_464001.out).2.1)
           (case side3 => repeat (first | exact (by repeat (first | (with_reducible exact HR497.out) | (with_reducible refine Kd.C_alloc ?_ _) | (with_reducible refine Kd.C_drewN ?_ _) | (with_reducible refine Kd.C_drew ?_) | exact HR497.out)) | (with_reducible refine Kd.C_alloc ?_ _) | (with_reducible refine Kd.C_drewN ?_ _) | (with_reducible refine Kd.C_drew ?_)))
           (case side4 => exact HC497.out)
           rintro e w165 ⟨rfl, hb⟩
           have HS4_ := (hb.cell (World.block_lt_of_cell? _ _ (hHeld.2.2.2.2.1))).trans (hHeld.2.2.2.2.1)
           have HS5_ := (hb.cell (World.block_lt_of_cell? _ _ (hHeld.2.2.2.2.2))).trans (hHeld.2.2.2.2.2)
           refine ⟨_, rfl, ?_⟩
           have n0_ := Aside0.mk (Kd.R_below (rA HO_464001.out) hb)
           have n1_ := Aside0.mk (Kd.R_below (rA HO_469000.out) hb)
           have n2_ := Aside0.mk (Kd.R_below (rA HO_474000.out) hb)
           have n3_ := Aside0.mk (Kd.R_below (rA HO485.out) hb)
           have n4_ := Aside0.mk (kB BK457.out hb)
           have n5_ := Aside0.mk (kB BK463.out hb)
           have n6_ := Aside0.mk (kB BK468.out hb)
           have n7_ := Aside0.mk (kB BK473.out hb)
           have n8_ := Aside0.mk True.intro
           have n9_ := Aside0.mk (below_step (wB4 HB.out GE457.out GE463.out GE468.out GE473.out) hb)
           clear HO_464001
           clear HO_469000
           clear HO_474000
           clear HO485
           clear BK457
           clear BK463
           clear BK468
           clear BK473
           clear HR497
           clear HB
           have HO_464001 := n0_
           have HO_469000 := n1_
           have HO_474000 := n2_
           have HO485 := n3_
           have BK457 := n4_
           have BK463 := n5_
           have BK468 := n6_
           have BK473 := n7_
           have HR497 := n8_
           have HB := n9_
           clear n0_ n1_ n2_ n3_ n4_ n5_ n6_ n7_ n8_ n9_
           (try clear hb)
           (try clear hb2)
           (try clear hk)
           (try clear hi)
           refine hK.out _ _ ⟨(blk_cell BK463.out 0).trans rfl, (blk_cell BK463.out 1).trans rfl, (blk_cell BK468.out 0).trans rfl, (blk_cell BK468.out 1).trans rfl, HS4_, HS5_⟩ (fun hHeld => ?_)
           clear hK K
           refine norm_ (a' := ?_) ?_ ?_
           rotate_left
           ·show Act.put _ (some 182) _ = _
            simp only [Act.put, List.setIfInBounds_toArray, List.set_cons_zero, List.set_cons_succ, i64_w, i32_w]
            rfl
           refine pV 32 183 (bz 38 0x1ffffffff) HT_.out ?_
           refine pV 33 184 (bz 38 0x3ffffffff) HT_.out ?_
           refine pV 34 185 (bz 38 0x7ffffffff) HT_.out ?_
           refine pV 35 186 (bz 38 0xfffffffff) HT_.out ?_
           refine pV 36 187 (bz 38 0x1fffffffff) HT_.out ?_
           refine pV 37 4 (bz 38 0x3fffffffff) HT_.out ?_
           refine done_ (done_of HT_.out (by kernel_rfl)) ?_
           try go_wp2
           go_ret
           exact ⟨by first | rfl | (simp [errW_none, errW_some] <;> rfl) | (simp only [← hji131, ← hji134]; first | rfl | (simp [errW_none, errW_some] <;> rfl)) | (simp [*, errW_none, errW_some] <;> rfl), by repeat (first | (with_reducible first | exact HB.out | apply below_alloc | apply pw_below_drewN | apply below_drew1 | refine below_set ?_ GE457.out | refine below_set ?_ GE463.out | refine below_set ?_ GE468.out | refine below_set ?_ GE473.out) | exact HB.out)⟩
     ·rw [if_neg c65] at H
      have c65b0 : (t467 == 0) = false := beq_eq_false_iff_ne.mpr c65
      have c65b1 : (t467 != 0) = true := bne_iff_ne.mpr c65
      obtain rfl := Option.some.inj H
      have hnb166 := NB468_457.out
      have hnc166 := NB457_468.out
      have hnb167 := NB468_463.out
      have hnc167 := NB463_468.out
      have hnb168 := NB468_473.out
      have hnc168 := NB473_468.out
      have hcz169_0 : wc.cell? ⟨gb468, 0, none⟩ = some (.slice Ao19 t464.length co19) := (blk_cell BK468.out 0).trans rfl
      have hcz169_1 : wc.cell? ⟨gb468, 1, none⟩ = some (.int .i64 t467) := (blk_cell BK468.out 1).trans rfl
      have hfz169_0 := blk_frozen BK468.out 0
      have hfz169_1 := blk_frozen BK468.out 1
      go_wp2
      go_ret
      exact ⟨eS, by repeat (first | (with_reducible first | exact HB.out | apply below_alloc | apply pw_below_drewN | apply below_drew1 | refine below_set ?_ GE457.out | refine below_set ?_ GE463.out | refine below_set ?_ GE468.out | refine below_set ?_ GE473.out) | exact HB.out)⟩
 ·replace c4 := Bool.eq_false_iff.mpr c4
  subst c4
  have H1 : (none) = some r := by rw [if_neg (show ¬ (false = true) by decide)] at H; exact H
  clear H
  have H := H1
  clear H1
  exact absurd H (by simp)
end Go.Proofs.Ytlldjinejckbaaa.PD

end
section
namespace Go.Proofs.Ytlldjinejckbaaa.Pg
open Go Go.RowKit Go.Proofs.YtlldjinejckbaaaW.PrintWords Go.Proofs.Ytlldjinejckbaaa.Mod Go.Proofs.Ytlldjinejckbaaa.Gs Go.Proofs.Ytlldjinejckbaaa.Lb Go.Proofs.Ytlldjinejckbaaa.Ng Go.Proofs.Ytlldjinejckbaaa.Rc Go.Proofs.Ytlldjinejckbaaa.PD
def E (l : List S55) (u v : Int) : Prop := ∃ e ∈ l, e.f0 = u ∧ e.f1 = v
def Ok (n : Nat) (l : List S55) : Prop := ∀ e ∈ l, 0 ≤ e.f0 ∧ e.f0 < n ∧ 0 ≤ e.f1 ∧ e.f1 < n
theorem E.ok {n : Nat} {l : List S55} (h : Ok n l) {u v : Int} (e : E l u v) : 0 ≤ u ∧ u < n ∧ 0 ≤ v ∧ v < n := by
 obtain ⟨x, hx, rfl, rfl⟩ := e
 exact h x hx
theorem compactUpTo_strict (d : Array Int) (hs : d.toList.Pairwise (· ≤ ·)) : ∀ m, m ≤ d.size → (Lib.compactUpTo d m).Pairwise (· < ·) ∧ (∀ x, x ∈ Lib.compactUpTo d m ↔ ∃ j, j < m ∧ d[j]! = x) := by
 have hle : ∀ i j, i ≤ j → j < d.size → d[i]! ≤ d[j]! := fun i j hij hj => by
  rw [getElem!_pos d i (by omega), getElem!_pos d j hj]
  rcases Nat.lt_or_eq_of_le hij with h | h
  ·have := List.pairwise_iff_getElem.1 hs i j (by simp; omega) (by simpa using hj) h
   simpa using this
  ·subst h; exact Int.le_refl _
 intro m
 induction m with
 | zero => intro _; simp [Lib.compactUpTo]
 | succ m ih =>
  intro hm
  obtain ⟨h1, h2⟩ := ih (by omega)
  rw [Lib.compactUpTo_succ]
  by_cases hk : Lib.keeps d m = true
  ·rw [if_pos hk]
   refine ⟨?_, fun x => ?_⟩
   ·rw [List.pairwise_append]
    refine ⟨h1, by simp, fun a ha b hb => ?_⟩
    rw [List.mem_singleton] at hb
    subst hb
    obtain ⟨j, hj, rfl⟩ := (h2 a).1 ha
    unfold Lib.keeps at hk
    rw [decide_eq_true_eq] at hk
    rcases hk with hk | hk
    ·omega
    ·have h3 := hle j (m - 1) (by omega) (by omega)
     have h4 := hle (m - 1) m (by omega) (by omega)
     omega
   ·rw [List.mem_append, List.mem_singleton, h2]
    constructor
    ·rintro (⟨j, hj, e⟩ | e)
     ·exact ⟨j, by omega, e⟩
     ·exact ⟨m, by omega, e.symm⟩
    ·rintro ⟨j, hj, e⟩
     rcases Nat.lt_or_eq_of_le (Nat.le_of_lt_succ hj) with h | h
     ·exact .inl ⟨j, h, e⟩
     ·subst h; exact .inr e.symm
  ·rw [if_neg hk, List.append_nil]
   refine ⟨h1, fun x => ?_⟩
   rw [h2]
   constructor
   ·rintro ⟨j, hj, e⟩; exact ⟨j, by omega, e⟩
   ·rintro ⟨j, hj, e⟩
    rcases Nat.lt_or_eq_of_le (Nat.le_of_lt_succ hj) with h | h
    ·exact ⟨j, h, e⟩
    ·subst h
     unfold Lib.keeps at hk
     rw [decide_eq_true_eq] at hk
     have h5 : ¬ j = 0 := fun h => hk (.inl h)
     have h6 : d[j]! = d[j - 1]! := Classical.byContradiction fun h => hk (.inr h)
     exact ⟨j - 1, by omega, by rw [← h6]; exact e⟩
theorem sortI_sorted (xs : List Int) : (sortI xs).Pairwise (· ≤ ·) := by
 unfold sortI
 have := List.pairwise_mergeSort (le := fun x y : Int => decide (x ≤ y)) (fun a b c h1 h2 => by simp at *; omega) (fun a b => by simp; omega) xs
 exact this.imp (fun h => by simpa using h)
theorem tidyRow (xs : List Int) : (Lib.compact (sortI xs)).Pairwise (· < ·) ∧ ∀ x, x ∈ Lib.compact (sortI xs) ↔ x ∈ xs := by
 unfold Lib.compact
 obtain ⟨h1, h2⟩ := compactUpTo_strict (sortI xs).toArray (by simpa using sortI_sorted xs) (sortI xs).length (by simp)
 refine ⟨h1, fun x => ?_⟩
 rw [h2, ← mem_sortI (r := xs)]
 constructor
 ·rintro ⟨j, hj, rfl⟩
  rw [getElem!_pos (sortI xs).toArray j (by simpa using hj)]
  simp
 ·intro h
  obtain ⟨j, hj, rfl⟩ := List.mem_iff_getElem.1 h
  exact ⟨j, hj, by rw [getElem!_pos (sortI xs).toArray j (by simpa using hj)]; simp⟩
theorem row_tidy (rows : List (List Int)) (v : Int) : row (tidy rows) v = Lib.compact (sortI (row rows v)) := by
 unfold row tidy
 rw [List.getD_eq_getElem?_getD, List.getD_eq_getElem?_getD, List.getElem?_map]
 cases h : rows[v.toNat]? with
 | none => simp [sortI, Lib.compact, Lib.compactUpTo]
 | some r => rfl
theorem row_built {n : Nat} : ∀ (l : List S55), Ok n l → ∀ (v x : Int), 0 ≤ v → v < n → ((x ∈ row (built n l true) v ↔ E l v x) ∧ (x ∈ row (built n l false) v ↔ E l x v)) := by
 have key : ∀ (l : List S55) (R : Bool → List (List Int)), Ok n l → (∀ b, (R b).length = n) → ∀ (b : Bool) (v x : Int), 0 ≤ v → v < n → (x ∈ row (l.foldl addE R b) v ↔ x ∈ row (R b) v ∨ (if b then E l v x else E l x v)) := by
  intro l
  induction l with
  | nil => intro R _ _ b v x _ _; cases b <;> simp [E]
  | cons e l ih =>
   intro R hok hR b v x h0 h1
   obtain ⟨e0, e1, e2, e3⟩ := hok e (by simp)
   rw [List.foldl_cons, ih (addE R e) (fun z hz => hok z (by simp [hz])) (fun b => by rw [addE_length]; exact hR b) b v x h0 h1]
   have hrow : x ∈ row (addE R e b) v ↔ x ∈ row (R b) v ∨ (if b then e.f0 = v ∧ e.f1 = x else e.f0 = x ∧ e.f1 = v) := by
    unfold addE
    cases b with
    | true =>
     rw [upd_other _ _ _ (by decide), upd_same]
     unfold row
     rw [List.getD_eq_getElem?_getD, List.getElem?_set]
     by_cases hv : e.f0 = v
     ·rw [if_pos (by omega), if_pos (by rw [hR]; omega)]
      subst hv
      simp [List.getD_eq_getElem?_getD, eq_comm]
     ·rw [if_neg (by omega), ← List.getD_eq_getElem?_getD]
      simp [hv]
    | false =>
     rw [upd_same, upd_other _ _ _ (by decide)]
     unfold row
     rw [List.getD_eq_getElem?_getD, List.getElem?_set]
     by_cases hv : e.f1 = v
     ·rw [if_pos (by omega), if_pos (by rw [hR]; omega)]
      subst hv
      simp [List.getD_eq_getElem?_getD, eq_comm]
     ·rw [if_neg (by omega), ← List.getD_eq_getElem?_getD]
      simp [hv]
   rw [hrow]
   have hE : ∀ a c, E (e :: l) a c ↔ (e.f0 = a ∧ e.f1 = c) ∨ E l a c := fun a c => by
    unfold E
    simp
   cases b with
   | true => simp only [if_true]; rw [hE]; exact or_assoc
   | false => simp only [Bool.false_eq_true, if_false]; rw [hE]; exact or_assoc
 intro l hok v x h0 h1
 have e : ∀ b : Bool, x ∈ row ((fun _ => List.replicate n ([] : List Int)) b) v ↔ False := fun b => by
  unfold row
  simp only [List.getD_eq_getElem?_getD, List.getElem?_replicate]
  split <;> simp
 have h1' := key l (fun _ => List.replicate n []) hok (fun _ => by simp) true v x h0 h1
 have h2' := key l (fun _ => List.replicate n []) hok (fun _ => by simp) false v x h0 h1
 rw [e true] at h1'
 rw [e false] at h2'
 exact ⟨by unfold built; rw [h1']; simp, by unfold built; rw [h2']; simp⟩
abbrev nx (n : Nat) (l : List S55) : List (List Int) := tidy (built n l true)
abbrev pv (n : Nat) (l : List S55) : List (List Int) := tidy (built n l false)
theorem mem_nx {n : Nat} {l : List S55} (h : Ok n l) {v : Int} (x : Int) (h0 : 0 ≤ v) (h1 : v < n) : x ∈ row (nx n l) v ↔ E l v x := by
 rw [row_tidy, (tidyRow _).2]; exact (row_built l h v x h0 h1).1
theorem mem_pv {n : Nat} {l : List S55} (h : Ok n l) {v : Int} (x : Int) (h0 : 0 ≤ v) (h1 : v < n) : x ∈ row (pv n l) v ↔ E l x v := by
 rw [row_tidy, (tidyRow _).2]; exact (row_built l h v x h0 h1).2
theorem row_strict (rows : List (List Int)) (v : Int) : (row (tidy rows) v).Pairwise (· < ·) := by rw [row_tidy]; exact (tidyRow _).1
theorem row_nodup (rows : List (List Int)) (v : Int) : (row (tidy rows) v).Nodup := (row_strict rows v).imp (fun h => by omega)
theorem len_nx (n : Nat) (l : List S55) : (nx n l).length = n := by unfold nx; rw [tidy_length, built_length]
theorem len_pv (n : Nat) (l : List S55) : (pv n l).length = n := by unfold pv; rw [tidy_length, built_length]
theorem strict_ext {a b : List Int} (ha : a.Pairwise (· < ·)) (hb : b.Pairwise (· < ·)) (h : ∀ x, x ∈ a ↔ x ∈ b) : a = b := by
 have na : a.Nodup := ha.imp (fun h => by omega)
 have nb : b.Nodup := hb.imp (fun h => by omega)
 have hp : a.Perm b := (List.perm_ext_iff_of_nodup na nb).2 h
 exact List.Perm.eq_of_pairwise (le := fun x y : Int => x < y) (fun x y _ _ h1 h2 => by omega) ha hb hp
theorem nodup_len {n : Nat} {a : List Int} (hn : a.Nodup) (h : ∀ x ∈ a, 0 ≤ x ∧ x < (n : Int)) : a.length ≤ n := by
 have hs : a ⊆ (List.range n).map (fun k : Nat => (k : Int)) := fun x hx => by
  obtain ⟨h0, h1⟩ := h x hx
  exact List.mem_map.2 ⟨x.toNat, List.mem_range.2 (by omega), by omega⟩
 have := hn.length_le_of_subset hs
 simpa using this
theorem nodup_all {n : Nat} {a : List Int} (hn : a.Nodup) (h : ∀ x ∈ a, 0 ≤ x ∧ x < (n : Int)) (hl : a.length = n) : ∀ x : Int, 0 ≤ x → x < n → x ∈ a := by
 have hs : a ⊆ (List.range n).map (fun k : Nat => (k : Int)) := fun x hx => by
  obtain ⟨h0, h1⟩ := h x hx
  exact List.mem_map.2 ⟨x.toNat, List.mem_range.2 (by omega), by omega⟩
 intro x h0 h1
 refine Classical.byContradiction fun hx => ?_
 have hs2 : (x :: a) ⊆ (List.range n).map (fun k : Nat => (k : Int)) := fun y hy => by
  rcases List.mem_cons.1 hy with hy | hy
  ·subst hy; exact List.mem_map.2 ⟨y.toNat, List.mem_range.2 (by omega), by omega⟩
  ·exact hs hy
 have := (List.nodup_cons.2 ⟨hx, hn⟩).length_le_of_subset hs2
 simp at this
 omega
end Go.Proofs.Ytlldjinejckbaaa.Pg

end
section
namespace Go.Proofs.Ytlldjinejckbaaa.Po
open Go Go.RowKit Go.Proofs.YtlldjinejckbaaaW.PrintWords Go.Proofs.Ytlldjinejckbaaa.Mod Go.Proofs.Ytlldjinejckbaaa.Lb Go.Proofs.Ytlldjinejckbaaa.Ng Go.Proofs.Ytlldjinejckbaaa.Rc Go.Proofs.Ytlldjinejckbaaa.PD Go.Proofs.Ytlldjinejckbaaa.Pg Go.Proofs.Ytlldjinejckbaaa.Od Go.Proofs.Ytlldjinejckbaaa.Ins
def Avail (n : Nat) (l : List S55) (out : List Int) (v : Int) : Prop := 0 ≤ v ∧ v < n ∧ v ∉ out ∧ ∀ u, E l u v → u ∈ out
def Greedy (n : Nat) (l : List S55) (out : List Int) : Prop := ∀ k : Nat, k < out.length → Avail n l (out.take k) (rd out k) ∧ ∀ u, Avail n l (out.take k) u → rd out k ≤ u
theorem rd_get {l : List Int} {k : Nat} (h : k < l.length) : rd l (k : Int) = l[k] := by
 unfold rd
 rw [Int.toNat_natCast, List.getD_eq_getElem?_getD, List.getElem?_eq_getElem h]
 rfl
theorem rd_mem {l : List Int} {k : Nat} (h : k < l.length) : rd l (k : Int) ∈ l := by rw [rd_get h]; exact List.getElem_mem _
theorem Greedy.nil (n : Nat) (l : List S55) : Greedy n l [] := fun k hk => absurd hk (Nat.not_lt_zero k)
theorem Greedy.snoc {n : Nat} {l : List S55} {out : List Int} (h : Greedy n l out) {v : Int} (ha : Avail n l out v) (hm : ∀ u, Avail n l out u → v ≤ u) : Greedy n l (out ++ [v]) := by
 intro k hk
 rw [List.length_append, List.length_singleton] at hk
 rcases Nat.lt_or_eq_of_le (Nat.le_of_lt_succ hk) with hk | hk
 ·have e1 : (out ++ [v]).take k = out.take k := by rw [List.take_append_of_le_length (Nat.le_of_lt hk)]
  have e2 : rd (out ++ [v]) (k : Int) = rd out (k : Int) := by rw [rd_get hk, rd_get (by simp; omega), List.getElem_append_left hk]
  rw [e1, e2]; exact h k hk
 ·subst hk
  have e1 : (out ++ [v]).take out.length = out := by simp
  have e2 : rd (out ++ [v]) (out.length : Int) = v := by rw [rd_get (by simp)]; simp
  rw [e1, e2]; exact ⟨ha, hm⟩
theorem Greedy.range {n : Nat} {l : List S55} {out : List Int} (h : Greedy n l out) : ∀ v ∈ out, 0 ≤ v ∧ v < (n : Int) := by
 intro v hv
 obtain ⟨k, hk, rfl⟩ := List.mem_iff_getElem.1 hv
 have := (h k hk).1
 rw [rd_get hk] at this
 exact ⟨this.1, this.2.1⟩
theorem Greedy.nodup {n : Nat} {l : List S55} {out : List Int} (h : Greedy n l out) : out.Nodup := by
 rw [List.nodup_iff_pairwise_ne, List.pairwise_iff_getElem]
 intro i j hi hj hij e
 have h2 := (h j hj).1.2.2.1
 rw [rd_get hj] at h2
 apply h2
 rw [List.mem_iff_getElem]
 exact ⟨i, by rw [List.length_take]; omega, by rw [List.getElem_take]; exact e⟩
theorem Greedy.before {n : Nat} {l : List S55} {out : List Int} (h : Greedy n l out) {k : Nat} (hk : k < out.length) {u : Int} (he : E l u (rd out k)) : u ∈ out.take k := (h k hk).1.2.2.2 u he
theorem Greedy.closed {n : Nat} {l : List S55} {out : List Int} (h : Greedy n l out) {u v : Int} (hv : v ∈ out) (he : E l u v) : u ∈ out := by
 obtain ⟨k, hk, rfl⟩ := List.mem_iff_getElem.1 hv
 rw [← rd_get hk] at he
 exact List.mem_of_mem_take (h.before hk he)
theorem Greedy.len {n : Nat} {l : List S55} {out : List Int} (h : Greedy n l out) : out.length ≤ n := nodup_len h.nodup h.range
theorem start1_spec (prevs : List (List Int)) (n : Nat) : ∀ k, k ≤ n → (start1 prevs n k).1.length = n ∧ (∀ v : Int, 0 ≤ v → v < k → rd (start1 prevs n k).1 v = ((row prevs v).length : Int)) ∧
  (start1 prevs n k).2.Pairwise (· < ·) ∧ (∀ v, v ∈ (start1 prevs n k).2 ↔ 0 ≤ v ∧ v < (k : Int) ∧ row prevs v = []) := by
 intro k
 induction k with
 | zero => intro _; refine ⟨by simp [start1], fun v h0 h1 => by omega, by simp [start1], fun v => ?_⟩; simp [start1]; intro h0 h1; omega
 | succ k ih =>
  intro hk
  obtain ⟨h1, h2, h3, h4⟩ := ih (by omega)
  rw [start1_succ]
  refine ⟨by simp [h1], fun v hv0 hv1 => ?_, ?_, fun v => ?_⟩
  ·by_cases e : v = (k : Int)
   ·subst e
    have := rd_set_same (start1 prevs n k).1 (k : Int) ((row prevs k).length : Int) hv0 (by rw [h1]; omega)
    rw [Int.toNat_natCast] at this
    exact this
   ·have := rd_set_other (start1 prevs n k).1 v (k : Int) ((row prevs k).length : Int) hv0 (by omega) e
    rw [Int.toNat_natCast] at this
    rw [this]
    exact h2 v hv0 (by omega)
  ·split
   ·rw [List.pairwise_append]
    refine ⟨h3, by simp, fun a ha b hb => ?_⟩
    rw [List.mem_singleton] at hb
    have := ((h4 a).1 ha).2.1
    omega
   ·exact h3
  ·split
   ·rename_i hz
    have hz2 : row prevs (k : Int) = [] := List.length_eq_zero_iff.1 (by omega)
    rw [List.mem_append, List.mem_singleton, h4]
    constructor
    ·rintro (⟨a, b, c⟩ | rfl)
     ·exact ⟨a, by omega, c⟩
     ·exact ⟨by omega, by omega, hz2⟩
    ·rintro ⟨a, b, c⟩
     by_cases e : v = (k : Int)
     ·exact .inr e
     ·exact .inl ⟨a, by omega, c⟩
   ·rename_i hz
    rw [h4]
    constructor
    ·rintro ⟨a, b, c⟩; exact ⟨a, by omega, c⟩
    ·rintro ⟨a, b, c⟩
     by_cases e : v = (k : Int)
     ·subst e; rw [c] at hz; simp at hz
     ·exact ⟨a, by omega, c⟩
theorem insert_strict (r : List Int) (x : Int) (h : r.Pairwise (· < ·)) (hx : x ∉ r) : (insertAt r (r.countP (· < x)) x).Pairwise (· < ·) ∧ ∀ y, y ∈ insertAt r (r.countP (· < x)) x ↔ y = x ∨ y ∈ r := by
 have hle := insert_sorted r x (h.imp (fun h => by omega))
 have hp : (insertAt r (r.countP (· < x)) x).Perm (x :: r) := by
  unfold insertAt
  have := List.perm_middle (a := x) (l₁ := r.take (r.countP (· < x))) (l₂ := r.drop (r.countP (· < x)))
  rwa [List.take_append_drop] at this
 have hn : (insertAt r (r.countP (· < x)) x).Nodup := hp.nodup_iff.2 (List.nodup_cons.2 ⟨hx, h.imp (fun h => by omega)⟩)
 refine ⟨?_, fun y => by rw [hp.mem_iff, List.mem_cons]⟩
 rw [List.pairwise_iff_getElem] at hle ⊢
 intro i j hi hj hij
 have h1 := hle i j hi hj hij
 have h2 := List.pairwise_iff_getElem.1 (List.nodup_iff_pairwise_ne.1 hn) i j hi hj hij
 omega
theorem wrap_small {x : Int} (h0 : -1000000 ≤ x) (h1 : x ≤ 1000000) : wrap64 x = x := by unfold wrap64; omega
theorem takeRow_spec : ∀ (xs w r : List Int), xs.Nodup → (∀ y ∈ xs, 0 ≤ y ∧ y < (w.length : Int)) → (∀ y ∈ xs, 1 ≤ rd w y ∧ rd w y ≤ 100000) → r.Pairwise (· < ·) → (∀ y ∈ xs, y ∉ r) →
  (takeRow xs w r).1.length = w.length ∧ (∀ y : Int, 0 ≤ y → rd (takeRow xs w r).1 y = rd w y - (if y ∈ xs then 1 else 0)) ∧ (takeRow xs w r).2.Pairwise (· < ·) ∧ ∀ y, y ∈ (takeRow xs w r).2 ↔ y ∈ r ∨ (y ∈ xs ∧ rd w y = 1)
 | [], w, r, _, _, _, hr, _ => ⟨rfl, fun y _ => by simp [takeRow], hr, fun y => by simp [takeRow]⟩
 | x :: xs, w, r, hn, hx, hb, hr, hnr => by
  obtain ⟨hx0, hx1⟩ := hx x (by simp)
  obtain ⟨hb0, hb1⟩ := hb x (by simp)
  rw [List.nodup_cons] at hn
  have hw : wrap64 (rd w x - 1) = rd w x - 1 := wrap_small (by omega) (by omega)
  have hset : ∀ y, 0 ≤ y → rd (w.set x.toNat (rd w x - 1)) y = if y = x then rd w x - 1 else rd w y := fun y hy => by
   by_cases e : y = x
   ·subst e; rw [if_pos rfl, rd_set_same _ _ _ hx0 hx1]
   ·rw [if_neg e, rd_set_other _ _ _ _ hy hx0 e]
  have hxs : ∀ y ∈ xs, y ≠ x := fun y hy e => hn.1 (by rw [← e]; exact hy)
  have h1 : ∀ y ∈ xs, 0 ≤ y ∧ y < ((w.set x.toNat (rd w x - 1)).length : Int) := fun y hy => by rw [List.length_set]; exact hx y (List.mem_cons_of_mem _ hy)
  have h2 : ∀ y ∈ xs, 1 ≤ rd (w.set x.toNat (rd w x - 1)) y ∧ rd (w.set x.toNat (rd w x - 1)) y ≤ 100000 := fun y hy => by
   rw [hset y (hx y (List.mem_cons_of_mem _ hy)).1, if_neg (hxs y hy)]; exact hb y (List.mem_cons_of_mem _ hy)
  have fin : ∀ (r' : List Int), r'.Pairwise (· < ·) → (∀ y ∈ xs, y ∉ r') → (∀ y, y ∈ r' ↔ y ∈ r ∨ (y = x ∧ rd w x = 1)) →
    (takeRow xs (w.set x.toNat (rd w x - 1)) r').1.length = w.length ∧ (∀ y : Int, 0 ≤ y → rd (takeRow xs (w.set x.toNat (rd w x - 1)) r').1 y = rd w y - (if y ∈ x :: xs then 1 else 0)) ∧
    (takeRow xs (w.set x.toNat (rd w x - 1)) r').2.Pairwise (· < ·) ∧ ∀ y, y ∈ (takeRow xs (w.set x.toNat (rd w x - 1)) r').2 ↔ y ∈ r ∨ (y ∈ x :: xs ∧ rd w y = 1) := by
   intro r' hr' hnr' hm
   obtain ⟨a, b, c, d⟩ := takeRow_spec xs (w.set x.toNat (rd w x - 1)) r' hn.2 h1 h2 hr' hnr'
   refine ⟨by rw [a, List.length_set], fun y hy => ?_, c, fun y => ?_⟩
   ·rw [b y hy, hset y hy]
    by_cases e : y = x
    ·subst e; rw [if_pos rfl, if_neg hn.1, if_pos (by simp)]; omega
    ·rw [if_neg e]
     by_cases hyx : y ∈ xs
     ·rw [if_pos hyx, if_pos (by simp [hyx])]
     ·rw [if_neg hyx, if_neg (by simp [hyx, e])]
   ·rw [d, hm]
    constructor
    ·rintro ((h | ⟨e, h⟩) | ⟨h, h'⟩)
     ·exact .inl h
     ·subst e; exact .inr ⟨by simp, h⟩
     ·rw [hset y (hx y (List.mem_cons_of_mem _ h)).1, if_neg (hxs y h)] at h'
      exact .inr ⟨by simp [h], h'⟩
    ·rintro (h | ⟨h, h'⟩)
     ·exact .inl (.inl h)
     ·rcases List.mem_cons.1 h with e | h
      ·subst e; exact .inl (.inr ⟨rfl, h'⟩)
      ·exact .inr ⟨h, by rw [hset y (hx y (List.mem_cons_of_mem _ h)).1, if_neg (hxs y h)]; exact h'⟩
  unfold takeRow
  rw [hw]
  by_cases hz : rd w x - 1 = 0
  ·rw [if_pos hz]
   obtain ⟨i1, i2⟩ := insert_strict r x hr (hnr x (by simp))
   exact fin _ i1 (fun y hy => by rw [i2]; rintro (e | e); exact hxs y hy e; exact hnr y (by simp [hy]) e) (fun y => by rw [i2]; constructor; (rintro (e | e); exact .inr ⟨e, by omega⟩; exact .inl e); (rintro (e | e); exact .inr e; exact .inl e.1))
  ·rw [if_neg hz]
   exact fin r hr (fun y hy => hnr y (by simp [hy])) (fun y => ⟨fun h => .inl h, fun h => h.elim id (fun h => absurd h.2 (by omega))⟩)
theorem countP_out (L : List Int) (hn : L.Nodup) (out : List Int) (v : Int) (hv : v ∉ out) : L.countP (fun u => decide (u ∉ out ++ [v])) + (if v ∈ L then 1 else 0) = L.countP (fun u => decide (u ∉ out)) := by
 induction L with
 | nil => simp
 | cons a L ih =>
  rw [List.nodup_cons] at hn
  have ih := ih hn.2
  rw [List.countP_cons, List.countP_cons]
  by_cases e : a = v
  ·subst e
   rw [if_neg hn.1] at ih
   simp [hv] at ih ⊢
   omega
  ·have e1 : (decide (a ∉ out ++ [v])) = decide (a ∉ out) := by simp [e]
   rw [e1]
   have e2 : (v ∈ a :: L) ↔ v ∈ L := by simp [Ne.symm e]
   by_cases hL : v ∈ L
   ·rw [if_pos hL] at ih; rw [if_pos (e2.2 hL)]; omega
   ·rw [if_neg hL] at ih; rw [if_neg (fun h => hL (e2.1 h))]; omega
structure KInv (n : Nat) (l : List S55) (w r out : List Int) : Prop where
 wl : w.length = n
 g : Greedy n l out
 cnt : ∀ v : Int, 0 ≤ v → v < n → v ∉ out → rd w v = ((row (pv n l) v).countP (fun u => decide (u ∉ out)) : Nat)
 rs : r.Pairwise (· < ·)
 rm : ∀ v, v ∈ r ↔ Avail n l out v
theorem KInv.step {n : Nat} (hn : n ≤ 1000) {l : List S55} (hl : Ok n l) {w q out : List Int} {v : Int} (h : KInv n l w (v :: q) out) : KInv n l (takeRow (row (nx n l) v) w q).1 (takeRow (row (nx n l) v) w q).2 (out ++ [v]) := by
 have hv : Avail n l out v := (h.rm v).1 (by simp)
 obtain ⟨hv0, hv1, hvo, hvp⟩ := hv
 have hrow : ∀ y, y ∈ row (nx n l) v ↔ E l v y := fun y => mem_nx hl y hv0 hv1
 have hq := List.pairwise_cons.1 h.rs
 have hs : ∀ y ∈ row (nx n l) v, 0 ≤ y ∧ y < (n : Int) ∧ y ∉ out ∧ y ≠ v := fun y hy => by
  have he := (hrow y).1 hy
  obtain ⟨_, _, y0, y1⟩ := he.ok hl
  exact ⟨y0, y1, fun hyo => hvo (h.g.closed hyo he), fun e => by subst e; exact hvo (hvp _ he)⟩
 have hb : ∀ y ∈ row (nx n l) v, 1 ≤ rd w y ∧ rd w y ≤ 100000 := fun y hy => by
  obtain ⟨y0, y1, y2, y3⟩ := hs y hy
  rw [h.cnt y y0 y1 y2]
  have h1 : 0 < (row (pv n l) y).countP (fun u => decide (u ∉ out)) := List.countP_pos_iff.2 ⟨v, (mem_pv hl v y0 y1).2 ((hrow y).1 hy), by simpa using hvo⟩
  have h2 : (row (pv n l) y).countP (fun u => decide (u ∉ out)) ≤ (row (pv n l) y).length := List.countP_le_length
  have h3 : (row (pv n l) y).length ≤ n := nodup_len (row_nodup _ _) (fun u hu => by have := ((mem_pv hl u y0 y1).1 hu).ok hl; exact ⟨this.1, this.2.1⟩)
  omega
 obtain ⟨t1, t2, t3, t4⟩ := takeRow_spec (row (nx n l) v) w q (row_nodup _ _) (fun y hy => by rw [h.wl]; exact ⟨(hs y hy).1, (hs y hy).2.1⟩) hb hq.2 (fun y hy hyq => hvo (((h.rm y).1 (by simp [hyq])).2.2.2 v ((hrow y).1 hy)))
 have hcnt : ∀ y : Int, 0 ≤ y → y < n → y ∉ out ++ [v] → rd (takeRow (row (nx n l) v) w q).1 y = ((row (pv n l) y).countP (fun u => decide (u ∉ out ++ [v])) : Nat) := fun y y0 y1 hy => by
  have hyo : y ∉ out := fun h => hy (by simp [h])
  have hc := countP_out (row (pv n l) y) (row_nodup _ _) out v hvo
  rw [t2 y y0, h.cnt y y0 y1 hyo]
  by_cases he : y ∈ row (nx n l) v
  ·rw [if_pos he]
   rw [if_pos ((mem_pv hl v y0 y1).2 ((hrow y).1 he))] at hc
   omega
  ·rw [if_neg he]
   rw [if_neg (fun h => he ((hrow y).2 ((mem_pv hl v y0 y1).1 h)))] at hc
   omega
 refine ⟨by rw [t1, h.wl], h.g.snoc ⟨hv0, hv1, hvo, hvp⟩ (fun u hu => ?_), hcnt, t3, fun y => ?_⟩
 ·have hur := (h.rm u).2 hu
  rcases List.mem_cons.1 hur with e | hur
  ·omega
  ·have := hq.1 u hur; omega
 ·rw [t4]
  have hcz : ∀ (o : List Int), 0 ≤ y → y < n → ((row (pv n l) y).countP (fun u => decide (u ∉ o)) = 0 ↔ ∀ u, E l u y → u ∈ o) := fun o y0 y1 => by
   rw [List.countP_eq_zero]
   constructor
   ·intro h u hu
    have := h u ((mem_pv hl u y0 y1).2 hu)
    simpa using this
   ·intro h u hu
    have := h u ((mem_pv hl u y0 y1).1 hu)
    simpa using this
  constructor
  ·rintro (hyq | ⟨hyr, hy1⟩)
   ·obtain ⟨y0, y1, y2, y3⟩ := (h.rm y).1 (by simp [hyq])
    have := hq.1 y hyq
    exact ⟨y0, y1, by simp [y2]; omega, fun u hu => by simp [y3 u hu]⟩
   ·obtain ⟨y0, y1, y2, y3⟩ := hs y hyr
    refine ⟨y0, y1, by simp [y2, y3], (hcz _ y0 y1).1 ?_⟩
    have hc := countP_out (row (pv n l) y) (row_nodup _ _) out v hvo
    rw [if_pos ((mem_pv hl v y0 y1).2 ((hrow y).1 hyr))] at hc
    rw [h.cnt y y0 y1 y2] at hy1
    omega
  ·rintro ⟨y0, y1, y2, y3⟩
   have hyo : y ∉ out := fun h => y2 (by simp [h])
   have hyv : y ≠ v := fun h => y2 (by simp [h])
   by_cases hall : ∀ u, E l u y → u ∈ out
   ·have := (h.rm y).2 ⟨y0, y1, hyo, hall⟩
    rcases List.mem_cons.1 this with e | hyq
    ·exact absurd e hyv
    ·exact .inl hyq
   ·have hev : E l v y := Classical.byContradiction fun hne => hall fun u hu => by
     have := y3 u hu
     rcases List.mem_append.1 this with h | h
     ·exact h
     ·rw [List.mem_singleton] at h; subst h; exact absurd hu hne
    refine .inr ⟨(hrow y).2 hev, ?_⟩
    have hc := countP_out (row (pv n l) y) (row_nodup _ _) out v hvo
    rw [if_pos ((mem_pv hl v y0 y1).2 hev), (hcz _ y0 y1).2 y3] at hc
    rw [h.cnt y y0 y1 hyo]
    omega
theorem ordGo_spec {n : Nat} (hn : n ≤ 1000) {l : List S55} (hl : Ok n l) : ∀ (k : Nat) (w r out : List Int), KInv n l w r out → out.length + k = n + 1 → ∃ o, ordGo (nx n l) k w r out = some o ∧ Greedy n l o ∧ ∀ v, ¬ Avail n l o v
 | 0, w, r, out, h, hk => by have := h.g.len; omega
 | k + 1, w, [], out, h, hk => ⟨out, rfl, h.g, fun v hv => by have := (h.rm v).2 hv; simp at this⟩
 | k + 1, w, v :: q, out, h, hk => by
  have hq := List.pairwise_cons.1 h.rs
  have hql : q.length ≤ n := nodup_len (hq.2.imp (fun h => by omega)) (fun u hu => by have := (h.rm u).1 (by simp [hu]); exact ⟨this.1, this.2.1⟩)
  unfold ordGo
  rw [if_neg (by omega)]
  exact ordGo_spec hn hl k _ _ _ (h.step hn hl) (by rw [List.length_append, List.length_singleton]; omega)
theorem order_spec {n : Nat} (hn : n ≤ 1000) {l : List S55} (hl : Ok n l) : ∃ o, orderOf n l = some (if o.length < n then ([], 50) else (o, 0)) ∧ Greedy n l o ∧ ∀ v, ¬ Avail n l o v := by
 obtain ⟨s1, s2, s3, s4⟩ := start1_spec (pv n l) n n (Nat.le_refl _)
 have h0 : KInv n l (start1 (pv n l) n n).1 (start1 (pv n l) n n).2 [] := by
  refine ⟨s1, Greedy.nil n l, fun v h0 h1 _ => ?_, s3, fun v => ?_⟩
  ·rw [s2 v h0 h1]
   congr 1
   rw [List.countP_eq_length.2 (fun u _ => by simp)]
  ·rw [s4]
   constructor
   ·rintro ⟨a, b, c⟩
    exact ⟨a, b, by simp, fun u hu => by have := (mem_pv hl u a b).2 hu; rw [c] at this; simp at this⟩
   ·rintro ⟨a, b, _, c⟩
    refine ⟨a, b, List.eq_nil_iff_forall_not_mem.2 fun u hu => ?_⟩
    have := c u ((mem_pv hl u a b).1 hu)
    simp at this
 obtain ⟨o, ho, hg, ha⟩ := ordGo_spec hn hl (n + 1) _ _ _ h0 (by simp)
 exact ⟨o, by unfold orderOf; rw [ho]; rfl, hg, ha⟩
end Go.Proofs.Ytlldjinejckbaaa.Po

end
section
namespace Go.Proofs.Ytlldjinejckbaaa.Pb
open Go Go.RowKit Go.Proofs.YtlldjinejckbaaaW.PrintWords Go.Proofs.Ytlldjinejckbaaa.Mod Go.Proofs.Ytlldjinejckbaaa.Pg
def Pa (R : Int → Int → Prop) : Nat → Int → Int → Prop
 | 0, u, v => u = v
 | k + 1, u, v => ∃ m, Pa R k u m ∧ R m v
def Dist (R : Int → Int → Prop) (u v : Int) (d : Nat) : Prop := Pa R d u v ∧ ∀ k, k < d → ¬ Pa R k u v
theorem Dist.le {R : Int → Int → Prop} {u v : Int} {d k : Nat} (h : Dist R u v d) (hp : Pa R k u v) : d ≤ k := Classical.byContradiction fun hn => h.2 k (by omega) hp
theorem Dist.eq {R : Int → Int → Prop} {u v : Int} {d e : Nat} (h : Dist R u v d) (h' : Dist R u v e) : d = e := by have := h.le h'.1; have := h'.le h.1; omega
theorem Pa.add {R : Int → Int → Prop} {u v : Int} {j : Nat} (h : Pa R j u v) : ∀ {k : Nat} {w : Int}, Pa R k v w → Pa R (j + k) u w
 | 0, w, hk => by cases hk; exact h
 | k + 1, w, ⟨m, hm, hr⟩ => ⟨m, Pa.add h hm, hr⟩
theorem Pa.one {R : Int → Int → Prop} {u v : Int} (h : R u v) : Pa R 1 u v := ⟨u, rfl, h⟩
theorem Pa.split {R : Int → Int → Prop} {u : Int} : ∀ {j k : Nat} {w : Int}, Pa R (j + k) u w → ∃ v, Pa R j u v ∧ Pa R k v w
 | j, 0, w, h => ⟨w, h, rfl⟩
 | j, k + 1, w, ⟨m, hm, hr⟩ => by
  obtain ⟨v, h1, h2⟩ := Pa.split (j := j) (k := k) hm
  exact ⟨v, h1, m, h2, hr⟩
theorem Pa.flip {R : Int → Int → Prop} {u : Int} : ∀ {k : Nat} {v : Int}, Pa R k u v → Pa (fun a b => R b a) k v u
 | 0, v, h => h.symm
 | k + 1, v, ⟨m, hm, hr⟩ => by
  have h1 := Pa.flip hm
  have h2 : Pa (fun a b => R b a) 1 v m := ⟨v, rfl, hr⟩
  rw [Nat.add_comm]
  exact h2.add h1
theorem Dist.flip {R : Int → Int → Prop} {u v : Int} {d : Nat} (h : Dist R u v d) : Dist (fun a b => R b a) v u d := ⟨h.1.flip, fun k hk hp => h.2 k hk hp.flip⟩
theorem Dist.prev {R : Int → Int → Prop} {u v : Int} {d : Nat} (h : Dist R u v (d + 1)) : ∃ m, Dist R u m d ∧ R m v := by
 obtain ⟨⟨m, hm, hr⟩, hn⟩ := h
 exact ⟨m, ⟨hm, fun k hk hp => hn (k + 1) (by omega) ⟨m, hp, hr⟩⟩, hr⟩
theorem Dist.next {R : Int → Int → Prop} {u v : Int} {d : Nat} (h : Dist R u v (d + 1)) : ∃ m, R u m ∧ Dist R m v d := by
 obtain ⟨m, h1, h2⟩ := h.flip.prev
 exact ⟨m, h2, h1.flip⟩
structure Tells (n : Nat) (rows : List (List Int)) (R : Int → Int → Prop) : Prop where
 len : rows.length = n
 row : ∀ v x : Int, 0 ≤ v → v < n → (x ∈ row rows v ↔ R v x)
 nd : ∀ v : Int, (Mod.row rows v).Nodup
 ok : ∀ v x : Int, R v x → 0 ≤ v ∧ v < n ∧ 0 ≤ x ∧ x < n
theorem tells_nx {n : Nat} {l : List PD.S55} (h : Ok n l) : Tells n (nx n l) (E l) := ⟨len_nx n l, fun v x h0 h1 => mem_nx h x h0 h1, fun v => row_nodup _ v, fun v x he => he.ok h⟩
theorem tells_pv {n : Nat} {l : List PD.S55} (h : Ok n l) : Tells n (pv n l) (fun a b => E l b a) := ⟨len_pv n l, fun v x h0 h1 => mem_pv h x h0 h1, fun v => row_nodup _ v, fun v x he => by have := he.ok h; exact ⟨this.2.2.1, this.2.2.2, this.1, this.2.1⟩⟩
theorem relax_spec (v : Int) : ∀ (xs far q : List Int), xs.Nodup → (∀ y ∈ xs, 0 ≤ y ∧ y < (far.length : Int)) → 0 ≤ v → 1 ≤ rd far v → rd far v ≤ 100000 →
  (relax v xs far q).1.length = far.length ∧ (relax v xs far q).2 = q ++ xs.filter (fun x => decide (rd far x = 0)) ∧ ∀ y : Int, 0 ≤ y → rd (relax v xs far q).1 y = if y ∈ xs ∧ rd far y = 0 then rd far v + 1 else rd far y
 | [], far, q, _, _, _, _, _ => ⟨rfl, by simp [relax], fun y _ => by simp [relax]⟩
 | x :: xs, far, q, hn, hx, hv, h1, h2 => by
  rw [List.nodup_cons] at hn
  obtain ⟨x0, x1⟩ := hx x (by simp)
  have hw : wrap64 (rd far v + 1) = rd far v + 1 := Po.wrap_small (by omega) (by omega)
  unfold relax
  by_cases hz : rd far x = 0
  ·have hxv : v ≠ x := fun e => by subst e; omega
   have hvv : rd (far.set x.toNat (rd far v + 1)) v = rd far v := rd_set_other _ _ _ _ hv x0 hxv
   obtain ⟨a, b, c⟩ := relax_spec v xs (far.set x.toNat (rd far v + 1)) (q ++ [x]) hn.2 (fun y hy => by rw [List.length_set]; exact hx y (by simp [hy])) hv (by rw [hvv]; exact h1) (by rw [hvv]; exact h2)
   have hset : ∀ y, 0 ≤ y → rd (far.set x.toNat (rd far v + 1)) y = if y = x then rd far v + 1 else rd far y := fun y hy => by
    by_cases e : y = x
    ·subst e; rw [if_pos rfl, rd_set_same _ _ _ x0 x1]
    ·rw [if_neg e, rd_set_other _ _ _ _ hy x0 e]
   rw [if_pos hz, hw]
   refine ⟨by rw [a, List.length_set], ?_, fun y hy => ?_⟩
   ·rw [b, List.filter_cons, if_pos (by simpa using hz), List.append_assoc]
    congr 1
    show x :: _ = _
    congr 1
    apply List.filter_congr
    intro y hy
    rw [hset y (hx y (by simp [hy])).1, if_neg (fun e => hn.1 (by rw [← e]; exact hy))]
   ·rw [c y hy, hset y hy, hvv]
    by_cases e : y = x
    ·subst e
     rw [if_pos rfl, if_neg (fun h => hn.1 h.1), if_pos ⟨by simp, hz⟩]
    ·rw [if_neg e]
     by_cases h : y ∈ xs ∧ rd far y = 0
     ·rw [if_pos h, if_pos ⟨by simp [h.1], h.2⟩]
     ·rw [if_neg h, if_neg (fun h' => h ⟨by rcases List.mem_cons.1 h'.1 with h' | h'; exact absurd h' e; exact h', h'.2⟩)]
  ·obtain ⟨a, b, c⟩ := relax_spec v xs far q hn.2 (fun y hy => hx y (by simp [hy])) hv h1 h2
   rw [if_neg hz]
   refine ⟨a, ?_, fun y hy => ?_⟩
   ·rw [b, List.filter_cons, if_neg (by simpa using hz)]
   ·rw [c y hy]
    by_cases h : y ∈ xs ∧ rd far y = 0
    ·rw [if_pos h, if_pos ⟨by simp [h.1], h.2⟩]
    ·rw [if_neg h, if_neg (fun h' => h ⟨by rcases List.mem_cons.1 h'.1 with h' | h'; (subst h'; exact absurd h'.2 hz); exact h', h'.2⟩)]
structure BI (n : Nat) (R : Int → Int → Prop) (s : Int) (done far q : List Int) : Prop where
 len : far.length = n
 nd : (done ++ q).Nodup
 rng : ∀ v ∈ done ++ q, 0 ≤ v ∧ v < (n : Int)
 seen : ∀ v : Int, 0 ≤ v → v < n → (rd far v ≠ 0 ↔ v ∈ done ++ q)
 dist : ∀ v ∈ done ++ q, ∃ d : Nat, rd far v = (d : Int) + 1 ∧ Dist R s v d ∧ d + 1 ≤ (done ++ q).length
 cl : ∀ v ∈ done, ∀ x, R v x → x ∈ done ++ q
 st : s ∈ done ++ q
 mono : q.Pairwise (fun a b => rd far a ≤ rd far b)
 near : ∀ a ∈ q, ∀ b ∈ q.head?, rd far a ≤ rd far b + 1
 old : ∀ a ∈ done, ∀ b ∈ q.head?, rd far a ≤ rd far b
 all : ∀ b ∈ q.head?, ∀ (k : Nat) (x : Int), Pa R k s x → (k : Int) + 1 ≤ rd far b → x ∈ done ++ q
theorem BI.step {n : Nat} (hn : n ≤ 1000) {rows : List (List Int)} {R : Int → Int → Prop} (hT : Tells n rows R) {s : Int} {done far q : List Int} {v : Int} (h : BI n R s done far (v :: q)) :
  BI n R s (done ++ [v]) (relax v (row rows v) far q).1 (relax v (row rows v) far q).2 := by
 have hvm : v ∈ done ++ v :: q := by simp
 obtain ⟨v0, v1⟩ := h.rng v hvm
 obtain ⟨d, hd, hdist, hdn⟩ := h.dist v hvm
 have hcard : (done ++ v :: q).length ≤ n := nodup_len h.nd h.rng
 have hrow : ∀ x, x ∈ row rows v ↔ R v x := fun x => hT.row v x v0 v1
 obtain ⟨r1, r2, r3⟩ := relax_spec v (row rows v) far q (hT.nd v) (fun y hy => by rw [h.len]; have := hT.ok v y ((hrow y).1 hy); exact ⟨this.2.2.1, this.2.2.2⟩) v0 (by omega) (by omega)
 obtain ⟨news, hnews⟩ : ∃ news, news = (row rows v).filter (fun x => decide (rd far x = 0)) := ⟨_, rfl⟩
 rw [← hnews] at r2
 have hnm : ∀ x, x ∈ news ↔ R v x ∧ rd far x = 0 := fun x => by rw [hnews, List.mem_filter, hrow]; simp
 have hnr : ∀ x ∈ news, 0 ≤ x ∧ x < (n : Int) := fun x hx => by have := hT.ok v x ((hnm x).1 hx).1; exact ⟨this.2.2.1, this.2.2.2⟩
 have hnn : ∀ x ∈ news, x ∉ done ++ v :: q := fun x hx hm => by
  have := (h.seen x (hnr x hx).1 (hnr x hx).2).2 hm
  exact this ((hnm x).1 hx).2
 have hfar : ∀ y, 0 ≤ y → rd (relax v (row rows v) far q).1 y = if y ∈ news then rd far v + 1 else rd far y := fun y hy => by
  rw [r3 y hy]
  by_cases hc : y ∈ row rows v ∧ rd far y = 0
  ·rw [if_pos hc, if_pos ((hnm y).2 ⟨(hrow y).1 hc.1, hc.2⟩)]
  ·rw [if_neg hc, if_neg (fun hm => hc ⟨(hrow y).2 ((hnm y).1 hm).1, ((hnm y).1 hm).2⟩)]
 have hold : ∀ y ∈ done ++ v :: q, rd (relax v (row rows v) far q).1 y = rd far y := fun y hy => by
  rw [hfar y (h.rng y hy).1, if_neg (fun hm => hnn y hm hy)]
 have hnew : ∀ y ∈ news, rd (relax v (row rows v) far q).1 y = rd far v + 1 := fun y hy => by rw [hfar y (hnr y hy).1, if_pos hy]
 have hmem : ∀ y, y ∈ done ++ [v] ++ (q ++ news) ↔ y ∈ done ++ v :: q ∨ y ∈ news := fun y => by
  have e : done ++ [v] ++ (q ++ news) = (done ++ v :: q) ++ news := by simp
  rw [e, List.mem_append]
 rw [r2]
 have hall : ∀ (k : Nat) (x : Int), Pa R k s x → (k : Int) + 1 ≤ rd far v → x ∈ done ++ v :: q := h.all v (by simp)
 have hcl : ∀ u ∈ done ++ [v], ∀ x, R u x → x ∈ done ++ v :: q ∨ x ∈ news := fun u hu x hx => by
  rcases List.mem_append.1 hu with hu | hu
  ·exact .inl (h.cl u hu x hx)
  ·rw [List.mem_singleton] at hu
   subst hu
   by_cases hz : rd far x = 0
   ·exact .inr ((hnm x).2 ⟨hx, hz⟩)
   ·have := hT.ok u x hx
    exact .inl ((h.seen x this.2.2.1 this.2.2.2).1 hz)
 have hq := List.pairwise_cons.1 h.mono
 have hnear : ∀ a ∈ q, rd far a ≤ rd far v + 1 := fun a ha => h.near a (by simp [ha]) v (by simp)
 have hdeep : ∀ b ∈ q ++ news, rd far v ≤ rd (relax v (row rows v) far q).1 b ∧ rd (relax v (row rows v) far q).1 b ≤ rd far v + 1 := fun b hb => by
  rcases List.mem_append.1 hb with hb | hb
  ·rw [hold b (by simp [hb])]
   exact ⟨hq.1 b hb, hnear b hb⟩
  ·rw [hnew b hb]; omega
 have hheadm : ∀ b, b ∈ (q ++ news).head? → b ∈ q ++ news := fun b hb => by
  cases hqn : q ++ news with
  | nil => rw [hqn] at hb; simp at hb
  | cons z zs => rw [hqn] at hb; simp at hb; subst hb; simp
 refine ⟨by rw [r1, h.len], ?_, fun y hy => ?_, fun y y0 y1 => ?_, fun y hy => ?_, fun u hu x hx => (hmem x).2 (hcl u hu x hx), (hmem s).2 (.inl h.st), ?_, fun a ha b hb => ?_, fun a ha b hb => ?_, fun b hb k x hp hk => ?_⟩
 ·have h1 : (done ++ v :: q).Nodup := h.nd
  have e : done ++ [v] ++ (q ++ news) = (done ++ v :: q) ++ news := by simp
  rw [e, List.nodup_append]
  refine ⟨h1, ?_, fun a ha b hb e => hnn b hb (by rw [← e]; exact ha)⟩
  rw [hnews]; exact List.Pairwise.filter _ (hT.nd v)
 ·rcases (hmem y).1 hy with hy | hy
  ·exact h.rng y hy
  ·exact hnr y hy
 ·rw [hmem, hfar y y0]
  by_cases hy : y ∈ news
  ·rw [if_pos hy]; exact ⟨fun _ => .inr hy, fun _ => by omega⟩
  ·rw [if_neg hy, h.seen y y0 y1]; exact ⟨fun hh => .inl hh, fun hh => hh.resolve_right hy⟩
 ·have hlen : (done ++ [v] ++ (q ++ news)).length = (done ++ v :: q).length + news.length := by simp only [List.length_append, List.length_cons, List.length_nil]; omega
  rcases (hmem y).1 hy with hy | hy
  ·rw [hold y hy, hlen]
   obtain ⟨dy, e1, e2, e3⟩ := h.dist y hy
   exact ⟨dy, e1, e2, by omega⟩
  ·refine ⟨d + 1, by rw [hnew y hy, hd]; omega, ⟨⟨v, hdist.1, ((hnm y).1 hy).1⟩, fun k hk hp => hnn y hy (hall k y hp (by omega))⟩, ?_⟩
   have : 0 < news.length := List.length_pos_of_mem hy
   rw [hlen]; omega
 ·rw [List.pairwise_append]
  refine ⟨hq.2.imp_of_mem (fun {a b} ha hb hab => by rw [hold a (by simp [ha]), hold b (by simp [hb])]; exact hab), ?_, fun a ha b hb => ?_⟩
  ·exact List.Pairwise.imp_of_mem (fun {a b} ha hb _ => by rw [hnew a ha, hnew b hb]; exact Int.le_refl _) (show news.Pairwise (· ≠ ·) by rw [hnews]; exact List.Pairwise.filter _ (hT.nd v))
  ·rw [hold a (by simp [ha]), hnew b hb]; exact hnear a ha
 ·have := hdeep a ha
  have := hdeep b (hheadm b hb)
  omega
 ·have hb2 := (hdeep b (hheadm b hb)).1
  rcases List.mem_append.1 ha with ha | ha
  ·rw [hold a (by simp [ha])]
   have := h.old a ha v (by simp)
   omega
  ·rw [List.mem_singleton] at ha; subst ha
   rw [hold a (by simp)]; exact hb2
 ·
  rw [hmem]
  have hb2 := hdeep b (hheadm b hb)
  by_cases hkd : (k : Int) + 1 ≤ rd far v
  ·exact .inl (hall k x hp hkd)
  ·obtain ⟨k', rfl⟩ : ∃ k', k = k' + 1 := ⟨k - 1, by omega⟩
   obtain ⟨m, hm, hr⟩ := hp
   have hmm := hall k' m hm (by omega)
   have hmd : m ∈ done ++ [v] := by
    rcases List.mem_append.1 hmm with hh | hh
    ·simp [hh]
    ·rcases List.mem_cons.1 hh with hh | hh
     ·simp [hh]
     ·obtain ⟨dm, e1, e2, e2'⟩ := h.dist m hmm
      have h1 := e2.le hm
      have hge : rd (relax v (row rows v) far q).1 b ≤ rd (relax v (row rows v) far q).1 m := by
       cases q with
       | nil => simp at hh
       | cons z zs =>
        have hbz : b = z := by simpa using hb.symm
        subst hbz
        rw [hold b (by simp), hold m (by simp [hh])]
        rcases List.mem_cons.1 hh with hh | hh
        ·subst hh; exact Int.le_refl _
        ·exact (List.pairwise_cons.1 hq.2).1 m hh
      rw [hold m hmm] at hge
      omega
   exact hcl m hmd x hr
end Go.Proofs.Ytlldjinejckbaaa.Pb

end
section
namespace Go.Proofs.Ytlldjinejckbaaa.Pf
open Go Go.RowKit Go.Proofs.YtlldjinejckbaaaW.PrintWords Go.Proofs.Ytlldjinejckbaaa.Mod Go.Proofs.Ytlldjinejckbaaa.Pg Go.Proofs.Ytlldjinejckbaaa.Pb Go.Proofs.Ytlldjinejckbaaa.Gi Go.Proofs.Ytlldjinejckbaaa.Cl Go.Proofs.Ytlldjinejckbaaa.Cy Go.Proofs.Ytlldjinejckbaaa.PD Go.Proofs.Ytlldjinejckbaaa.Ng Go.Proofs.Ytlldjinejckbaaa.Lb
set_option linter.unusedVariables false
theorem bfs_spec {n : Nat} (hn : n ≤ 1000) {rows : List (List Int)} {R : Int → Int → Prop} (hT : Tells n rows R) {s : Int} : ∀ (k : Nat) (done far q : List Int), BI n R s done far q → n < k + done.length →
  (done ++ (bfs rows k far q).map (·.1)).Nodup ∧ (∀ x ∈ bfs rows k far q, ∃ d : Nat, x.2 = (d : Int) ∧ Dist R s x.1 d ∧ d < n ∧ 0 ≤ x.1 ∧ x.1 < n) ∧ (∀ (j : Nat) (v : Int), Pa R j s v → v ∈ done ++ (bfs rows k far q).map (·.1)) ∧
  (bfs rows k far q).Pairwise (fun a b => a.2 ≤ b.2) ∧ (∀ x ∈ bfs rows k far q, ∀ b ∈ q.head?, rd far b ≤ x.2 + 1)
 | 0, done, far, q, h, hk => by
  have h1 := nodup_len h.nd h.rng
  rw [List.length_append] at h1
  omega
 | k + 1, done, far, [], h, hk => by
  have e : bfs rows (k + 1) far [] = [] := rfl
  rw [e]
  have hst := h.st
  have hcl := h.cl
  have hnd := h.nd
  rw [List.append_nil] at hst hnd
  refine ⟨by simpa using hnd, fun x hx => by simp at hx, ?_, List.Pairwise.nil, fun x hx => by simp at hx⟩
  intro j
  rw [List.map_nil, List.append_nil]
  induction j with
  | zero => intro v hv; cases hv; exact hst
  | succ j ih => rintro v ⟨m, hm, hr⟩; simpa using hcl m (ih m hm) v hr
 | k + 1, done, far, v :: q, h, hk => by
  have hs := h.step hn hT
  obtain ⟨a, b, c, d, e⟩ := bfs_spec hn hT k _ _ _ hs (by rw [List.length_append]; simp only [List.length_cons, List.length_nil]; omega)
  have hvm : v ∈ done ++ v :: q := by simp
  obtain ⟨dv, e1, e2, e3⟩ := h.dist v hvm
  have hlen := nodup_len h.nd h.rng
  have hw : wrap64 (rd far v - 1) = (dv : Int) := by rw [Po.wrap_small (by omega) (by omega)]; omega
  show (done ++ (((v, wrap64 (rd far v - 1)) :: bfs rows k (relax v (row rows v) far q).1 (relax v (row rows v) far q).2) : List (Int × Int)).map (·.1)).Nodup ∧ (∀ x ∈ (((v, wrap64 (rd far v - 1)) :: bfs rows k (relax v (row rows v) far q).1 (relax v (row rows v) far q).2) : List (Int × Int)), _) ∧ (∀ (j : Nat) (w : Int), Pa R j s w → w ∈ done ++ (((v, wrap64 (rd far v - 1)) :: bfs rows k (relax v (row rows v) far q).1 (relax v (row rows v) far q).2) : List (Int × Int)).map (·.1)) ∧
   (((v, wrap64 (rd far v - 1)) :: bfs rows k (relax v (row rows v) far q).1 (relax v (row rows v) far q).2) : List (Int × Int)).Pairwise (fun a b => a.2 ≤ b.2) ∧ (∀ x ∈ (((v, wrap64 (rd far v - 1)) :: bfs rows k (relax v (row rows v) far q).1 (relax v (row rows v) far q).2) : List (Int × Int)), _)
  rw [hw]
  generalize hB : bfs rows k (relax v (row rows v) far q).1 (relax v (row rows v) far q).2 = B at a b c d e
  have e4 : done ++ List.map (·.1) ((v, (dv : Int)) :: B) = done ++ [v] ++ B.map (·.1) := by simp
  rw [e4]
  have hall : ∀ x ∈ B, rd far v ≤ x.2 + 1 := by
   intro x hx
   have hvd : v ∈ done ++ [v] := by simp
   have hv2 := hs.dist v (List.mem_append_left _ hvd)
   obtain ⟨d2, f1, f2, _⟩ := hv2
   have := f2.eq e2
   cases hq : (relax v (row rows v) far q).2 with
   | nil => rw [hq] at hB; cases k <;> (rw [← hB] at hx; simp [bfs] at hx)
   | cons z zs =>
    have h1 := e x hx z (by rw [hq]; simp)
    have h2 := hs.old v hvd z (by rw [hq]; simp)
    omega
  refine ⟨a, fun x hx => ?_, c, List.pairwise_cons.2 ⟨fun x hx => ?_, d⟩, fun x hx b hb => ?_⟩
  ·rcases List.mem_cons.1 hx with hx | hx
   ·subst hx; exact ⟨dv, rfl, e2, by omega, (h.rng v hvm).1, (h.rng v hvm).2⟩
   ·exact b x hx
  ·have := hall x hx
   show (dv : Int) ≤ x.2
   omega
  ·have hbv : b = v := by simpa using hb.symm
   subst hbv
   rcases List.mem_cons.1 hx with hx | hx
   ·subst hx; show _ ≤ (dv : Int) + 1; omega
   ·exact hall x hx
theorem BI.start {n : Nat} {R : Int → Int → Prop} {s : Int} (h0 : 0 ≤ s) (h1 : s < n) : BI n R s [] ((List.replicate n 0).set s.toNat 1) [s] := by
 have hr : ∀ x : Int, rd (List.replicate n 0) x = 0 := fun x => by unfold rd; rw [List.getD_eq_getElem?_getD]; cases h : (List.replicate n (0 : Int))[x.toNat]? with
  | none => rfl
  | some v => have := List.mem_of_getElem? h; simp at this; simp [this]
 have hs : rd ((List.replicate n 0).set s.toNat 1) s = 1 := rd_set_same _ _ _ h0 (by simpa using h1)
 have hD : Dist R s s 0 := ⟨rfl, fun k hk => by omega⟩
 refine ⟨by simp, by simp, fun v hv => by simp at hv; subst hv; exact ⟨h0, h1⟩, fun v v0 v1 => ?_, fun v hv => ?_, fun v hv => by simp at hv, by simp, by simp, fun a ha b hb => ?_, fun a ha => by simp at ha, fun b hb k x hp hk => ?_⟩
 ·by_cases e : v = s
  ·subst e; rw [hs]; simp
  ·rw [rd_set_other _ _ _ _ v0 h0 e, hr]; simp [e]
 ·have : v = s := by simpa using hv
  subst this
  exact ⟨0, by rw [hs]; rfl, hD, by simp⟩
 ·have : a = s := by simpa using ha
  subst this
  have : b = a := by simpa using hb.symm
  subst this
  omega
 ·have : b = s := by simpa using hb.symm
  subst this
  rw [hs] at hk
  have : k = 0 := by omega
  subst this
  cases hp
  simp
structure FromS (n : Nat) (R : Int → Int → Prop) (s : Int) (P : List (Int × Int)) : Prop where
 nd : (P.map (·.1)).Nodup
 dist : ∀ x ∈ P, ∃ d : Nat, x.2 = (d : Int) ∧ Dist R s x.1 d ∧ d < n ∧ 0 ≤ x.1 ∧ x.1 < n
 all : ∀ (j : Nat) (v : Int), Pa R j s v → v ∈ P.map (·.1)
 mono : P.Pairwise (fun a b => a.2 ≤ b.2)
theorem from_spec {n : Nat} (hn : n ≤ 1000) {rows : List (List Int)} {R : Int → Int → Prop} (hT : Tells n rows R) {s : Int} (h0 : 0 ≤ s) (h1 : s < n) : FromS n R s (fromOf rows s) := by
 unfold fromOf
 rw [hT.len]
 obtain ⟨a, b, c, d, e⟩ := bfs_spec hn hT (n + 1) [] _ _ (BI.start h0 h1) (by simp)
 exact ⟨by simpa using a, b, fun j v hp => by simpa using c j v hp, d⟩
theorem FromS.get {n : Nat} {R : Int → Int → Prop} {s : Int} {P : List (Int × Int)} (h : FromS n R s P) {v : Int} {d : Nat} (hd : Dist R s v d) : (v, (d : Int)) ∈ P := by
 obtain ⟨x, hx, e⟩ := List.mem_map.1 (h.all d v hd.1)
 obtain ⟨d', e1, e2, _⟩ := h.dist x hx
 rw [e] at e2
 have := e2.eq hd
 subst this
 rw [← e1, ← e]; exact hx
def Loop (R : Int → Int → Prop) (v : Int) (g : Nat) : Prop := 1 ≤ g ∧ Pa R g v v ∧ ∀ k, 1 ≤ k → k < g → ¬ Pa R k v v
theorem girth_spec {n : Nat} (hn : n ≤ 1000) {rows : List (List Int)} {R : Int → Int → Prop} (hT : Tells n rows R) {v : Int} (h0 : 0 ≤ v) (h1 : v < n) :
  (girthOf rows v = 0 ∧ ∀ k, 1 ≤ k → ¬ Pa R k v v) ∨ ∃ g : Nat, girthOf rows v = (g : Int) ∧ g ≤ n ∧ Loop R v g := by
 have hF := from_spec hn hT h0 h1
 unfold girthOf
 cases hf : (fromOf rows v).find? (fun x => (row rows x.1).contains v) with
 | none =>
  refine .inl ⟨rfl, fun k hk hp => ?_⟩
  obtain ⟨k', rfl⟩ : ∃ k', k = k' + 1 := ⟨k - 1, by omega⟩
  obtain ⟨m, hm, hr⟩ := hp
  obtain ⟨x, hx, e⟩ := List.mem_map.1 (hF.all k' m hm)
  have := List.find?_eq_none.1 hf x hx
  obtain ⟨d, e1, e2, e3, e4, e5⟩ := hF.dist x hx
  rw [e] at this
  exact this (by simpa using (hT.row m v (e ▸ e4) (e ▸ e5)).2 hr)
 | some x =>
  obtain ⟨hpx, as9, bs9, hs, hno⟩ := List.find?_eq_some_iff_append.1 hf
  obtain ⟨d, e1, e2, e3, e4, e5⟩ := hF.dist x (by rw [hs]; simp)
  have hx1 : R x.1 v := (hT.row x.1 v e4 e5).1 (by simpa using hpx)
  refine .inr ⟨d + 1, ?_, by omega, by omega, ⟨x.1, e2.1, hx1⟩, fun k hk hkd hp => ?_⟩
  ·show wrap64 (x.2 + 1) = _
   rw [Po.wrap_small (by omega) (by omega)]; omega
  ·obtain ⟨k', rfl⟩ : ∃ k', k = k' + 1 := ⟨k - 1, by omega⟩
   obtain ⟨m, hm, hr⟩ := hp
   obtain ⟨y, hy, e⟩ := List.mem_map.1 (hF.all k' m hm)
   obtain ⟨dy, f1, f2, f3, f4, f5⟩ := hF.dist y hy
   have hle := f2.le (e.symm ▸ hm)
   have hm2 := hF.mono
   rw [hs, List.pairwise_append] at hm2
   rw [hs] at hy
   rcases List.mem_append.1 hy with hy | hy
   ·have := hno y hy
    have h3 : v ∈ row rows y.1 := (hT.row y.1 v f4 f5).2 (e ▸ hr)
    simp [h3] at this
   ·rcases List.mem_cons.1 hy with hy | hy
    ·subst hy; omega
    ·have := (List.pairwise_cons.1 hm2.2.1).1 y hy
     omega
structure Least (n : Nat) (R : Int → Int → Prop) (best first : Int) (k : Nat) : Prop where
 none_ : best = 0 → ∀ v : Int, 0 ≤ v → v < k → ∀ j, 1 ≤ j → ¬ Pa R j v v
 some_ : best ≠ 0 → ∃ g : Nat, best = (g : Int) ∧ g ≤ n ∧ 0 ≤ first ∧ first < k ∧ Loop R first g ∧ (∀ v : Int, 0 ≤ v → v < k → ∀ j, 1 ≤ j → j < g → ¬ Pa R j v v) ∧ ∀ v : Int, 0 ≤ v → v < first → ¬ Pa R g v v
theorem least1_spec {n : Nat} (hn : n ≤ 1000) {rows : List (List Int)} {R : Int → Int → Prop} (hT : Tells n rows R) : ∀ k, k ≤ n → Least n R (least1 rows k).1 (least1 rows k).2 k
 | 0, _ => ⟨fun _ v h0 h1 => by omega, fun h => absurd rfl h⟩
 | k + 1, hk => by
  have ih := least1_spec hn hT k (by omega)
  rw [least1_succ]
  generalize least1 rows k = s at ih
  obtain ⟨best, first⟩ := s
  have hg := girth_spec hn hT (v := (k : Int)) (by omega) (by omega)
  unfold pick1
  have hcase : ∀ v : Int, v < (k + 1 : Nat) → v < k ∨ v = k := fun v hv => by omega
  rcases hg with ⟨hg, hno⟩ | ⟨g, hg, hgn, hL⟩
  ·rw [hg, if_neg (by omega)]
   refine ⟨fun hb v h0 h1 j hj => ?_, fun hb => ?_⟩
   ·rcases hcase v h1 with h | h
    ·exact ih.none_ hb v h0 h j hj
    ·subst h; exact hno j hj
   ·obtain ⟨g, a, b, c, d, e, f, i⟩ := ih.some_ hb
    refine ⟨g, a, b, c, by omega, e, fun v h0 h1 j hj hjg => ?_, i⟩
    rcases hcase v h1 with h | h
    ·exact f v h0 h j hj hjg
    ·subst h; exact hno j hj
  ·have hg0 : 0 < (g : Int) := by have := hL.1; omega
   rw [hg]
   by_cases hc : 0 < (g : Int) ∧ (best = 0 ∨ (g : Int) < best)
   ·rw [if_pos hc]
    refine ⟨fun hb => by have : (g : Int) = 0 := hb; omega, fun _ => ⟨g, rfl, hgn, by show (0 : Int) ≤ (k : Int); omega, by show (k : Int) < _; omega, hL, fun v h0 h1 j hj hjg => ?_, fun v h0 h1 => ?_⟩⟩
    ·rcases hcase v h1 with h | h
     ·rcases hc.2 with hb | hb
      ·exact ih.none_ hb v h0 h j hj
      ·obtain ⟨g', a, b, c, d, e, f, i⟩ := ih.some_ (show best ≠ 0 by omega)
       have a' : best = (g' : Int) := a
       exact f v h0 h j hj (by omega)
     ·subst h; exact hL.2.2 j hj hjg
    ·rcases hc.2 with hb | hb
     ·exact ih.none_ hb v h0 h1 g hL.1
     ·obtain ⟨g', a, b, c, d, e, f, i⟩ := ih.some_ (show best ≠ 0 by omega)
      have a' : best = (g' : Int) := a
      exact f v h0 h1 g hL.1 (by omega)
   ·rw [if_neg hc]
    have hb0 : best ≠ 0 := fun hb => hc ⟨hg0, .inl hb⟩
    refine ⟨fun hb => absurd hb hb0, fun _ => ?_⟩
    obtain ⟨g', a, b, c, d, e, f, i⟩ := ih.some_ hb0
    have a' : best = (g' : Int) := a
    refine ⟨g', a, b, c, by omega, e, fun v h0 h1 j hj hjg => ?_, i⟩
    rcases hcase v h1 with h | h
    ·exact f v h0 h j hj hjg
    ·subst h; exact hL.2.2 j hj (by have : ¬ ((g : Int) < best) := fun hh => hc ⟨hg0, .inr hh⟩; omega)
theorem leftOf_spec {n : Nat} {R : Int → Int → Prop} {s : Int} : ∀ (P : List (Int × Int)) (l0 : List Int), l0.length = n → (P.map (·.1)).Nodup → (∀ x ∈ P, 0 ≤ x.1 ∧ x.1 < n) → ∀ v : Int, 0 ≤ v → v < n →
  (∀ d, (v, d) ∈ P → rd (P.foldl (fun l x => l.set x.1.toNat x.2) l0) v = d) ∧ (v ∉ P.map (·.1) → rd (P.foldl (fun l x => l.set x.1.toNat x.2) l0) v = rd l0 v)
 | [], l0, _, _, _, v, _, _ => ⟨fun d h => by simp at h, fun _ => rfl⟩
 | x :: P, l0, hl, hn, hr, v, h0, h1 => by
  rw [List.map_cons, List.nodup_cons] at hn
  obtain ⟨a, b⟩ := leftOf_spec (R := R) (s := s) P (l0.set x.1.toNat x.2) (by simpa using hl) hn.2 (fun y hy => hr y (by simp [hy])) v h0 h1
  obtain ⟨x0, x1⟩ := hr x (by simp)
  rw [List.foldl_cons]
  refine ⟨fun d hd => ?_, fun hv => ?_⟩
  ·rcases List.mem_cons.1 hd with hd | hd
   ·subst hd
    rw [b hn.1, rd_set_same _ _ _ h0 (by omega)]
   ·exact a d hd
  ·have hv' : v ≠ x.1 ∧ v ∉ P.map (·.1) := by simpa using hv
   rw [b hv'.2, rd_set_other _ _ _ _ h0 x0 hv'.1]
structure CycS (n : Nat) (R : Int → Int → Prop) (out : List Int) : Prop where
 pos : 1 ≤ out.length
 le : out.length ≤ n
 rng : ∀ v ∈ out, 0 ≤ v ∧ v < n
 nd : out.Nodup
 least : ∀ v ∈ out, rd out 0 ≤ v
 next : ∀ i : Nat, i + 1 < out.length → R (rd out i) (rd out (i + 1 : Nat))
 close : R (rd out (out.length - 1 : Nat)) (rd out 0)
 short : ∀ v : Int, 0 ≤ v → v < n → ∀ j, 1 ≤ j → j < out.length → ¬ Pa R j v v
structure Part (R : Int → Int → Prop) (first : Int) (best : Nat) (out : List Int) : Prop where
 pos : 1 ≤ out.length
 le : out.length ≤ best
 head : rd out 0 = first
 dist : ∀ i : Nat, 1 ≤ i → i < out.length → Dist R (rd out i) first (best - i)
 next : ∀ i : Nat, i + 1 < out.length → R (rd out i) (rd out (i + 1 : Nat))
theorem rd_append_left {l m : List Int} {i : Nat} (h : i < l.length) : rd (l ++ m) i = rd l i := by
 unfold rd
 rw [List.getD_eq_getElem?_getD, List.getD_eq_getElem?_getD, List.getElem?_append_left (by simpa using h)]
theorem rd_append_len {l : List Int} {x : Int} : rd (l ++ [x]) (l.length : Nat) = x := by
 unfold rd
 rw [List.getD_eq_getElem?_getD, List.getElem?_append_right (by simp)]
 simp
theorem cycGo_spec {n : Nat} {rows : List (List Int)} {R : Int → Int → Prop} (hT : Tells n rows R) {first : Int} {best : Nat} (hbn : best ≤ 1000) (hL : Loop R first best) (f0 : 0 ≤ first) (f1 : first < n) {left : List Int}
  (hleft : ∀ y : Int, 0 ≤ y → y < n → ∀ d : Nat, Dist R y first d → rd left y = (d : Int)) (hleft0 : ∀ y : Int, 0 ≤ y → y < n → rd left y ≠ 0 → ∃ d : Nat, rd left y = (d : Int) ∧ Dist R y first d) :
  ∀ (k : Nat) (out : List Int), Part R first best out → best ≤ k + out.length → (∀ v ∈ out, 0 ≤ v ∧ v < (n : Int)) → ∃ r, cycGo rows left first best k out = some r ∧ Part R first best r ∧ r.length = best ∧ ∀ v ∈ r, 0 ≤ v ∧ v < (n : Int)
 | 0, out, hp, hk, hrng => by
  have h1 := hp.le
  refine ⟨out, ?_, hp, by omega, hrng⟩
  unfold cycGo
  rw [if_neg (by omega)]
 | k + 1, out, hp, hk, hrng => by
  have h1 := hp.le
  unfold cycGo
  by_cases hc : (out.length : Int) < (best : Int)
  ·rw [if_pos hc]
   have hpos := hp.pos
   have hlast : ∃ m, R (lastOf out) m ∧ Dist R m first (best - out.length) := by
    by_cases h2 : out.length = 1
    ·have e : lastOf out = first := by unfold lastOf; rw [h2]; exact hp.head
     obtain ⟨l0, l1, l2⟩ := hL
     obtain ⟨b, rfl⟩ : ∃ b, best = 1 + b := ⟨best - 1, by omega⟩
     obtain ⟨m, ⟨a, ha, hr⟩, hm2⟩ := Pa.split l1
     cases ha
     rw [e, h2]
     refine ⟨m, hr, ⟨by rw [Nat.add_sub_cancel_left]; exact hm2, fun j hj hpj => ?_⟩⟩
     exact l2 (1 + j) (by omega) (by omega) ((Pa.one hr).add hpj)
    ·have h3 := hp.dist (out.length - 1) (by omega) (by omega)
     have e : best - (out.length - 1) = best - out.length + 1 := by omega
     rw [e] at h3
     obtain ⟨m, hr, hm⟩ := h3.next
     refine ⟨m, ?_, hm⟩
     have e2 : lastOf out = rd out ((out.length - 1 : Nat) : Int) := by
      unfold lastOf
      congr 1
      omega
     rw [e2]; exact hr
   obtain ⟨m, hr, hm⟩ := hlast
   have hlm : lastOf out ∈ out := by
    unfold lastOf rd
    rw [List.getD_eq_getElem?_getD, List.getElem?_eq_getElem (by omega)]
    exact List.getElem_mem _
   obtain ⟨q0, q1⟩ := hrng _ hlm
   have hw : wrap64 ((best : Int) - (out.length : Int)) = ((best - out.length : Nat) : Int) := by rw [Po.wrap_small (by omega) (by omega)]; omega
   cases hf : (row rows (lastOf out)).find? (hits left first best out.length) with
   | none =>
    have h5 := List.find?_eq_none.1 hf m ((hT.row _ m q0 q1).2 hr)
    obtain ⟨_, _, m0, m1⟩ := hT.ok _ _ hr
    exfalso
    apply h5
    unfold hits
    have hne : m ≠ first := fun e => by subst e; exact hm.2 0 (by omega) rfl
    rw [hleft m m0 m1 _ hm, hw]
    simp [hne]
   | some y =>
    have hy := List.mem_of_find?_eq_some hf
    have hyp := List.find?_some hf
    have hRy := (hT.row _ y q0 q1).1 hy
    obtain ⟨_, _, y0, y1⟩ := hT.ok _ _ hRy
    unfold hits at hyp
    rw [hw] at hyp
    have hyp' : y ≠ first ∧ rd left y = ((best - out.length : Nat) : Int) := by simpa using hyp
    obtain ⟨d, e1, e2⟩ := hleft0 y y0 y1 (by rw [hyp'.2]; omega)
    have hd : d = best - out.length := by have := hyp'.2; omega
    subst hd
    refine cycGo_spec hT hbn hL f0 f1 hleft hleft0 k (out ++ [y]) ⟨by simp, by simp; omega, ?_, fun i hi hil => ?_, fun i hi => ?_⟩ (by simp; omega) (fun v hv => ?_)
    ·have := rd_append_left (l := out) (m := [y]) (i := 0) (by omega)
     exact this.trans hp.head
    ·rw [List.length_append] at hil
     simp only [List.length_cons, List.length_nil] at hil
     by_cases h6 : i < out.length
     ·rw [rd_append_left h6]; exact hp.dist i hi h6
     ·have : i = out.length := by omega
      subst this
      rw [rd_append_len]; exact e2
    ·rw [List.length_append] at hi
     simp only [List.length_cons, List.length_nil] at hi
     by_cases h6 : i + 1 < out.length
     ·rw [rd_append_left h6, rd_append_left (by omega)]; exact hp.next i h6
     ·have e3 : i + 1 = out.length := by omega
      have e4 : lastOf out = rd out (i : Int) := by unfold lastOf; congr 1; omega
      rw [rd_append_left (by omega), e3, rd_append_len, ← e4]
      exact hRy
    ·rcases List.mem_append.1 hv with hv | hv
     ·exact hrng v hv
     ·rw [List.mem_singleton] at hv; subst hv; exact ⟨y0, y1⟩
  ·rw [if_neg hc]
   exact ⟨out, rfl, hp, by omega, hrng⟩
theorem mem_rd {l : List Int} {v : Int} (h : v ∈ l) : ∃ i : Nat, i < l.length ∧ rd l i = v := by
 obtain ⟨i, hi, e⟩ := List.getElem_of_mem h
 refine ⟨i, hi, ?_⟩
 unfold rd
 rw [List.getD_eq_getElem?_getD, Int.toNat_natCast, List.getElem?_eq_getElem hi]
 exact e
theorem Part.path {R : Int → Int → Prop} {first : Int} {best : Nat} {out : List Int} (h : Part R first best out) : ∀ i : Nat, i < out.length → Pa R i first (rd out i)
 | 0, _ => h.head.symm
 | i + 1, hi => ⟨_, h.path i (by omega), h.next i hi⟩
theorem Part.done {n : Nat} {R : Int → Int → Prop} {first : Int} {best : Nat} {out : List Int} (h : Part R first best out) (hb : out.length = best) (hbn : best ≤ n) (hL : Loop R first best) (hr : ∀ v ∈ out, 0 ≤ v ∧ v < (n : Int))
  (hs : ∀ v : Int, 0 ≤ v → v < n → ∀ j, 1 ≤ j → j < best → ¬ Pa R j v v) (hf : ∀ v : Int, 0 ≤ v → v < first → ¬ Pa R best v v) : CycS n R out := by
 have hd : ∀ i : Nat, i < out.length → ∃ k : Nat, Dist R (rd out i) first k ∧ k = (if i = 0 then 0 else best - i) := fun i hi => by
  by_cases e : i = 0
  ·subst e
   refine ⟨0, ⟨h.head, fun k hk => by omega⟩, by simp⟩
  ·exact ⟨best - i, h.dist i (by omega) hi, by rw [if_neg e]⟩
 refine ⟨h.pos, by omega, hr, ?_, fun v hv => ?_, h.next, ?_, fun v h0 h1 j hj hjb => hs v h0 h1 j hj (by omega)⟩
 ·rw [List.nodup_iff_pairwise_ne, List.pairwise_iff_getElem]
  intro i j hi hj hij e
  have ei : rd out i = out[i] := by unfold rd; rw [List.getD_eq_getElem?_getD, Int.toNat_natCast, List.getElem?_eq_getElem hi]; rfl
  have ej : rd out j = out[j] := by unfold rd; rw [List.getD_eq_getElem?_getD, Int.toNat_natCast, List.getElem?_eq_getElem hj]; rfl
  obtain ⟨a, ha, ka⟩ := hd i hi
  obtain ⟨b, hb2, kb⟩ := hd j hj
  rw [ei] at ha
  rw [ej, ← e] at hb2
  have := ha.eq hb2
  rw [if_neg (by omega)] at kb
  split at ka <;> omega
 ·obtain ⟨i, hi, e⟩ := mem_rd hv
  rw [h.head]
  refine Classical.byContradiction fun hlt => ?_
  have hi0 : i ≠ 0 := fun e0 => by subst e0; have := h.head; rw [← e] at hlt; simp [this] at hlt
  have h1 := h.dist i (by omega) hi
  rw [e] at h1
  have h2 := h.path i hi
  rw [e] at h2
  have h3 := h1.1.add h2
  rw [show best - i + i = best by omega] at h3
  exact hf v (hr v hv).1 (by omega) h3
 ·have hz : ((0 : Nat) : Int) = 0 := rfl
  by_cases e : out.length = 1
  ·rw [e]
   show R (rd out 0) (rd out 0)
   rw [h.head]
   have h2 := hL.2.1
   rw [← hb, e] at h2
   obtain ⟨m, hm, hr⟩ := h2
   cases hm; exact hr
  ·have hp := h.pos
   have h1 := h.dist (out.length - 1) (by omega) (by omega)
   rw [show best - (out.length - 1) = 1 by omega] at h1
   obtain ⟨m, hm, hr⟩ := h1.1
   cases hm
   rw [h.head]; exact hr
theorem cycle_spec {n : Nat} (hn : n ≤ 1000) {l : List S55} (hl : Ok n l) :
  (cycleOf n l = some ([], 4) ∧ ∀ v : Int, 0 ≤ v → v < n → ∀ j, 1 ≤ j → ¬ Pa (E l) j v v) ∨ ∃ out, cycleOf n l = some (out, 0) ∧ CycS n (E l) out := by
 have hT := tells_nx hl
 have hB := tells_pv hl
 have hLe := least1_spec hn hT n (Nat.le_refl _)
 unfold cycleOf
 show ((if (least1 (nx n l) n).1 = 0 then some ([], 4) else if 1000000 < (least1 (nx n l) n).1 then none else
  (cycGo (nx n l) (Cy.leftOf n (fromOf (pv n l) (least1 (nx n l) n).2)) (least1 (nx n l) n).2 (least1 (nx n l) n).1 (least1 (nx n l) n).1.toNat [(least1 (nx n l) n).2]).map fun r => (r, 0)) = some ([], 4) ∧ _) ∨ _
 generalize hs : least1 (nx n l) n = s at hLe
 obtain ⟨best, first⟩ := s
 by_cases hb : best = 0
 ·subst hb
  exact .inl ⟨by rw [if_pos rfl], hLe.none_ rfl⟩
 ·obtain ⟨g, rfl, hgn, f0, f1, hL, hsh, hfi⟩ := hLe.some_ hb
  right
  have hF := from_spec hn hB f0 f1
  have hleft : ∀ y : Int, 0 ≤ y → y < n → ∀ d : Nat, Dist (E l) y first d → rd (Cy.leftOf n (fromOf (pv n l) first)) y = (d : Int) := fun y y0 y1 d hd =>
   (leftOf_spec (n := n) (R := E l) (s := first) (fromOf (pv n l) first) _ (by simp) hF.nd (fun x hx => by obtain ⟨_, _, _, _, a, b⟩ := hF.dist x hx; exact ⟨a, b⟩) y y0 y1).1 d (hF.get hd.flip)
  have hleft0 : ∀ y : Int, 0 ≤ y → y < n → rd (Cy.leftOf n (fromOf (pv n l) first)) y ≠ 0 → ∃ d : Nat, rd (Cy.leftOf n (fromOf (pv n l) first)) y = (d : Int) ∧ Dist (E l) y first d := fun y y0 y1 hne => by
   by_cases hm : y ∈ (fromOf (pv n l) first).map (·.1)
   ·obtain ⟨x, hx, e⟩ := List.mem_map.1 hm
    obtain ⟨d, e1, e2, _⟩ := hF.dist x hx
    rw [e] at e2
    have e3 : Dist (E l) y first d := e2.flip
    exact ⟨d, hleft y y0 y1 d e3, e3⟩
   ·have := (leftOf_spec (n := n) (R := E l) (s := first) (fromOf (pv n l) first) (List.replicate n 0) (by simp) hF.nd (fun x hx => by obtain ⟨_, _, _, _, a, b⟩ := hF.dist x hx; exact ⟨a, b⟩) y y0 y1).2 hm
    exfalso
    apply hne
    refine this.trans ?_
    unfold rd; rw [List.getD_eq_getElem?_getD]
    cases h : (List.replicate n (0 : Int))[y.toNat]? with
    | none => rfl
    | some v => have := List.mem_of_getElem? h; simp at this; simp [this]
  obtain ⟨r, hr, hp, hrl, hrr⟩ := cycGo_spec hT (by omega) hL f0 f1 hleft hleft0 g [first] ⟨by simp, by simpa using hL.1, rfl, fun i hi hil => by simp at hil; omega, fun i hi => by simp at hi⟩ (by simp) (fun v hv => by simp at hv; subst hv; exact ⟨f0, f1⟩)
  refine ⟨r, ?_, hp.done hrl hgn hL hrr hsh hfi⟩
  show (if (g : Int) = 0 then _ else if 1000000 < (g : Int) then none else (cycGo (nx n l) (Cy.leftOf n (fromOf (pv n l) first)) first (g : Int) (g : Int).toNat [first]).map fun r => (r, 0)) = _
  rw [if_neg hb, if_neg (by omega), Int.toNat_natCast, hr]
  rfl
end Go.Proofs.Ytlldjinejckbaaa.Pf

end
section
namespace Go.Proofs.Ytlldjinejckbaaa.Pc
open Go Go.RowKit Go.Proofs.YtlldjinejckbaaaW.PrintWords Go.Proofs.Ytlldjinejckbaaa.Mod Go.Proofs.Ytlldjinejckbaaa.PD Go.Proofs.Ytlldjinejckbaaa.Pg Go.Proofs.Ytlldjinejckbaaa.Po Go.Proofs.Ytlldjinejckbaaa.Ck
theorem checkGo_some {n : Nat} : ∀ (vs : List Int) (i : Int) (a : List Int), a.length = n → 0 ≤ i → i + vs.length ≤ 1000000 → vs.Nodup → (∀ v ∈ vs, 0 ≤ v ∧ v < (n : Int) ∧ rd a v = 0) →
  ∃ a', checkGo n vs i a = some a' ∧ (∀ j : Nat, j < vs.length → rd a' (rd vs (j : Int)) = i + j + 1) ∧ (∀ y : Int, 0 ≤ y → y ∉ vs → rd a' y = rd a y)
 | [], i, a, _, _, _, _, _ => ⟨a, rfl, fun j hj => absurd hj (Nat.not_lt_zero j), fun y _ _ => rfl⟩
 | v :: vs, i, a, hl, hi, hb, hn, hv => by
  obtain ⟨v0, v1, v2⟩ := hv v (by simp)
  rw [List.nodup_cons] at hn
  simp only [List.length_cons] at hb
  have hw : wrap64 (i + 1) = i + 1 := Po.wrap_small (by omega) (by omega)
  obtain ⟨a', h1, h2, h3⟩ := checkGo_some (n := n) vs (i + 1) (a.set v.toNat (i + 1)) (by rw [List.length_set]; exact hl) (by omega) (by omega) hn.2 (fun u hu => by
   obtain ⟨u0, u1, u2⟩ := hv u (by simp [hu])
   exact ⟨u0, u1, by rw [rd_set_other _ _ _ _ u0 v0 (fun e => hn.1 (by rw [← e]; exact hu))]; exact u2⟩)
  refine ⟨a', ?_, fun j hj => ?_, fun y hy hm => ?_⟩
  ·unfold checkGo
   rw [if_neg (by omega), hw]
   exact h1
  ·cases j with
   | zero =>
    show rd a' (rd (v :: vs) 0) = _
    rw [show rd (v :: vs) 0 = v from rfl, h3 v v0 hn.1, rd_set_same _ _ _ v0 (by omega)]
    simp
   | succ j =>
    have hj' : j < vs.length := by simpa using hj
    have e : rd (v :: vs) ((j + 1 : Nat) : Int) = rd vs (j : Int) := by rw [rd_get hj, rd_get hj']; rfl
    rw [e, h2 j hj']
    omega
  ·rw [h3 y hy (fun h => hm (by simp [h])), rd_set_other _ _ _ _ hy v0 (fun e => hm (by simp [e]))]
theorem rd_zeros (n : Nat) (x : Int) : rd (List.replicate n 0) x = 0 := by
 unfold rd
 rw [List.getD_eq_getElem?_getD, List.getElem?_replicate]
 split <;> rfl
theorem check_spec {n : Nat} (hn : n ≤ 1000) {l : List S55} {s : List Int} (hl : Ok n l) (hs : s.Nodup) (hr : ∀ v ∈ s, 0 ≤ v ∧ v < (n : Int)) (hlen : s.length = n) :
  ∃ a, checkGo n s 0 (List.replicate n 0) = some a ∧ (∀ j : Nat, j < s.length → rd a (rd s (j : Int)) = (j : Int) + 1) ∧ (checkOf n l s = 0 ↔ ∀ i j : Nat, i < n → j < n → E l (rd s (i : Int)) (rd s (j : Int)) → i < j) := by
 obtain ⟨a, h1, h2, _⟩ := checkGo_some (n := n) s 0 (List.replicate n 0) (by simp) (by omega) (by omega) hs (fun v hv => ⟨(hr v hv).1, (hr v hv).2, rd_zeros n v⟩)
 have h2 : ∀ j : Nat, j < s.length → rd a (rd s (j : Int)) = (j : Int) + 1 := fun j hj => by rw [h2 j hj]; omega
 refine ⟨a, h1, h2, ?_⟩
 unfold checkOf
 rw [h1]
 simp only
 rw [if_neg (by omega)]
 have hall := nodup_all hs hr hlen
 have hidx : ∀ v : Int, 0 ≤ v → v < n → ∃ j : Nat, j < n ∧ rd s (j : Int) = v := fun v h0 h1 => by
  obtain ⟨j, hj, e⟩ := List.mem_iff_getElem.1 (hall v h0 h1)
  exact ⟨j, by omega, by rw [rd_get hj]; exact e⟩
 constructor
 ·intro h i j hi hj he
  split at h
  ·omega
  ·rename_i hany
   obtain ⟨e, hem, e1, e2⟩ := he
   have : ¬ (rd a e.f1 ≤ rd a e.f0) := fun hle => hany (List.any_eq_true.2 ⟨e, hem, by simpa using hle⟩)
   rw [e1, e2, h2 i (by omega), h2 j (by omega)] at this
   omega
 ·intro h
  rw [if_neg]
  intro hany
  obtain ⟨e, hem, hle⟩ := List.any_eq_true.1 hany
  have hle : rd a e.f1 ≤ rd a e.f0 := by simpa using hle
  obtain ⟨o1, o2, o3, o4⟩ := hl e hem
  obtain ⟨i, hi, ei⟩ := hidx e.f0 o1 o2
  obtain ⟨j, hj, ej⟩ := hidx e.f1 o3 o4
  have := h i j hi hj (by rw [ei, ej]; exact ⟨e, hem, rfl, rfl⟩)
  rw [← ei, ← ej, h2 i (by omega), h2 j (by omega)] at hle
  omega
end Go.Proofs.Ytlldjinejckbaaa.Pc

end
section
namespace Go.Proofs.Ytlldjinejckbaaa.Ph
open Go Go.RowKit Go.Proofs.YtlldjinejckbaaaW.PrintWords Go.Proofs.Ytlldjinejckbaaa.Mod Go.Proofs.Ytlldjinejckbaaa.Pg Go.Proofs.Ytlldjinejckbaaa.Pb Go.Proofs.Ytlldjinejckbaaa.Po Go.Proofs.Ytlldjinejckbaaa.PD
theorem closed_of_preds {n : Nat} {R : Int → Int → Prop} (S : Int → Prop) (hr : ∀ v, S v → 0 ≤ v ∧ v < (n : Int)) (hp : ∀ v, S v → ∃ u, S u ∧ R u v) {v0 : Int} (h0 : S v0) : ∃ v j, 0 ≤ v ∧ v < (n : Int) ∧ 1 ≤ j ∧ Pa R j v v := by
 obtain ⟨g, hg⟩ : ∃ g : { v : Int // S v } → { v : Int // S v }, ∀ x, R (g x).1 x.1 := ⟨fun x => ⟨Classical.choose (hp x.1 x.2), (Classical.choose_spec (hp x.1 x.2)).1⟩, fun x => (Classical.choose_spec (hp x.1 x.2)).2⟩
 have hf : ∃ f : Nat → { v : Int // S v }, ∀ k, R (f (k + 1)).1 (f k).1 := ⟨fun k => Nat.rec ⟨v0, h0⟩ (fun _ x => g x) k, fun k => hg _⟩
 obtain ⟨f, hf⟩ := hf
 have hpath : ∀ (d i : Nat), Pa R d (f (i + d)).1 (f i).1 := by
  intro d
  induction d with
  | zero => intro i; rfl
  | succ d ih =>
   intro i
   have h1 := ih (i + 1)
   refine ⟨(f (i + 1)).1, ?_, hf i⟩
   rw [show i + (d + 1) = i + 1 + d by omega]; exact h1
 have hnn : ¬ (((List.range (n + 1)).map fun k => (f k).1).Nodup) := fun hn => by
  have := nodup_len (n := n) hn (fun v hv => by obtain ⟨k, _, rfl⟩ := List.mem_map.1 hv; exact hr _ (f k).2)
  rw [List.length_map, List.length_range] at this
  omega
 have hex : ∃ i j : Nat, i < j ∧ (f i).1 = (f j).1 := Classical.byContradiction fun hno => hnn (by
  rw [List.nodup_iff_pairwise_ne, List.pairwise_map]
  have := List.pairwise_lt_range (n := n + 1)
  exact this.imp (fun {a b} hab e => hno ⟨a, b, hab, e⟩))
 obtain ⟨i, j, hij, e⟩ := hex
 refine ⟨(f i).1, j - i, (hr _ (f i).2).1, (hr _ (f i).2).2, by omega, ?_⟩
 have := hpath (j - i) i
 rw [show i + (j - i) = j by omega, ← e] at this
 exact this
theorem pos_lt {n : Nat} {l : List S55} {o : List Int} (hg : Greedy n l o) {i j : Nat} (hi : i < o.length) (hj : j < o.length) (he : E l (rd o (i : Int)) (rd o (j : Int))) : i < j := by
 have h1 := hg.before hj he
 rw [List.mem_iff_getElem] at h1
 obtain ⟨k, hk, e⟩ := h1
 rw [List.length_take] at hk
 rw [List.getElem_take, ← rd_get (by omega)] at e
 have hnd := hg.nodup
 have : k = i := by
  refine Classical.byContradiction fun hne => ?_
  rw [rd_get (by omega), rd_get hi] at e
  rcases Nat.lt_or_gt_of_ne hne with h | h
  ·exact List.pairwise_iff_getElem.1 (List.nodup_iff_pairwise_ne.1 hnd) k i (by omega) hi h e
  ·exact List.pairwise_iff_getElem.1 (List.nodup_iff_pairwise_ne.1 hnd) i k hi (by omega) h e.symm
 omega
theorem full_mem {n : Nat} {l : List S55} {o : List Int} (hg : Greedy n l o) (hl : o.length = n) {v : Int} (h0 : 0 ≤ v) (h1 : v < n) : ∃ i : Nat, i < o.length ∧ rd o (i : Int) = v := by
 have := nodup_all hg.nodup hg.range hl v h0 h1
 obtain ⟨i, hi, e⟩ := List.getElem_of_mem this
 exact ⟨i, hi, by rw [rd_get hi]; exact e⟩
theorem no_closed {n : Nat} {l : List S55} (hok : Ok n l) {o : List Int} (hg : Greedy n l o) (hl : o.length = n) : ∀ v : Int, 0 ≤ v → v < n → ∀ j, 1 ≤ j → ¬ Pa (E l) j v v := by
 have key : ∀ (j : Nat) (v w : Int), Pa (E l) (j + 1) v w → ∃ a b : Nat, a < o.length ∧ b < o.length ∧ rd o (a : Int) = v ∧ rd o (b : Int) = w ∧ a < b := by
  intro j
  induction j with
  | zero =>
   rintro v w ⟨m, hm, he⟩
   cases hm
   have := he.ok hok
   obtain ⟨a, ha, rfl⟩ := full_mem hg hl this.1 this.2.1
   obtain ⟨b, hb, rfl⟩ := full_mem hg hl this.2.2.1 this.2.2.2
   exact ⟨a, b, ha, hb, rfl, rfl, pos_lt hg ha hb he⟩
  | succ j ih =>
   rintro v w ⟨m, hm, he⟩
   obtain ⟨a, b, ha, hb, e1, e2, h⟩ := ih v m hm
   have := he.ok hok
   obtain ⟨c, hc, rfl⟩ := full_mem hg hl this.2.2.1 this.2.2.2
   subst e2
   exact ⟨a, c, ha, hc, e1, rfl, Nat.lt_trans h (pos_lt hg hb hc he)⟩
 intro v h0 h1 j hj hp
 obtain ⟨j', rfl⟩ : ∃ j', j = j' + 1 := ⟨j - 1, by omega⟩
 obtain ⟨a, b, ha, hb, e1, e2, h⟩ := key j' v v hp
 have e : o[a] = o[b] := by rw [← rd_get ha, ← rd_get hb, e1, e2]
 exact List.pairwise_iff_getElem.1 (List.nodup_iff_pairwise_ne.1 hg.nodup) a b ha hb h e
theorem some_closed {n : Nat} {l : List S55} {o : List Int} (hg : Greedy n l o) (hmax : ∀ v, ¬ Avail n l o v) (hok : Ok n l) (hl : o.length < n) : ∃ v j, 0 ≤ v ∧ v < (n : Int) ∧ 1 ≤ j ∧ Pa (E l) j v v := by
 have hex : ∃ v : Int, 0 ≤ v ∧ v < (n : Int) ∧ v ∉ o := Classical.byContradiction fun hno => by
  have hall : ∀ v : Int, 0 ≤ v → v < n → v ∈ o := fun v h0 h1 => Classical.byContradiction fun h => hno ⟨v, h0, h1, h⟩
  have hnd : ((List.range n).map fun k : Nat => (k : Int)).Nodup := by
   rw [List.nodup_iff_pairwise_ne, List.pairwise_map]
   exact (List.pairwise_lt_range (n := n)).imp (fun h e => by omega)
  have hp : ((List.range n).map fun k : Nat => (k : Int)).Perm o := (List.perm_ext_iff_of_nodup hnd hg.nodup).2 (fun v => ⟨fun h => by
   obtain ⟨k, hk, rfl⟩ := List.mem_map.1 h
   exact hall _ (by omega) (by have := List.mem_range.1 hk; omega), fun h => by
   have := hg.range v h
   exact List.mem_map.2 ⟨v.toNat, List.mem_range.2 (by omega), by omega⟩⟩)
  have := hp.length_eq
  rw [List.length_map, List.length_range] at this
  omega
 obtain ⟨v, h0, h1, hv⟩ := hex
 refine closed_of_preds (fun v => 0 ≤ v ∧ v < (n : Int) ∧ v ∉ o) (fun v h => ⟨h.1, h.2.1⟩) (fun v h => ?_) ⟨h0, h1, hv⟩
 refine Classical.byContradiction fun hno => hmax v ⟨h.1, h.2.1, h.2.2, fun u hu => Classical.byContradiction fun hm => hno ⟨u, ⟨(hu.ok hok).1, (hu.ok hok).2.1, hm⟩, hu⟩⟩
theorem order_cycle {n : Nat} (hn : n ≤ 1000) {l : List S55} (hl : Ok n l) :
  (∃ o, Od.orderOf n l = some (o, 0) ∧ Greedy n l o ∧ o.length = n ∧ Cy.cycleOf n l = some ([], 4) ∧ ∀ v : Int, 0 ≤ v → v < n → ∀ j, 1 ≤ j → ¬ Pa (E l) j v v) ∨
  (Od.orderOf n l = some ([], 50) ∧ ∃ c, Cy.cycleOf n l = some (c, 0) ∧ Pf.CycS n (E l) c) := by
 obtain ⟨o, ho, hg, hav⟩ := order_spec hn hl
 by_cases h : o.length < n
 ·rw [if_pos h] at ho
  refine .inr ⟨ho, ?_⟩
  rcases Pf.cycle_spec hn hl with ⟨_, hno⟩ | hc
  ·obtain ⟨v, j, h0, h1, hj, hp⟩ := some_closed hg hav hl h
   exact absurd hp (hno v h0 h1 j hj)
  ·exact hc
 ·rw [if_neg h] at ho
  have hol : o.length = n := by have := hg.len; omega
  have hnc := no_closed hl hg hol
  refine .inl ⟨o, ho, hg, hol, ?_, hnc⟩
  rcases Pf.cycle_spec hn hl with ⟨hc, _⟩ | ⟨c, _, hc⟩
  ·exact hc
  ·have h0 := hc.rng (rd c 0) (by have := hc.pos; have := rd_mem (l := c) (k := 0) (by omega); simpa using this)
   have hpath : ∀ i : Nat, i < c.length → Pa (E l) i (rd c 0) (rd c (i : Int)) := by
    intro i
    induction i with
    | zero => intro _; rfl
    | succ i ih => intro hi; exact ⟨_, ih (by omega), hc.next i hi⟩
   have := hc.pos
   exact absurd ⟨_, hpath (c.length - 1) (by omega), hc.close⟩ (hnc _ h0.1 h0.2 (c.length - 1 + 1) (by omega))
end Go.Proofs.Ytlldjinejckbaaa.Ph

end
section
namespace Go.Proofs.Ytlldjinejckbaaa.Pd
open Go Go.RowKit Go.Proofs.YtlldjinejckbaaaW.PrintWords Go.Proofs.Ytlldjinejckbaaa.Mod Go.Proofs.Ytlldjinejckbaaa.Lb Go.Proofs.Ytlldjinejckbaaa.Ng Go.Proofs.Ytlldjinejckbaaa.Rc Go.Proofs.Ytlldjinejckbaaa.PD Go.Proofs.Ytlldjinejckbaaa.Pg Go.Proofs.Ytlldjinejckbaaa.Od Go.Proofs.Ytlldjinejckbaaa.Po Go.Proofs.Ytlldjinejckbaaa.Dp
structure DInv (n : Nat) (l : List S55) (P cur : List Int) : Prop where
 len : cur.length = n
 lo : ∀ w : Int, 0 ≤ w → w < n → 0 ≤ rd cur w ∧ rd cur w ≤ (P.length : Int)
 ge : ∀ u w : Int, u ∈ P → E l u w → rd cur u + 1 ≤ rd cur w
 inP : ∀ u ∈ P, rd cur u < (P.length : Int)
 at_ : ∀ w : Int, 0 ≤ w → w < n → rd cur w = 0 ∨ ∃ u, u ∈ P ∧ E l u w ∧ rd cur w = rd cur u + 1
end Go.Proofs.Ytlldjinejckbaaa.Pd

end
section
namespace Go.Proofs.Ytlldjinejckbaaa.Pe
open Go Go.RowKit Go.Proofs.YtlldjinejckbaaaW.PrintWords Go.Proofs.Ytlldjinejckbaaa.Mod Go.Proofs.Ytlldjinejckbaaa.Lb Go.Proofs.Ytlldjinejckbaaa.Ng Go.Proofs.Ytlldjinejckbaaa.Rc Go.Proofs.Ytlldjinejckbaaa.PD Go.Proofs.Ytlldjinejckbaaa.Pg Go.Proofs.Ytlldjinejckbaaa.Tj
def uins (x : Int) : List Int → List Int
 | [] => [x]
 | y :: ys => if x < y then x :: y :: ys else if x = y then y :: ys else y :: uins x ys
def usort (xs : List Int) : List Int := xs.foldr uins []
theorem mem_uins (x z : Int) : ∀ ys, z ∈ uins x ys ↔ z = x ∨ z ∈ ys
 | [] => by simp [uins]
 | y :: ys => by
  unfold uins
  split
  ·simp
  ·split
   ·rename_i h; subst h; simp
   ·rw [List.mem_cons, mem_uins x z ys, List.mem_cons]
    constructor
    ·rintro (h | h | h); exact .inr (.inl h); exact .inl h; exact .inr (.inr h)
    ·rintro (h | h | h); exact .inr (.inl h); exact .inl h; exact .inr (.inr h)
theorem uins_strict (x : Int) : ∀ ys, ys.Pairwise (· < ·) → (uins x ys).Pairwise (· < ·)
 | [], _ => by simp [uins]
 | y :: ys, h => by
  rw [List.pairwise_cons] at h
  unfold uins
  split
  ·rename_i hx
   rw [List.pairwise_cons]
   refine ⟨fun z hz => ?_, List.pairwise_cons.2 h⟩
   rcases List.mem_cons.1 hz with hz | hz
   ·omega
   ·have := h.1 z hz; omega
  ·split
   ·exact List.pairwise_cons.2 h
   ·rw [List.pairwise_cons]
    refine ⟨fun z hz => ?_, uins_strict x ys h.2⟩
    rcases (mem_uins x z ys).1 hz with hz | hz
    ·omega
    ·exact h.1 z hz
theorem usort_spec : ∀ xs : List Int, (usort xs).Pairwise (· < ·) ∧ ∀ z, z ∈ usort xs ↔ z ∈ xs
 | [] => by simp [usort]
 | x :: xs => by
  obtain ⟨h1, h2⟩ := usort_spec xs
  exact ⟨uins_strict x _ h1, fun z => by show z ∈ uins x (usort xs) ↔ _; rw [mem_uins, h2, List.mem_cons]⟩
theorem compact_sort (xs : List Int) : Lib.compact (sortI xs) = usort xs := strict_ext (tidyRow xs).1 (usort_spec xs).1 (fun z => by rw [(tidyRow xs).2, (usort_spec xs).2])
theorem tidy_eval (rows : List (List Int)) : tidy rows = rows.map usort := by
 unfold tidy
 exact List.map_congr_left (fun r _ => compact_sort r)
def ins1 (x : Int) : List Int → List Int
 | [] => [x]
 | y :: ys => if x ≤ y then x :: y :: ys else y :: ins1 x ys
def isort (xs : List Int) : List Int := xs.foldr ins1 []
theorem ins1_perm (x : Int) : ∀ ys, (ins1 x ys).Perm (x :: ys)
 | [] => .refl _
 | y :: ys => by
  unfold ins1
  split
  ·exact .refl _
  ·exact ((ins1_perm x ys).cons y).trans (List.Perm.swap x y ys)
theorem ins1_sorted (x : Int) : ∀ ys, ys.Pairwise (· ≤ ·) → (ins1 x ys).Pairwise (· ≤ ·)
 | [], _ => by simp [ins1]
 | y :: ys, h => by
  rw [List.pairwise_cons] at h
  unfold ins1
  split
  ·rename_i hx
   rw [List.pairwise_cons]
   refine ⟨fun z hz => ?_, List.pairwise_cons.2 h⟩
   rcases List.mem_cons.1 hz with hz | hz
   ·omega
   ·have := h.1 z hz; omega
  ·rw [List.pairwise_cons]
   refine ⟨fun z hz => ?_, ins1_sorted x ys h.2⟩
   rcases List.mem_cons.1 ((ins1_perm x ys).mem_iff.1 hz) with hz | hz
   ·omega
   ·exact h.1 z hz
theorem isort_spec : ∀ xs : List Int, (isort xs).Pairwise (· ≤ ·) ∧ (isort xs).Perm xs
 | [] => by simp [isort]
 | x :: xs => by
  obtain ⟨h1, h2⟩ := isort_spec xs
  exact ⟨ins1_sorted x _ h1, (ins1_perm x _).trans (h2.cons x)⟩
theorem sortA_eq : sortA = isort := by
 funext xs
 have h1 : (sortA xs).Pairwise (· ≤ ·) := sortI_sorted xs
 have h2 : (sortA xs).Perm xs := List.mergeSort_perm _ _
 exact List.Perm.eq_of_pairwise (le := fun x y : Int => x ≤ y) (fun x y _ _ h1 h2 => by omega) h1 (isort_spec xs).1 (h2.trans (isort_spec xs).2.symm)
def shutE (s : TS) (k : Nat) : TS :=
 { s with stack := s.stack.take k, opn := (s.stack.drop k).foldl (fun o x => o.set x.toNat false) s.opn, out := s.out ++ [isort (s.stack.drop k)] }
def visitE (rows : List (List Int)) : Nat → Int → TS → Option TS
 | 0, _, _ => none
 | f + 1, v, s => if 50000 < s.stack.length then none else match visitRow (visitE rows f) v (row rows v) (s.meet v) with
  | none => none
  | some s2 => if rd s2.low v < rd s2.num v then some s2 else if 50000 < s2.stack.length ∨ 50000 < s2.out.length then none else (match s2.stack.findIdx? (· == v) with
   | some k => some (shutE s2 k)
   | none => none)
theorem visit_eq (rows : List (List Int)) : ∀ f, visit rows f = visitE rows f
 | 0 => by funext v s; rfl
 | f + 1 => by
  funext v s
  unfold visit visitE
  rw [visit_eq rows f]
  have e : ∀ (s : TS) k, s.shut k = shutE s k := fun s k => by unfold TS.shut shutE; rw [sortA_eq]
  simp only [e]
  rfl
def visitAllE (rows : List (List Int)) (n : Nat) : Nat → TS → Option TS
 | 0, s => some s
 | k + 1, s => if rd s.num ((n - (k + 1) : Nat) : Int) = 0 then (match visitE rows (n + 1) ((n - (k + 1) : Nat) : Int) s with
   | some s' => visitAllE rows n k s'
   | none => none) else visitAllE rows n k s
theorem visitAll_eq (rows : List (List Int)) (n : Nat) : ∀ k s, visitAll rows n k s = visitAllE rows n k s
 | 0, s => rfl
 | k + 1, s => by
  unfold visitAll visitAllE
  rw [visit_eq]
  split
  ·split
   ·rename_i s' h; rw [h]; exact visitAll_eq rows n k s'
   ·rename_i h; rw [h]
  ·exact visitAll_eq rows n k s
abbrev g1 : List S55 := [⟨2, 0⟩, ⟨0, 3⟩, ⟨1, 3⟩]
abbrev g2 : List S55 := [⟨2, 0⟩, ⟨0, 3⟩, ⟨1, 3⟩, ⟨3, 2⟩]
abbrev g3 : List S55 := [⟨2, 0⟩, ⟨0, 3⟩, ⟨1, 3⟩, ⟨1, 1⟩]
theorem t1 : tidy (built 4 g1 true) = [[3], [3], [0], []] := by rw [tidy_eval]; decide +kernel
theorem t1p : tidy (built 4 g1 false) = [[2], [], [], [0, 1]] := by rw [tidy_eval]; decide +kernel
theorem t2 : tidy (built 4 g2 true) = [[3], [3], [0], [2]] := by rw [tidy_eval]; decide +kernel
theorem t2p : tidy (built 4 g2 false) = [[2], [], [3], [0, 1]] := by rw [tidy_eval]; decide +kernel
theorem t3 : tidy (built 4 g3 true) = [[3], [1, 3], [0], []] := by rw [tidy_eval]; decide +kernel
theorem t3p : tidy (built 4 g3 false) = [[2], [1], [], [0, 1]] := by rw [tidy_eval]; decide +kernel
theorem o1 : Od.orderOf 4 g1 = some ([1, 2, 0, 3], 0) := by unfold Od.orderOf; rw [t1, t1p]; decide +kernel
theorem o2 : Od.orderOf 4 g2 = some ([], 50) := by unfold Od.orderOf; rw [t2, t2p]; decide +kernel
theorem d1 : Dp.depthOf 4 g1 = some ([1, 0, 0, 2], 0) := by unfold Dp.depthOf; rw [o1, t1]; decide +kernel
theorem d2 : Dp.depthOf 4 g2 = some ([], 50) := by unfold Dp.depthOf; rw [o2]; rfl
theorem c1 : Cy.cycleOf 4 g1 = some ([], 4) := by unfold Cy.cycleOf; rw [t1, t1p]; decide +kernel
theorem c2 : Cy.cycleOf 4 g2 = some ([0, 3, 2], 0) := by unfold Cy.cycleOf; rw [t2, t2p]; decide +kernel
theorem c3 : Cy.cycleOf 4 g3 = some ([1], 0) := by unfold Cy.cycleOf; rw [t3, t3p]; decide +kernel
theorem k1 : Tj.compsOf (tidy (built 4 g2 true)) 4 = some [[0, 2, 3], [1]] := by
 unfold Tj.compsOf
 rw [t2, visitAll_eq]
 have e : visitAllE [[3], [3], [0], [2]] 4 4 (Tj.start 4) = some { count := 4, num := [1, 4, 3, 2], low := [1, 4, 1, 1], opn := [false, false, false, false], stack := [], out := [[0, 2, 3], [1]] } := by kernel_rfl
 rw [e]
 have hf : Tj.fine [[0, 2, 3], [1]] = true := by decide +kernel
 simp only
 rw [if_pos hf, List.mergeSort_of_pairwise (by decide +kernel)]
theorem ch1 : Ck.checkOf 4 g1 [2, 0, 1, 3] = 0 := by decide +kernel
theorem ch2 : Ck.checkOf 4 g1 [0, 1, 2, 3] = 6 := by decide +kernel
theorem o0 : Od.orderOf 0 [] = some ([], 0) := by unfold Od.orderOf; rw [tidy_eval, tidy_eval]; decide +kernel
theorem sortI_eq : sortI = isort := sortA_eq
theorem r1 : Rc.reachOf 4 g1 2 = [0, 2, 3] := by unfold Rc.reachOf; rw [t1, sortI_eq]; decide +kernel
theorem r2 : Rc.reachOf 4 g1 4 = [] := by decide +kernel
end Go.Proofs.Ytlldjinejckbaaa.Pe

end
