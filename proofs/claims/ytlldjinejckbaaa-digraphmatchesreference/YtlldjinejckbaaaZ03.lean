/- The law DigraphMatchesReference of package digraph holds for every input: what it is called with is opened, the printed text of the law and its plain proof are joined. (Part 4 of 6 of its proof.) -/
import Derived.Test.YtlldjinejckbaaaZ02
set_option linter.unusedVariables false
set_option linter.unusedSimpArgs false
section
namespace Go.Proofs.Ytlldjinejckbaaa.PD
open Go.RowKit Go.Proofs.YtlldjinejckbaaaW.PrintWords Go.Proofs.YtlldjinejckbaaaW.PrintLast Go.Proofs.YtlldjinejckbaaaW.PrintMore
attribute [local go_sem] max2_int min2_int max_two min_two max_three min_three max_four min_four
set_option linter.unusedVariables false
set_option linter.unusedSimpArgs false
mutual
def wireloomref05_Made.l0 : Nat → Int → Int → Int → Int → List Int → Int → List (S55) → Option (Int × (List (S55)))
 | 0, _, _, _, _, _, _, _ => none
 | k + 1, x3, x5, x257000, x257001, x257002, x259000, x259001 => if (wrap64 (x5 + 1)) < (x257002.length : Int) then (if x5 < 60 then (wireloomref05_Made.j1 k x3 x5 (decide (x3 > 0)) x257000 x257001 x257002 x259000 x259001) else (wireloomref05_Made.j1 k x3 x5 false x257000 x257001 x257002 x259000 x259001)) else (wireloomref05_Made.j1 k x3 x5 false x257000 x257001 x257002 x259000 x259001)
def wireloomref05_Made.j1 : Nat → Int → Int → Bool → Int → Int → List Int → Int → List (S55) → Option (Int × (List (S55)))
 | 0, _, _, _, _, _, _, _, _ => none
 | k + 1, x3, x5, x27, x257000, x257001, x257002, x259000, x259001 => if x27 = true then (if 0 ≤ x5 then (if x5 < (x257002.length : Int) then (if x3 = 0 then (none) else (if 0 ≤ (wrap64 (x5 + 1)) then (if (wrap64 (x5 + 1)) < (x257002.length : Int) then (if (Int.tmod x257001 2) = 0 then (if (Int.tmod (wrap64 (rd x257002 x5)) x3) = (Int.tmod (wrap64 (rd x257002 (wrap64 (x5 + 1)))) x3) then (wireloomref05_Made.l0 k x3 (wrap64 (x5 + 2)) x257000 x257001 x257002 x259000 x259001) else (if (Int.tmod (wrap64 (rd x257002 x5)) x3) > (Int.tmod (wrap64 (rd x257002 (wrap64 (x5 + 1)))) x3) then (wireloomref05_Made.j2 k x3 x5 (Int.tmod (wrap64 (rd x257002 (wrap64 (x5 + 1)))) x3) (Int.tmod (wrap64 (rd x257002 x5)) x3) x257000 x257001 x257002 x259000 x259001) else (wireloomref05_Made.j2 k x3 x5 (Int.tmod (wrap64 (rd x257002 x5)) x3) (Int.tmod (wrap64 (rd x257002 (wrap64 (x5 + 1)))) x3) x257000 x257001 x257002 x259000 x259001))) else (if x259001.length < 8796093022208 then (wireloomref05_Made.l0 k x3 (wrap64 (x5 + 2)) x257000 x257001 x257002 x259000 (x259001 ++ [(⟨Int.tmod (wrap64 (rd x257002 x5)) x3, Int.tmod (wrap64 (rd x257002 (wrap64 (x5 + 1)))) x3⟩ : S55)])) else (none))) else (none)) else (none))) else (none)) else (none)) else (some (x259000, x259001))
def wireloomref05_Made.j2 : Nat → Int → Int → Int → Int → Int → Int → List Int → Int → List (S55) → Option (Int × (List (S55)))
 | 0, _, _, _, _, _, _, _, _, _ => none
 | k + 1, x3, x5, x6, x7, x257000, x257001, x257002, x259000, x259001 => if (Int.tmod x257001 4) = 2 then (if x3 = 0 then (none) else (if (Int.tmod x3 5) = 0 then (wireloomref05_Made.l0 k x3 (wrap64 (x5 + 2)) x257000 x257001 x257002 x259000 x259001) else (if x259001.length < 8796093022208 then (wireloomref05_Made.l0 k x3 (wrap64 (x5 + 2)) x257000 x257001 x257002 x259000 (x259001 ++ [(⟨Int.tmod (wrap64 ((wrap64 (5 * x6)) + 3)) x3, Int.tmod (wrap64 ((wrap64 (5 * x7)) + 3)) x3⟩ : S55)])) else (none)))) else (if (Int.tmod x3 5) = 0 then (if x259001.length < 8796093022208 then (wireloomref05_Made.l0 k x3 (wrap64 (x5 + 2)) x257000 x257001 x257002 x259000 (x259001 ++ [(⟨x6, x7⟩ : S55)])) else (none)) else (if x259001.length < 8796093022208 then (wireloomref05_Made.l0 k x3 (wrap64 (x5 + 2)) x257000 x257001 x257002 x259000 (x259001 ++ [(⟨x6, x7⟩ : S55)])) else (none)))
end
def wireloomref05_Made.f (k : Nat) (a0_0 : Int) (a0_1 : Int) (l0_2 : List Int) : Option (Int × (List (S55))) := wireloomref05_Made.l0 k (wrap64 (Int.tmod a0_0 13)) 0 a0_0 a0_1 l0_2 (wrap64 (Int.tmod a0_0 13)) ([] : List (S55))
set_option maxHeartbeats 8000000 in
set_option maxRecDepth 100000 in
theorem wireloomref05_Made.calls (k : Nat) (a0_0 : Int) (a0_1 : Int) (A0_2 : Option Addr) (c0_2 : Nat) (l0_2 : List Int) (r1 : Int) (r2 : List (S55)) (w : World) (hr0_2 : Kd.C (Kd.int .u8) w A0_2 l0_2.length l0_2) (hc0_2 : l0_2.length ≤ c0_2) (h : wireloomref05_Made.f k a0_0 a0_1 l0_2 = some (r1, r2)) :
  Calls Try.prog 11 #[.agg #[.int .u8 a0_0, .int .u8 a0_1, .slice A0_2 l0_2.length c0_2]] w fun e w' => ∃ v1_ : Value, e = .returned (.agg #[.int .i64 r1, v1_]) ∧ Kd.R k55 55 w' w.heap.size (fun _ => True) v1_ r2 ∧ Below w.heap.size w w' := by
 have hu24 := Try.underlying24
 have hu31 := Try.underlying31
 have hu55 := Try.underlying55
 have HR0_2 := Aside0.mk hr0_2
 have HC0_2 := Aside0.mk hc0_2
 clear hr0_2 hc0_2
 have HB := Aside0.mk (Below.refl w.heap.size w)
 have H : (wireloomref05_Made.l0 k (wrap64 (Int.tmod a0_0 13)) 0 a0_0 a0_1 l0_2 (wrap64 (Int.tmod a0_0 13)) ([] : List (S55))) = some (r1, r2) := h
 clear h
 have H' := Aside0.mk H
 clear H
 go_enter Try.func11, Try.ntmps11
 go_wp2_with (first | ((with_reducible refine gate_dst (N := 1) rfl ?_); refine box_event ?hg (N := 1) ?hd (cs := #[.int .u8 a0_0, .int .u8 a0_1, .slice A0_2 l0_2.length c0_2]) (t := 24) ?hr ?_; (case hd => rfl); (case hg => rfl); (case hr => first | (go_simp; done) | (go_simp; rfl)); intro gb256 hg w2 hbox hb; have BK256 := Aside0.mk (hbox); have GW256 := Aside0.mk ((by rw [hg]; exact (below_size (wB0 HB.out)) : w.heap.size ≤ gb256)); have GE256 := Aside0.mk ((by rw [hg]; exact (below_size (wB0 HB.out)) : w.heap.size ≤ gb256)); replace HB := Aside0.mk (below_step (wB0 HB.out) hb); clear hb hbox hg) | ((with_reducible refine gate_dst (N := 2) rfl ?_); refine box_event ?hg (N := 2) ?hd (cs := #[.int .i64 0, .slice none 0 0]) (t := 31) ?hr ?_; (case hd => rfl); (case hg => rfl); (case hr => first | (go_simp; done) | (go_simp; rfl)); intro gb257 hg w3 hbox hb; have BK257 := Aside0.mk (hbox); have GW257 := Aside0.mk ((by rw [hg]; exact (below_size (wB1 HB.out GE256.out)) : w.heap.size ≤ gb257)); have GE257 := Aside0.mk ((by rw [hg]; exact (below_size (wB1 HB.out GE256.out)) : w.heap.size ≤ gb257)); replace HB := Aside0.mk (below_step (wB1 HB.out GE256.out) hb); have NB256_257 := Aside0.mk ((by rw [hg]; exact Nat.ne_of_lt (blk_lt (g := gb256) (o := .cells #[.int .u8 a0_0, .int .u8 a0_1, .slice A0_2 l0_2.length c0_2] 24 (0, 0)) (bA BK256.out)) : gb256 ≠ gb257)); have NB257_256 := Aside0.mk ((by rw [hg]; exact Nat.ne_of_gt (blk_lt (g := gb256) (o := .cells #[.int .u8 a0_0, .int .u8 a0_1, .slice A0_2 l0_2.length c0_2] 24 (0, 0)) (bA BK256.out)) : gb257 ≠ gb256)); replace BK256 := kC BK256 hb; clear hb hbox hg; have hnb4 := NB256_257.out; have hnc4 := NB257_256.out; have hcz5_0 : w3.cell? ⟨gb256, 0, none⟩ = some (.int .u8 a0_0) := (blk_cell BK256.out 0).trans rfl; have hcz5_1 : w3.cell? ⟨gb256, 1, none⟩ = some (.int .u8 a0_1) := (blk_cell BK256.out 1).trans rfl; have hcz5_2 : w3.cell? ⟨gb256, 2, none⟩ = some (.slice A0_2 l0_2.length c0_2) := (blk_cell BK256.out 2).trans rfl; have hfz5_0 := blk_frozen BK256.out 0; have hfz5_1 := blk_frozen BK256.out 1; have hfz5_2 := blk_frozen BK256.out 2) | ((with_reducible refine gate_dst (N := 4) rfl ?_); refine box_event ?hg (N := 4) ?hd (cs := #[.int .i64 0, .slice none 0 0]) (t := 31) ?hr ?_; (case hd => rfl); (case hg => rfl); (case hr => first | (go_simp; done) | (go_simp; rfl)); intro gb258 hg w6 hbox hb; have BK258 := Aside0.mk (hbox); have GW258 := Aside0.mk ((by rw [hg]; exact (below_size (wB2 HB.out GE256.out GE257.out)) : w.heap.size ≤ gb258)); have GE258 := Aside0.mk ((by rw [hg]; exact (below_size (wB2 HB.out GE256.out GE257.out)) : w.heap.size ≤ gb258)); replace HB := Aside0.mk (below_step (wB2 HB.out GE256.out GE257.out) hb); have NB256_258 := Aside0.mk ((by rw [hg]; exact Nat.ne_of_lt (blk_lt (g := gb256) (o := .cells #[.int .u8 a0_0, .int .u8 a0_1, .slice A0_2 l0_2.length c0_2] 24 (0, 0)) (bA BK256.out)) : gb256 ≠ gb258)); have NB258_256 := Aside0.mk ((by rw [hg]; exact Nat.ne_of_gt (blk_lt (g := gb256) (o := .cells #[.int .u8 a0_0, .int .u8 a0_1, .slice A0_2 l0_2.length c0_2] 24 (0, 0)) (bA BK256.out)) : gb258 ≠ gb256)); replace BK256 := kC BK256 hb; have NB257_258 := Aside0.mk ((by rw [hg]; exact Nat.ne_of_lt (blk_lt (g := gb257) (o := .cells #[.int .i64 0, .slice none 0 0] 31 (0, 0)) (bA BK257.out)) : gb257 ≠ gb258)); have NB258_257 := Aside0.mk ((by rw [hg]; exact Nat.ne_of_gt (blk_lt (g := gb257) (o := .cells #[.int .i64 0, .slice none 0 0] 31 (0, 0)) (bA BK257.out)) : gb258 ≠ gb257)); replace BK257 := kC BK257 hb; clear hb hbox hg; have hnb7 := NB258_256.out; have hnc7 := NB256_258.out; have hnb8 := NB258_257.out; have hnc8 := NB257_258.out; have hcz9_0 : w6.cell? ⟨gb258, 0, none⟩ = some (.int .i64 0) := (blk_cell BK258.out 0).trans rfl; have hcz9_1 : w6.cell? ⟨gb258, 1, none⟩ = some (.slice none 0 0) := (blk_cell BK258.out 1).trans rfl; have hfz9_0 := blk_frozen BK258.out 0; have hfz9_1 := blk_frozen BK258.out 1))
 go_loopg [5] k (fun kq v5 w' => ∃ (x5_1 : Int) (x259001_1 : List (S55)) (u259001 : Value), v5 = .int .i64 x5_1 ∧ Aside0 (wireloomref05_Made.l0 kq (wrap64 (Int.tmod a0_0 13)) x5_1 a0_0 a0_1 l0_2 (wrap64 (Int.tmod a0_0 13)) x259001_1 = some (r1, r2)) ∧ Aside0 (kq ≤ k) ∧ Aside0 (Kd.R k55 55 w' w.heap.size (fun _ => True) u259001 x259001_1) ∧ Aside0 (w'.heap[gb256]? = some (.cells #[.int .u8 a0_0, .int .u8 a0_1, (.slice A0_2 l0_2.length c0_2)] 24 (0, 0))) ∧ Aside0 (w'.heap[gb257]? = some (.cells #[.int .i64 0, (.slice none 0 0)] 31 (0, 0))) ∧ Aside0 (w'.heap[gb258]? = some (.cells #[.int .i64 (wrap64 (Int.tmod a0_0 13)), u259001] 31 (0, 0))) ∧ Aside0 (Below w.heap.size w w'))
 case atStart => exact ⟨(0), (([] : List (S55))), (.slice none 0 0), rS, H', ⟨Nat.le_refl _⟩, ⟨by first | exact Kd.R_nil _ _ _ _ _ | exact Kd.N_nil _ _ _ _ _ | exact Kd.V_nil _ _ _ _ _ | exact Kd.Q_nil _ _ _ _ _ | exact Kd.S_nil _ _ _ _ _⟩, ⟨by (with_reducible repeat (first | refine blk_drewN ?_ _ | refine blk_drew ?_ | refine blk_alloc ?_ _)); refine blk_far ?_ NB256_258.out _; (with_reducible repeat (first | refine blk_drewN ?_ _ | refine blk_drew ?_ | refine blk_alloc ?_ _)); refine blk_far ?_ NB256_258.out _; (with_reducible repeat (first | refine blk_drewN ?_ _ | refine blk_drew ?_ | refine blk_alloc ?_ _)); exact BK256.out⟩, ⟨by (with_reducible repeat (first | refine blk_drewN ?_ _ | refine blk_drew ?_ | refine blk_alloc ?_ _)); refine blk_far ?_ NB257_258.out _; (with_reducible repeat (first | refine blk_drewN ?_ _ | refine blk_drew ?_ | refine blk_alloc ?_ _)); refine blk_far ?_ NB257_258.out _; (with_reducible repeat (first | refine blk_drewN ?_ _ | refine blk_drew ?_ | refine blk_alloc ?_ _)); exact BK257.out⟩, ⟨by (with_reducible repeat (first | refine blk_drewN ?_ _ | refine blk_drew ?_ | refine blk_alloc ?_ _)); refine blk_put (cs := #[.int .i64 (wrap64 (Int.tmod a0_0 13)), .slice none 0 0]) ?_ 1 _ rfl; (with_reducible repeat (first | refine blk_drewN ?_ _ | refine blk_drew ?_ | refine blk_alloc ?_ _)); refine blk_put (cs := #[.int .i64 0, .slice none 0 0]) ?_ 0 _ rfl; (with_reducible repeat (first | refine blk_drewN ?_ _ | refine blk_drew ?_ | refine blk_alloc ?_ _)); exact BK258.out⟩, ⟨wB3 HB.out GE256.out GE257.out GE258.out⟩⟩
 case round =>
  clear H'
  try clear c1; try clear p2; try clear c4; try clear p6; try clear c7; try clear c8; try clear hcz5_0; try clear hcz5_1; try clear hcz5_2; try clear hcz9_0; try clear hcz9_1; try clear hfz5_0; try clear hfz5_1; try clear hfz5_2; try clear hfz9_0; try clear hfz9_1
  obtain ⟨x5_1, x259001_1, u259001, rfl, HA, HK1, HO_259001, BK256, BK257, BK258, HB⟩ := hrel
  cases gk with
  | zero => exact absurd HA.out (by simp [wireloomref05_Made.l0])
  | succ k1 =>
   have H := HA.out
   clear HA
   simp only [wireloomref05_Made.l0] at H
   have HC10 := Aside0.mk H
   clear H
   go_upto_region 4 with (fail)
   go_cut [27] (fun v27 wc => ∃ (kq : Nat) (x27_9 : Bool), v27 = .bool x27_9 ∧ Aside0 (wireloomref05_Made.j1 kq (wrap64 (Int.tmod a0_0 13)) x5_1 x27_9 a0_0 a0_1 l0_2 (wrap64 (Int.tmod a0_0 13)) x259001_1 = some (r1, r2)) ∧ Aside0 (kq ≤ k1) ∧ Aside0 (Kd.R k55 55 wc w.heap.size (fun _ => True) u259001 x259001_1) ∧ Aside0 (wc.heap[gb256]? = some (.cells #[.int .u8 a0_0, .int .u8 a0_1, (.slice A0_2 l0_2.length c0_2)] 24 (0, 0))) ∧ Aside0 (wc.heap[gb257]? = some (.cells #[.int .i64 0, (.slice none 0 0)] 31 (0, 0))) ∧ Aside0 (wc.heap[gb258]? = some (.cells #[.int .i64 (wrap64 (Int.tmod a0_0 13)), u259001] 31 (0, 0))) ∧ Aside0 (Below w.heap.size w wc))
   case first =>
    have H := HC10.out
    clear HC10
    by_cases c11 : (wrap64 (x5_1 + 1)) < (l0_2.length : Int)
    ·rw [if_pos c11] at H
     have c11b0 : decide ((wrap64 (x5_1 + 1)) < (l0_2.length : Int)) = true := decide_eq_true c11
     clear c11
     (first | rw [c11b0] | (simp only [i64_w, i32_w]; rw [c11b0]) | skip)
     by_cases c12 : x5_1 < 60
     ·rw [if_pos c12] at H
      have c12b0 : decide (x5_1 < 60) = true := decide_eq_true c12
      clear c12
      have H' := Aside0.mk H
      clear H
      have hnb13 := NB256_257.out
      have hnc13 := NB257_256.out
      have hnb14 := NB256_258.out
      have hnc14 := NB258_256.out
      have hcz15_0 : wr.cell? ⟨gb256, 0, none⟩ = some (.int .u8 a0_0) := (blk_cell BK256.out 0).trans rfl
      have hcz15_1 : wr.cell? ⟨gb256, 1, none⟩ = some (.int .u8 a0_1) := (blk_cell BK256.out 1).trans rfl
      have hcz15_2 : wr.cell? ⟨gb256, 2, none⟩ = some (.slice A0_2 l0_2.length c0_2) := (blk_cell BK256.out 2).trans rfl
      have hfz15_0 := blk_frozen BK256.out 0
      have hfz15_1 := blk_frozen BK256.out 1
      have hfz15_2 := blk_frozen BK256.out 2
      go_wp2
      go_meet
      case rel => exact ⟨_, (decide ((wrap64 (Int.tmod a0_0 13)) > 0)), rS, H', ⟨by have := HK1.out; first | omega | exact Nat.le_refl _⟩, ⟨rA HO_259001.out⟩, ⟨bA BK256.out⟩, ⟨bA BK257.out⟩, ⟨bA BK258.out⟩, ⟨wB3 HB.out GE256.out GE257.out GE258.out⟩⟩
     ·rw [if_neg c12] at H
      have c12b0 : decide (x5_1 < 60) = false := decide_eq_false c12
      clear c12
      have H' := Aside0.mk H
      clear H
      have hnb16 := NB256_257.out
      have hnc16 := NB257_256.out
      have hnb17 := NB256_258.out
      have hnc17 := NB258_256.out
      have hcz18_0 : wr.cell? ⟨gb256, 0, none⟩ = some (.int .u8 a0_0) := (blk_cell BK256.out 0).trans rfl
      have hcz18_1 : wr.cell? ⟨gb256, 1, none⟩ = some (.int .u8 a0_1) := (blk_cell BK256.out 1).trans rfl
      have hcz18_2 : wr.cell? ⟨gb256, 2, none⟩ = some (.slice A0_2 l0_2.length c0_2) := (blk_cell BK256.out 2).trans rfl
      have hfz18_0 := blk_frozen BK256.out 0
      have hfz18_1 := blk_frozen BK256.out 1
      have hfz18_2 := blk_frozen BK256.out 2
      go_wp2
      go_meet
      case rel => exact ⟨_, (false), rS, H', ⟨by have := HK1.out; first | omega | exact Nat.le_refl _⟩, ⟨rA HO_259001.out⟩, ⟨bA BK256.out⟩, ⟨bA BK257.out⟩, ⟨bA BK258.out⟩, ⟨wB3 HB.out GE256.out GE257.out GE258.out⟩⟩
    ·rw [if_neg c11] at H
     have c11b0 : decide ((wrap64 (x5_1 + 1)) < (l0_2.length : Int)) = false := decide_eq_false c11
     clear c11
     (first | rw [c11b0] | (simp only [i64_w, i32_w]; rw [c11b0]) | skip)
     have H' := Aside0.mk H
     clear H
     have hnb19 := NB256_257.out
     have hnc19 := NB257_256.out
     have hnb20 := NB256_258.out
     have hnc20 := NB258_256.out
     have hcz21_0 : wr.cell? ⟨gb256, 0, none⟩ = some (.int .u8 a0_0) := (blk_cell BK256.out 0).trans rfl
     have hcz21_1 : wr.cell? ⟨gb256, 1, none⟩ = some (.int .u8 a0_1) := (blk_cell BK256.out 1).trans rfl
     have hcz21_2 : wr.cell? ⟨gb256, 2, none⟩ = some (.slice A0_2 l0_2.length c0_2) := (blk_cell BK256.out 2).trans rfl
     have hfz21_0 := blk_frozen BK256.out 0
     have hfz21_1 := blk_frozen BK256.out 1
     have hfz21_2 := blk_frozen BK256.out 2
     go_wp2
     go_meet
     case rel => exact ⟨_, (false), rS, H', ⟨by have := HK1.out; first | omega | exact Nat.le_refl _⟩, ⟨rA HO_259001.out⟩, ⟨bA BK256.out⟩, ⟨bA BK257.out⟩, ⟨bA BK258.out⟩, ⟨wB3 HB.out GE256.out GE257.out GE258.out⟩⟩
   case rest =>
    clear HC10
    try clear c1; try clear c2; try clear p2; try clear c4; try clear p6; try clear c7; try clear c8; try clear c11; try clear c11b0; try clear c12; try clear c12b0; try clear c13; try clear c14; try clear c16; try clear c17; try clear c19; try clear c20; try clear hcz15_0; try clear hcz15_1; try clear hcz15_2; try clear hcz18_0; try clear hcz18_1; try clear hcz18_2; try clear hcz21_0; try clear hcz21_1; try clear hcz21_2; try clear hcz5_0; try clear hcz5_1; try clear hcz5_2; try clear hcz9_0; try clear hcz9_1; try clear hfz15_0; try clear hfz15_1; try clear hfz15_2; try clear hfz18_0; try clear hfz18_1; try clear hfz18_2; try clear hfz21_0; try clear hfz21_1; try clear hfz21_2
    try clear hfz5_0; try clear hfz5_1; try clear hfz5_2; try clear hfz9_0; try clear hfz9_1; try clear p2; try clear p6
    obtain ⟨kq, x27_9, rfl, HA, HJ9, HO_259001, BK256, BK257, BK258, HB⟩ := hcut
    cases kq with
    | zero => exact absurd HA.out (by simp [wireloomref05_Made.j1])
    | succ kj9 =>
     have H := HA.out
     clear HA
     simp only [wireloomref05_Made.j1] at H
     by_cases c22 : x27_9 = true
     ·subst c22
      have H1 : (if 0 ≤ x5_1 then (if x5_1 < (l0_2.length : Int) then (if (wrap64 (Int.tmod a0_0 13)) = 0 then (none) else (if 0 ≤ (wrap64 (x5_1 + 1)) then (if (wrap64 (x5_1 + 1)) < (l0_2.length : Int) then (if (Int.tmod a0_1 2) = 0 then (if (Int.tmod (wrap64 (rd l0_2 x5_1)) (wrap64 (Int.tmod a0_0 13))) = (Int.tmod (wrap64 (rd l0_2 (wrap64 (x5_1 + 1)))) (wrap64 (Int.tmod a0_0 13))) then (wireloomref05_Made.l0 kj9 (wrap64 (Int.tmod a0_0 13)) (wrap64 (x5_1 + 2)) a0_0 a0_1 l0_2 (wrap64 (Int.tmod a0_0 13)) x259001_1) else (if (Int.tmod (wrap64 (rd l0_2 x5_1)) (wrap64 (Int.tmod a0_0 13))) > (Int.tmod (wrap64 (rd l0_2 (wrap64 (x5_1 + 1)))) (wrap64 (Int.tmod a0_0 13))) then (wireloomref05_Made.j2 kj9 (wrap64 (Int.tmod a0_0 13)) x5_1 (Int.tmod (wrap64 (rd l0_2 (wrap64 (x5_1 + 1)))) (wrap64 (Int.tmod a0_0 13))) (Int.tmod (wrap64 (rd l0_2 x5_1)) (wrap64 (Int.tmod a0_0 13))) a0_0 a0_1 l0_2 (wrap64 (Int.tmod a0_0 13)) x259001_1) else (wireloomref05_Made.j2 kj9 (wrap64 (Int.tmod a0_0 13)) x5_1 (Int.tmod (wrap64 (rd l0_2 x5_1)) (wrap64 (Int.tmod a0_0 13))) (Int.tmod (wrap64 (rd l0_2 (wrap64 (x5_1 + 1)))) (wrap64 (Int.tmod a0_0 13))) a0_0 a0_1 l0_2 (wrap64 (Int.tmod a0_0 13)) x259001_1))) else (if x259001_1.length < 8796093022208 then (wireloomref05_Made.l0 kj9 (wrap64 (Int.tmod a0_0 13)) (wrap64 (x5_1 + 2)) a0_0 a0_1 l0_2 (wrap64 (Int.tmod a0_0 13)) (x259001_1 ++ [(⟨Int.tmod (wrap64 (rd l0_2 x5_1)) (wrap64 (Int.tmod a0_0 13)), Int.tmod (wrap64 (rd l0_2 (wrap64 (x5_1 + 1)))) (wrap64 (Int.tmod a0_0 13))⟩ : S55)])) else (none))) else (none)) else (none))) else (none)) else (none)) = some (r1, r2) := by rw [if_pos rfl] at H; exact H
      clear H
      have H := H1
      clear H1
      by_cases c23 : 0 ≤ x5_1
      rotate_left
      ·rw [if_neg c23] at H
       exact absurd H (by simp)
      rw [if_pos c23] at H
      have c23b0 : decide (0 ≤ x5_1) = true := decide_eq_true c23
      clear c23
      by_cases c24 : x5_1 < (l0_2.length : Int)
      rotate_left
      ·rw [if_neg c24] at H
       exact absurd H (by simp)
      rw [if_pos c24] at H
      have c24b0 : decide (x5_1 < (l0_2.length : Int)) = true := decide_eq_true c24
      clear c24
      by_cases c25 : (wrap64 (Int.tmod a0_0 13)) = 0
      ·rw [if_pos c25] at H
       exact absurd H (by simp)
      ·rw [if_neg c25] at H
       have c25b0 : ((wrap64 (Int.tmod a0_0 13)) == 0) = false := beq_eq_false_iff_ne.mpr c25
       have c25b1 : ((wrap64 (Int.tmod a0_0 13)) != 0) = true := bne_iff_ne.mpr c25
       obtain ⟨ji26, hji26⟩ : ∃ j_ : Int, (wrap64 (x5_1 + 1)) = j_ := ⟨_, rfl⟩
       replace H : (if 0 ≤ (ji26) then (if (ji26) < (l0_2.length : Int) then (if (Int.tmod a0_1 2) = 0 then (if (Int.tmod (wrap64 (rd l0_2 x5_1)) (wrap64 (Int.tmod a0_0 13))) = (Int.tmod (wrap64 (rd l0_2 (ji26))) (wrap64 (Int.tmod a0_0 13))) then (wireloomref05_Made.l0 kj9 (wrap64 (Int.tmod a0_0 13)) (wrap64 (x5_1 + 2)) a0_0 a0_1 l0_2 (wrap64 (Int.tmod a0_0 13)) x259001_1) else (if (Int.tmod (wrap64 (rd l0_2 x5_1)) (wrap64 (Int.tmod a0_0 13))) > (Int.tmod (wrap64 (rd l0_2 (ji26))) (wrap64 (Int.tmod a0_0 13))) then (wireloomref05_Made.j2 kj9 (wrap64 (Int.tmod a0_0 13)) x5_1 (Int.tmod (wrap64 (rd l0_2 (ji26))) (wrap64 (Int.tmod a0_0 13))) (Int.tmod (wrap64 (rd l0_2 x5_1)) (wrap64 (Int.tmod a0_0 13))) a0_0 a0_1 l0_2 (wrap64 (Int.tmod a0_0 13)) x259001_1) else (wireloomref05_Made.j2 kj9 (wrap64 (Int.tmod a0_0 13)) x5_1 (Int.tmod (wrap64 (rd l0_2 x5_1)) (wrap64 (Int.tmod a0_0 13))) (Int.tmod (wrap64 (rd l0_2 (ji26))) (wrap64 (Int.tmod a0_0 13))) a0_0 a0_1 l0_2 (wrap64 (Int.tmod a0_0 13)) x259001_1))) else (if x259001_1.length < 8796093022208 then (wireloomref05_Made.l0 kj9 (wrap64 (Int.tmod a0_0 13)) (wrap64 (x5_1 + 2)) a0_0 a0_1 l0_2 (wrap64 (Int.tmod a0_0 13)) (x259001_1 ++ [(⟨Int.tmod (wrap64 (rd l0_2 x5_1)) (wrap64 (Int.tmod a0_0 13)), Int.tmod (wrap64 (rd l0_2 (ji26))) (wrap64 (Int.tmod a0_0 13))⟩ : S55)])) else (none))) else (none)) else (none)) = some (r1, r2) := by first | (rw [hji26] at H; exact H) | (simp only [hji26] at H ⊢; exact H)
       have hji26w : (IntKind.i64.wrap (x5_1 + 1)) = ji26 := (i64_w _).trans hji26
       by_cases c27 : 0 ≤ (ji26)
       rotate_left
       ·rw [if_neg c27] at H
        exact absurd H (by simp)
       rw [if_pos c27] at H
       have c27b0 : decide (0 ≤ (ji26)) = true := decide_eq_true c27
       clear c27
       by_cases c28 : (ji26) < (l0_2.length : Int)
       rotate_left
       ·rw [if_neg c28] at H
        exact absurd H (by simp)
       rw [if_pos c28] at H
       have c28b0 : decide ((ji26) < (l0_2.length : Int)) = true := decide_eq_true c28
       clear c28
       by_cases c29 : (Int.tmod a0_1 2) = 0
       ·rw [if_pos c29] at H
        have c29b0 : ((Int.tmod a0_1 2) == 0) = true := beq_iff_eq.mpr c29
        have c29b1 : ((Int.tmod a0_1 2) != 0) = false := bne_eq_false_iff_eq.mpr c29
        clear c29
        by_cases c30 : (Int.tmod (wrap64 (rd l0_2 x5_1)) (wrap64 (Int.tmod a0_0 13))) = (Int.tmod (wrap64 (rd l0_2 (ji26))) (wrap64 (Int.tmod a0_0 13)))
        ·rw [if_pos c30] at H
         have c30b0 : ((Int.tmod (wrap64 (rd l0_2 x5_1)) (wrap64 (Int.tmod a0_0 13))) == (Int.tmod (wrap64 (rd l0_2 (ji26))) (wrap64 (Int.tmod a0_0 13)))) = true := beq_iff_eq.mpr c30
         have c30b1 : ((Int.tmod (wrap64 (rd l0_2 x5_1)) (wrap64 (Int.tmod a0_0 13))) != (Int.tmod (wrap64 (rd l0_2 (ji26))) (wrap64 (Int.tmod a0_0 13)))) = false := bne_eq_false_iff_eq.mpr c30
         clear c30
         have H' := Aside0.mk H
         clear H
         have hnb31 := NB256_257.out
         have hnc31 := NB257_256.out
         have hnb32 := NB256_258.out
         have hnc32 := NB258_256.out
         have hcz33_0 : wc.cell? ⟨gb256, 0, none⟩ = some (.int .u8 a0_0) := (blk_cell BK256.out 0).trans rfl
         have hcz33_1 : wc.cell? ⟨gb256, 1, none⟩ = some (.int .u8 a0_1) := (blk_cell BK256.out 1).trans rfl
         have hcz33_2 : wc.cell? ⟨gb256, 2, none⟩ = some (.slice A0_2 l0_2.length c0_2) := (blk_cell BK256.out 2).trans rfl
         have hfz33_0 := blk_frozen BK256.out 0
         have hfz33_1 := blk_frozen BK256.out 1
         have hfz33_2 := blk_frozen BK256.out 2
         have p259 : 0 ≤ (x5_1 : Int) := oD
         have q259 : x5_1 < (l0_2.length : Int) := oD
         obtain ⟨ad259, e259, hx259_0⟩ := Kd.at_int HR0_2.out x5_1 p259 q259
         cases e259
         (try (replace hx259_0 := hB HB.out hx259_0))
         replace p259 := eq_true p259
         replace q259 := eq_true q259
         have p260 : 0 ≤ ((ji26) : Int) := oD
         have q260 : (ji26) < (l0_2.length : Int) := oD
         obtain ⟨ad260, e260, hx260_0⟩ := Kd.at_int HR0_2.out (ji26) p260 q260
         obtain rfl : ad259 = ad260 := (by injection e260)
         (try (replace hx260_0 := hB HB.out hx260_0))
         replace p260 := eq_true p260
         replace q260 := eq_true q260
         go_wp2
         go_roundg kj9
         case measure => have := HK1.out; have := HJ9.out; omega
         case rel => exact ⟨(wrap64 (x5_1 + 2)), (x259001_1), (u259001), rS, H', ⟨by have := HK1.out; have := HJ9.out; omega⟩, ⟨rA HO_259001.out⟩, ⟨bA BK256.out⟩, ⟨bA BK257.out⟩, ⟨bA BK258.out⟩, ⟨wB3 HB.out GE256.out GE257.out GE258.out⟩⟩
        ·rw [if_neg c30] at H
         have c30b0 : ((Int.tmod (wrap64 (rd l0_2 x5_1)) (wrap64 (Int.tmod a0_0 13))) == (Int.tmod (wrap64 (rd l0_2 (ji26))) (wrap64 (Int.tmod a0_0 13)))) = false := beq_eq_false_iff_ne.mpr c30
         have c30b1 : ((Int.tmod (wrap64 (rd l0_2 x5_1)) (wrap64 (Int.tmod a0_0 13))) != (Int.tmod (wrap64 (rd l0_2 (ji26))) (wrap64 (Int.tmod a0_0 13)))) = true := bne_iff_ne.mpr c30
         have HC34 := Aside0.mk H
         clear H
         have hnb35 := NB256_257.out
         have hnc35 := NB257_256.out
         have hnb36 := NB256_258.out
         have hnc36 := NB258_256.out
         have hcz37_0 : wc.cell? ⟨gb256, 0, none⟩ = some (.int .u8 a0_0) := (blk_cell BK256.out 0).trans rfl
         have hcz37_1 : wc.cell? ⟨gb256, 1, none⟩ = some (.int .u8 a0_1) := (blk_cell BK256.out 1).trans rfl
         have hcz37_2 : wc.cell? ⟨gb256, 2, none⟩ = some (.slice A0_2 l0_2.length c0_2) := (blk_cell BK256.out 2).trans rfl
         have hfz37_0 := blk_frozen BK256.out 0
         have hfz37_1 := blk_frozen BK256.out 1
         have hfz37_2 := blk_frozen BK256.out 2
         have p259 : 0 ≤ (x5_1 : Int) := oD
         have q259 : x5_1 < (l0_2.length : Int) := oD
         obtain ⟨ad259, e259, hx259_0⟩ := Kd.at_int HR0_2.out x5_1 p259 q259
         cases e259
         (try (replace hx259_0 := hB HB.out hx259_0))
         replace p259 := eq_true p259
         replace q259 := eq_true q259
         have p260 : 0 ≤ ((ji26) : Int) := oD
         have q260 : (ji26) < (l0_2.length : Int) := oD
         obtain ⟨ad260, e260, hx260_0⟩ := Kd.at_int HR0_2.out (ji26) p260 q260
         obtain rfl : ad259 = ad260 := (by injection e260)
         (try (replace hx260_0 := hB HB.out hx260_0))
         replace p260 := eq_true p260
         replace q260 := eq_true q260
         go_upto_if 56 with (fail)
         go_cut [6, 7] (fun v6 v7 wc => ∃ (kq : Nat) (x6_33 : Int) (x7_33 : Int), v6 = .int .i64 x6_33 ∧ v7 = .int .i64 x7_33 ∧ Aside0 (wireloomref05_Made.j2 kq (wrap64 (Int.tmod a0_0 13)) x5_1 x6_33 x7_33 a0_0 a0_1 l0_2 (wrap64 (Int.tmod a0_0 13)) x259001_1 = some (r1, r2)) ∧ Aside0 (kq ≤ kj9) ∧ Aside0 (Kd.R k55 55 wc w.heap.size (fun _ => True) u259001 x259001_1) ∧ Aside0 (wc.heap[gb256]? = some (.cells #[.int .u8 a0_0, .int .u8 a0_1, (.slice (some ad259) l0_2.length c0_2)] 24 (0, 0))) ∧ Aside0 (wc.heap[gb257]? = some (.cells #[.int .i64 0, (.slice none 0 0)] 31 (0, 0))) ∧ Aside0 (wc.heap[gb258]? = some (.cells #[.int .i64 (wrap64 (Int.tmod a0_0 13)), u259001] 31 (0, 0))) ∧ Aside0 (Below w.heap.size w wc))
         case first =>
          have H := HC34.out
          clear HC34
          by_cases c38 : (Int.tmod (wrap64 (rd l0_2 x5_1)) (wrap64 (Int.tmod a0_0 13))) > (Int.tmod (wrap64 (rd l0_2 (ji26))) (wrap64 (Int.tmod a0_0 13)))
          ·rw [if_pos c38] at H
           have c38b0 : decide ((Int.tmod (wrap64 (rd l0_2 (ji26))) (wrap64 (Int.tmod a0_0 13))) < (Int.tmod (wrap64 (rd l0_2 x5_1)) (wrap64 (Int.tmod a0_0 13)))) = true := decide_eq_true c38
           clear c38
           (first | rw [c38b0] | (simp only [i64_w, i32_w]; rw [c38b0]) | skip)
           have H' := Aside0.mk H
           clear H
           go_wp2
           go_meet
           case rel => exact ⟨_, (Int.tmod (wrap64 (rd l0_2 (ji26))) (wrap64 (Int.tmod a0_0 13))), (Int.tmod (wrap64 (rd l0_2 x5_1)) (wrap64 (Int.tmod a0_0 13))), (by first | rfl | (simp; done) | (simp only [← hji26] <;> (first | rfl | simp)) | (simp [*]; done)), rS, H', ⟨by have := HK1.out; have := HJ9.out; first | omega | exact Nat.le_refl _⟩, ⟨rA HO_259001.out⟩, ⟨bA BK256.out⟩, ⟨bA BK257.out⟩, ⟨bA BK258.out⟩, ⟨wB3 HB.out GE256.out GE257.out GE258.out⟩⟩
          ·rw [if_neg c38] at H
           have c38b0 : decide ((Int.tmod (wrap64 (rd l0_2 (ji26))) (wrap64 (Int.tmod a0_0 13))) < (Int.tmod (wrap64 (rd l0_2 x5_1)) (wrap64 (Int.tmod a0_0 13)))) = false := decide_eq_false c38
           clear c38
           (first | rw [c38b0] | (simp only [i64_w, i32_w]; rw [c38b0]) | skip)
           have H' := Aside0.mk H
           clear H
           go_wp2
           go_meet
           case rel => exact ⟨_, (Int.tmod (wrap64 (rd l0_2 x5_1)) (wrap64 (Int.tmod a0_0 13))), (Int.tmod (wrap64 (rd l0_2 (ji26))) (wrap64 (Int.tmod a0_0 13))), rS, (by first | rfl | (simp; done) | (simp only [← hji26] <;> (first | rfl | simp)) | (simp [*]; done)), H', ⟨by have := HK1.out; have := HJ9.out; first | omega | exact Nat.le_refl _⟩, ⟨rA HO_259001.out⟩, ⟨bA BK256.out⟩, ⟨bA BK257.out⟩, ⟨bA BK258.out⟩, ⟨wB3 HB.out GE256.out GE257.out GE258.out⟩⟩
         case rest =>
          clear HC34
          try clear c1; try clear c2; try clear p2; try clear q2; try clear hx2; try clear c3; try clear c4; try clear p6; try clear c7; try clear c8; try clear c11; try clear c11b0; try clear c12; try clear c12b0; try clear c13; try clear c14; try clear c16; try clear c17; try clear c19; try clear c20; try clear c22; try clear c23; try clear c23b0; try clear c24; try clear c24b0; try clear c25; try clear c25b0; try clear c25b1; try clear p25; try clear q25; try clear hx25; try clear p26; try clear q26; try clear hx26; try clear c27; try clear c27b0; try clear c28; try clear c28b0; try clear c29; try clear c29b0
          try clear c29b1; try clear c30; try clear c30b0; try clear c30b1; try clear c31; try clear c32; try clear c35; try clear c36; try clear c38; try clear c38b0; try clear hcz15_0; try clear hcz15_1; try clear hcz15_2; try clear hcz18_0; try clear hcz18_1; try clear hcz18_2; try clear hcz21_0; try clear hcz21_1; try clear hcz21_2; try clear hcz33_0; try clear hcz33_1; try clear hcz33_2; try clear hcz37_0; try clear hcz37_1; try clear hcz37_2; try clear hcz5_0; try clear hcz5_1; try clear hcz5_2; try clear hcz9_0; try clear hcz9_1; try clear hfz15_0; try clear hfz15_1; try clear hfz15_2; try clear hfz18_0; try clear hfz18_1; try clear hfz18_2; try clear hfz21_0; try clear hfz21_1; try clear hfz21_2; try clear hfz33_0
          try clear hfz33_1; try clear hfz33_2; try clear hfz37_0; try clear hfz37_1; try clear hfz37_2; try clear hfz5_0; try clear hfz5_1; try clear hfz5_2; try clear hfz9_0; try clear hfz9_1; try clear hx259_0; try clear hx260_0; try clear p2; try clear p259; try clear p260; try clear p6; try clear q259; try clear q260
          obtain ⟨kq, x6_33, x7_33, rfl, rfl, HA, HJ33, HO_259001, BK256, BK257, BK258, HB⟩ := hcut
          cases kq with
          | zero => exact absurd HA.out (by simp [wireloomref05_Made.j2])
          | succ kj33 =>
           have H := HA.out
           clear HA
           simp only [wireloomref05_Made.j2] at H
           by_cases c39 : (Int.tmod a0_1 4) = 2
           ·rw [if_pos c39] at H
            have c39b0 : ((Int.tmod a0_1 4) == 2) = true := beq_iff_eq.mpr c39
            have c39b1 : ((Int.tmod a0_1 4) != 2) = false := bne_eq_false_iff_eq.mpr c39
            clear c39
            by_cases c40 : (wrap64 (Int.tmod a0_0 13)) = 0
            ·rw [if_pos c40] at H
             exact absurd H (by simp)
            ·rw [if_neg c40] at H
             have c40b0 : ((wrap64 (Int.tmod a0_0 13)) == 0) = false := beq_eq_false_iff_ne.mpr c40
             have c40b1 : ((wrap64 (Int.tmod a0_0 13)) != 0) = true := bne_iff_ne.mpr c40
             by_cases c41 : (Int.tmod (wrap64 (Int.tmod a0_0 13)) 5) = 0
             ·rw [if_pos c41] at H
              have c41b0 : ((Int.tmod (wrap64 (Int.tmod a0_0 13)) 5) == 0) = true := beq_iff_eq.mpr c41
              have c41b1 : ((Int.tmod (wrap64 (Int.tmod a0_0 13)) 5) != 0) = false := bne_eq_false_iff_eq.mpr c41
              clear c41
              have H' := Aside0.mk H
              clear H
              have hnb42 := NB256_257.out
              have hnc42 := NB257_256.out
              have hnb43 := NB256_258.out
              have hnc43 := NB258_256.out
              have hcz44_0 : wc.cell? ⟨gb256, 0, none⟩ = some (.int .u8 a0_0) := (blk_cell BK256.out 0).trans rfl
              have hcz44_1 : wc.cell? ⟨gb256, 1, none⟩ = some (.int .u8 a0_1) := (blk_cell BK256.out 1).trans rfl
              have hcz44_2 : wc.cell? ⟨gb256, 2, none⟩ = some (.slice (some ad259) l0_2.length c0_2) := (blk_cell BK256.out 2).trans rfl
              have hfz44_0 := blk_frozen BK256.out 0
              have hfz44_1 := blk_frozen BK256.out 1
              have hfz44_2 := blk_frozen BK256.out 2
              go_wp2
              go_roundg kj33
              case measure => have := HK1.out; have := HJ9.out; have := HJ33.out; omega
              case rel => exact ⟨(wrap64 (x5_1 + 2)), (x259001_1), (u259001), rS, H', ⟨by have := HK1.out; have := HJ9.out; have := HJ33.out; omega⟩, ⟨rA HO_259001.out⟩, ⟨bA BK256.out⟩, ⟨bA BK257.out⟩, ⟨bA BK258.out⟩, ⟨wB3 HB.out GE256.out GE257.out GE258.out⟩⟩
             ·rw [if_neg c41] at H
              have c41b0 : ((Int.tmod (wrap64 (Int.tmod a0_0 13)) 5) == 0) = false := beq_eq_false_iff_ne.mpr c41
              have c41b1 : ((Int.tmod (wrap64 (Int.tmod a0_0 13)) 5) != 0) = true := bne_iff_ne.mpr c41
              by_cases c45 : x259001_1.length < 8796093022208
              rotate_left
              ·rw [if_neg c45] at H
               exact absurd H (by simp)
              rw [if_pos c45] at H
              have LMc45 := Aside0.mk c45
              clear c45
              obtain ⟨y261, hy261⟩ : ∃ y_ : List (S55), y_ = (x259001_1 ++ [(⟨Int.tmod (wrap64 ((wrap64 (5 * x6_33)) + 3)) (wrap64 (Int.tmod a0_0 13)), Int.tmod (wrap64 ((wrap64 (5 * x7_33)) + 3)) (wrap64 (Int.tmod a0_0 13))⟩ : S55)]) := ⟨_, rfl⟩
              replace H : (wireloomref05_Made.l0 kj33 (wrap64 (Int.tmod a0_0 13)) (wrap64 (x5_1 + 2)) a0_0 a0_1 l0_2 (wrap64 (Int.tmod a0_0 13)) y261) = some (r1, r2) := by first | (rw [hy261]; with_reducible exact H) | (have H2_ := (Option.bind_some _ _).symm.trans H; rw [hy261]; with_reducible exact H2_) | (have H2_ := (Option.bind_some _ _).symm.trans H; with_reducible exact H2_) | with_reducible exact H | (rw [hy261]; exact H) | exact H
              have Ny261 := Aside0.mk hy261
              clear hy261
              have H' := Aside0.mk H
              clear H
              have hnb46 := NB256_257.out
              have hnc46 := NB257_256.out
              have hnb47 := NB256_258.out
              have hnc47 := NB258_256.out
              have hcz48_0 : wc.cell? ⟨gb256, 0, none⟩ = some (.int .u8 a0_0) := (blk_cell BK256.out 0).trans rfl
              have hcz48_1 : wc.cell? ⟨gb256, 1, none⟩ = some (.int .u8 a0_1) := (blk_cell BK256.out 1).trans rfl
              have hcz48_2 : wc.cell? ⟨gb256, 2, none⟩ = some (.slice (some ad259) l0_2.length c0_2) := (blk_cell BK256.out 2).trans rfl
              have hfz48_0 := blk_frozen BK256.out 0
              have hfz48_1 := blk_frozen BK256.out 1
              have hfz48_2 := blk_frozen BK256.out 2
              have hnb49 := NB258_257.out
              have hnc49 := NB257_258.out
              have hcz50_0 : wc.cell? ⟨gb258, 0, none⟩ = some (.int .i64 (wrap64 (Int.tmod a0_0 13))) := (blk_cell BK258.out 0).trans rfl
              have hcz50_1 : wc.cell? ⟨gb258, 1, none⟩ = some (u259001) := (blk_cell BK258.out 1).trans rfl
              have hfz50_0 := blk_frozen BK258.out 0
              have hfz50_1 := blk_frozen BK258.out 1
              go_wp2_with (first | ((with_reducible refine gate_builtin (b := .append) (xs := #[.tmp 83, .tmp 87]) rfl ?_); at_builtin; refine Kd.R_append k55 (w0 := w) w.heap.size rfl (.tmp 83) (.tmp 87) 25 55 (.agg #[(.int .i64 0), (.int .i64 0)]) 16 rfl Try.underlying25 info55 rfl (by decide) (by omega) u259001 x259001_1 (⟨Int.tmod (wrap64 ((wrap64 (5 * x6_33)) + 3)) (wrap64 (Int.tmod a0_0 13)), Int.tmod (wrap64 ((wrap64 (5 * x7_33)) + 3)) (wrap64 (Int.tmod a0_0 13))⟩ : S55) [.int .i64 (Int.tmod (wrap64 ((wrap64 (5 * x6_33)) + 3)) (wrap64 (Int.tmod a0_0 13))), .int .i64 (Int.tmod (wrap64 ((wrap64 (5 * x7_33)) + 3)) (wrap64 (Int.tmod a0_0 13)))] (fun _ => True) (fun _ => False) rfl rfl ?aP (fun _ hk => hk.elim) ?aF ?aO ?aB ?aS ?aL ?_; (case aP => exact k55_mkM _ _ _ (⟨Int.tmod (wrap64 ((wrap64 (5 * x6_33)) + 3)) (wrap64 (Int.tmod a0_0 13)), Int.tmod (wrap64 ((wrap64 (5 * x7_33)) + 3)) (wrap64 (Int.tmod a0_0 13))⟩ : S55)); (case aB => exact (wB3 HB.out GE256.out GE257.out GE258.out)); (case aF => exact (fun _ _ => trivial)); (case aO => exact (rA HO_259001.out)); (case aS => exact (below_size (wB3 HB.out GE256.out GE257.out GE258.out))); (case aL => have := LMc45.out; omega); intro v262 w51 ho hb hg hat; rw [← Ny261.out] at ho; replace BK256 := Aside0.mk (blk_grown (g := gb256) (o := .cells #[.int .u8 a0_0, .int .u8 a0_1, .slice (some ad259) l0_2.length c0_2] 24 (0, 0)) (bA BK256.out) hg (Kd.R_ne HO_259001.out BK256.out (by decide))); replace BK257 := Aside0.mk (blk_grown (g := gb257) (o := .cells #[.int .i64 0, .slice none 0 0] 31 (0, 0)) (bA BK257.out) hg (Kd.R_ne HO_259001.out BK257.out (by decide))); replace BK258 := Aside0.mk (blk_grown (g := gb258) (o := .cells #[.int .i64 (wrap64 (Int.tmod a0_0 13)), u259001] 31 (0, 0)) (bA BK258.out) hg (Kd.R_ne HO_259001.out BK258.out (by decide))); replace HB := Aside0.mk (hb); have HO263 := Aside0.mk (ho); clear HO_259001; clear ho hb hg hat; obtain ⟨Ao52, co52, eo52⟩ := Kd.R_slice HO263.out; subst eo52; have hcz53_0 : w51.cell? ⟨gb258, 0, none⟩ = some (.int .i64 (wrap64 (Int.tmod a0_0 13))) := (blk_cell BK258.out 0).trans rfl; have hcz53_1 : w51.cell? ⟨gb258, 1, none⟩ = some (u259001) := (blk_cell BK258.out 1).trans rfl; have hfz53_0 := blk_frozen BK258.out 0; have hfz53_1 := blk_frozen BK258.out 1))
              go_roundg kj33
              case measure => have := HK1.out; have := HJ9.out; have := HJ33.out; omega
              case rel => exact ⟨(wrap64 (x5_1 + 2)), (y261), (.slice Ao52 y261.length co52), rS, H', ⟨by have := HK1.out; have := HJ9.out; have := HJ33.out; omega⟩, ⟨by (with_reducible repeat (first | apply Kd.R_alloc | apply Kd.R_drewN | apply Kd.R_drew)); exact Kd.R_mono (Kd.R_far (p := ⟨gb258, 1, none⟩) (Kd.R_types HO263.out BK258.out (by decide)) (fun _ hk => hk.2) (.slice Ao52 y261.length co52)) (fun _ hk => trivial)⟩, ⟨by (with_reducible repeat (first | refine blk_drewN ?_ _ | refine blk_drew ?_ | refine blk_alloc ?_ _)); refine blk_far ?_ NB256_258.out _; (with_reducible repeat (first | refine blk_drewN ?_ _ | refine blk_drew ?_ | refine blk_alloc ?_ _)); exact BK256.out⟩, ⟨by (with_reducible repeat (first | refine blk_drewN ?_ _ | refine blk_drew ?_ | refine blk_alloc ?_ _)); refine blk_far ?_ NB257_258.out _; (with_reducible repeat (first | refine blk_drewN ?_ _ | refine blk_drew ?_ | refine blk_alloc ?_ _)); exact BK257.out⟩, ⟨by (with_reducible repeat (first | refine blk_drewN ?_ _ | refine blk_drew ?_ | refine blk_alloc ?_ _)); refine blk_put (cs := #[.int .i64 (wrap64 (Int.tmod a0_0 13)), u259001]) ?_ 1 _ rfl; (with_reducible repeat (first | refine blk_drewN ?_ _ | refine blk_drew ?_ | refine blk_alloc ?_ _)); exact BK258.out⟩, ⟨wB3 HB.out GE256.out GE257.out GE258.out⟩⟩
           ·rw [if_neg c39] at H
            have c39b0 : ((Int.tmod a0_1 4) == 2) = false := beq_eq_false_iff_ne.mpr c39
            have c39b1 : ((Int.tmod a0_1 4) != 2) = true := bne_iff_ne.mpr c39
            by_cases c54 : (Int.tmod (wrap64 (Int.tmod a0_0 13)) 5) = 0
            ·rw [if_pos c54] at H
             have c54b0 : ((Int.tmod (wrap64 (Int.tmod a0_0 13)) 5) == 0) = true := beq_iff_eq.mpr c54
             have c54b1 : ((Int.tmod (wrap64 (Int.tmod a0_0 13)) 5) != 0) = false := bne_eq_false_iff_eq.mpr c54
             clear c54
             by_cases c55 : x259001_1.length < 8796093022208
             rotate_left
             ·rw [if_neg c55] at H
              exact absurd H (by simp)
             rw [if_pos c55] at H
             have LMc55 := Aside0.mk c55
             clear c55
             obtain ⟨y264, hy264⟩ : ∃ y_ : List (S55), y_ = (x259001_1 ++ [(⟨x6_33, x7_33⟩ : S55)]) := ⟨_, rfl⟩
             replace H : (wireloomref05_Made.l0 kj33 (wrap64 (Int.tmod a0_0 13)) (wrap64 (x5_1 + 2)) a0_0 a0_1 l0_2 (wrap64 (Int.tmod a0_0 13)) y264) = some (r1, r2) := by first | (rw [hy264]; with_reducible exact H) | (have H2_ := (Option.bind_some _ _).symm.trans H; rw [hy264]; with_reducible exact H2_) | (have H2_ := (Option.bind_some _ _).symm.trans H; with_reducible exact H2_) | with_reducible exact H | (rw [hy264]; exact H) | exact H
             have Ny264 := Aside0.mk hy264
             clear hy264
             have H' := Aside0.mk H
             clear H
             have hnb56 := NB256_257.out
             have hnc56 := NB257_256.out
             have hnb57 := NB256_258.out
             have hnc57 := NB258_256.out
             have hcz58_0 : wc.cell? ⟨gb256, 0, none⟩ = some (.int .u8 a0_0) := (blk_cell BK256.out 0).trans rfl
             have hcz58_1 : wc.cell? ⟨gb256, 1, none⟩ = some (.int .u8 a0_1) := (blk_cell BK256.out 1).trans rfl
             have hcz58_2 : wc.cell? ⟨gb256, 2, none⟩ = some (.slice (some ad259) l0_2.length c0_2) := (blk_cell BK256.out 2).trans rfl
             have hfz58_0 := blk_frozen BK256.out 0
             have hfz58_1 := blk_frozen BK256.out 1
             have hfz58_2 := blk_frozen BK256.out 2
             have hnb59 := NB258_257.out
             have hnc59 := NB257_258.out
             have hcz60_0 : wc.cell? ⟨gb258, 0, none⟩ = some (.int .i64 (wrap64 (Int.tmod a0_0 13))) := (blk_cell BK258.out 0).trans rfl
             have hcz60_1 : wc.cell? ⟨gb258, 1, none⟩ = some (u259001) := (blk_cell BK258.out 1).trans rfl
             have hfz60_0 := blk_frozen BK258.out 0
             have hfz60_1 := blk_frozen BK258.out 1
             go_wp2_with (first | ((with_reducible refine gate_builtin (b := .append) (xs := #[.tmp 83, .tmp 87]) rfl ?_); at_builtin; refine Kd.R_append k55 (w0 := w) w.heap.size rfl (.tmp 83) (.tmp 87) 25 55 (.agg #[(.int .i64 0), (.int .i64 0)]) 16 rfl Try.underlying25 info55 rfl (by decide) (by omega) u259001 x259001_1 (⟨x6_33, x7_33⟩ : S55) [.int .i64 x6_33, .int .i64 x7_33] (fun _ => True) (fun _ => False) rfl rfl ?aP (fun _ hk => hk.elim) ?aF ?aO ?aB ?aS ?aL ?_; (case aP => exact k55_mkM _ _ _ (⟨x6_33, x7_33⟩ : S55)); (case aB => exact (wB3 HB.out GE256.out GE257.out GE258.out)); (case aF => exact (fun _ _ => trivial)); (case aO => exact (rA HO_259001.out)); (case aS => exact (below_size (wB3 HB.out GE256.out GE257.out GE258.out))); (case aL => have := LMc55.out; omega); intro v265 w61 ho hb hg hat; rw [← Ny264.out] at ho; replace BK256 := Aside0.mk (blk_grown (g := gb256) (o := .cells #[.int .u8 a0_0, .int .u8 a0_1, .slice (some ad259) l0_2.length c0_2] 24 (0, 0)) (bA BK256.out) hg (Kd.R_ne HO_259001.out BK256.out (by decide))); replace BK257 := Aside0.mk (blk_grown (g := gb257) (o := .cells #[.int .i64 0, .slice none 0 0] 31 (0, 0)) (bA BK257.out) hg (Kd.R_ne HO_259001.out BK257.out (by decide))); replace BK258 := Aside0.mk (blk_grown (g := gb258) (o := .cells #[.int .i64 (wrap64 (Int.tmod a0_0 13)), u259001] 31 (0, 0)) (bA BK258.out) hg (Kd.R_ne HO_259001.out BK258.out (by decide))); replace HB := Aside0.mk (hb); have HO266 := Aside0.mk (ho); clear HO_259001; clear ho hb hg hat; obtain ⟨Ao62, co62, eo62⟩ := Kd.R_slice HO266.out; subst eo62; have hcz63_0 : w61.cell? ⟨gb258, 0, none⟩ = some (.int .i64 (wrap64 (Int.tmod a0_0 13))) := (blk_cell BK258.out 0).trans rfl; have hcz63_1 : w61.cell? ⟨gb258, 1, none⟩ = some (u259001) := (blk_cell BK258.out 1).trans rfl; have hfz63_0 := blk_frozen BK258.out 0; have hfz63_1 := blk_frozen BK258.out 1))
             go_roundg kj33
             case measure => have := HK1.out; have := HJ9.out; have := HJ33.out; omega
             case rel => exact ⟨(wrap64 (x5_1 + 2)), (y264), (.slice Ao62 y264.length co62), rS, H', ⟨by have := HK1.out; have := HJ9.out; have := HJ33.out; omega⟩, ⟨by (with_reducible repeat (first | apply Kd.R_alloc | apply Kd.R_drewN | apply Kd.R_drew)); exact Kd.R_mono (Kd.R_far (p := ⟨gb258, 1, none⟩) (Kd.R_types HO266.out BK258.out (by decide)) (fun _ hk => hk.2) (.slice Ao62 y264.length co62)) (fun _ hk => trivial)⟩, ⟨by (with_reducible repeat (first | refine blk_drewN ?_ _ | refine blk_drew ?_ | refine blk_alloc ?_ _)); refine blk_far ?_ NB256_258.out _; (with_reducible repeat (first | refine blk_drewN ?_ _ | refine blk_drew ?_ | refine blk_alloc ?_ _)); exact BK256.out⟩, ⟨by (with_reducible repeat (first | refine blk_drewN ?_ _ | refine blk_drew ?_ | refine blk_alloc ?_ _)); refine blk_far ?_ NB257_258.out _; (with_reducible repeat (first | refine blk_drewN ?_ _ | refine blk_drew ?_ | refine blk_alloc ?_ _)); exact BK257.out⟩, ⟨by (with_reducible repeat (first | refine blk_drewN ?_ _ | refine blk_drew ?_ | refine blk_alloc ?_ _)); refine blk_put (cs := #[.int .i64 (wrap64 (Int.tmod a0_0 13)), u259001]) ?_ 1 _ rfl; (with_reducible repeat (first | refine blk_drewN ?_ _ | refine blk_drew ?_ | refine blk_alloc ?_ _)); exact BK258.out⟩, ⟨wB3 HB.out GE256.out GE257.out GE258.out⟩⟩
            ·rw [if_neg c54] at H
             have c54b0 : ((Int.tmod (wrap64 (Int.tmod a0_0 13)) 5) == 0) = false := beq_eq_false_iff_ne.mpr c54
             have c54b1 : ((Int.tmod (wrap64 (Int.tmod a0_0 13)) 5) != 0) = true := bne_iff_ne.mpr c54
             by_cases c64 : x259001_1.length < 8796093022208
             rotate_left
             ·rw [if_neg c64] at H
              exact absurd H (by simp)
             rw [if_pos c64] at H
             have LMc64 := Aside0.mk c64
             clear c64
             obtain ⟨y267, hy267⟩ : ∃ y_ : List (S55), y_ = (x259001_1 ++ [(⟨x6_33, x7_33⟩ : S55)]) := ⟨_, rfl⟩
             replace H : (wireloomref05_Made.l0 kj33 (wrap64 (Int.tmod a0_0 13)) (wrap64 (x5_1 + 2)) a0_0 a0_1 l0_2 (wrap64 (Int.tmod a0_0 13)) y267) = some (r1, r2) := by first | (rw [hy267]; with_reducible exact H) | (have H2_ := (Option.bind_some _ _).symm.trans H; rw [hy267]; with_reducible exact H2_) | (have H2_ := (Option.bind_some _ _).symm.trans H; with_reducible exact H2_) | with_reducible exact H | (rw [hy267]; exact H) | exact H
             have Ny267 := Aside0.mk hy267
             clear hy267
             have H' := Aside0.mk H
             clear H
             have hnb65 := NB256_257.out
             have hnc65 := NB257_256.out
             have hnb66 := NB256_258.out
             have hnc66 := NB258_256.out
             have hcz67_0 : wc.cell? ⟨gb256, 0, none⟩ = some (.int .u8 a0_0) := (blk_cell BK256.out 0).trans rfl
             have hcz67_1 : wc.cell? ⟨gb256, 1, none⟩ = some (.int .u8 a0_1) := (blk_cell BK256.out 1).trans rfl
             have hcz67_2 : wc.cell? ⟨gb256, 2, none⟩ = some (.slice (some ad259) l0_2.length c0_2) := (blk_cell BK256.out 2).trans rfl
             have hfz67_0 := blk_frozen BK256.out 0
             have hfz67_1 := blk_frozen BK256.out 1
             have hfz67_2 := blk_frozen BK256.out 2
             have hnb68 := NB258_257.out
             have hnc68 := NB257_258.out
             have hcz69_0 : wc.cell? ⟨gb258, 0, none⟩ = some (.int .i64 (wrap64 (Int.tmod a0_0 13))) := (blk_cell BK258.out 0).trans rfl
             have hcz69_1 : wc.cell? ⟨gb258, 1, none⟩ = some (u259001) := (blk_cell BK258.out 1).trans rfl
             have hfz69_0 := blk_frozen BK258.out 0
             have hfz69_1 := blk_frozen BK258.out 1
             go_wp2_with (first | ((with_reducible refine gate_builtin (b := .append) (xs := #[.tmp 83, .tmp 87]) rfl ?_); at_builtin; refine Kd.R_append k55 (w0 := w) w.heap.size rfl (.tmp 83) (.tmp 87) 25 55 (.agg #[(.int .i64 0), (.int .i64 0)]) 16 rfl Try.underlying25 info55 rfl (by decide) (by omega) u259001 x259001_1 (⟨x6_33, x7_33⟩ : S55) [.int .i64 x6_33, .int .i64 x7_33] (fun _ => True) (fun _ => False) rfl rfl ?aP (fun _ hk => hk.elim) ?aF ?aO ?aB ?aS ?aL ?_; (case aP => exact k55_mkM _ _ _ (⟨x6_33, x7_33⟩ : S55)); (case aB => exact (wB3 HB.out GE256.out GE257.out GE258.out)); (case aF => exact (fun _ _ => trivial)); (case aO => exact (rA HO_259001.out)); (case aS => exact (below_size (wB3 HB.out GE256.out GE257.out GE258.out))); (case aL => have := LMc64.out; omega); intro v268 w70 ho hb hg hat; rw [← Ny267.out] at ho; replace BK256 := Aside0.mk (blk_grown (g := gb256) (o := .cells #[.int .u8 a0_0, .int .u8 a0_1, .slice (some ad259) l0_2.length c0_2] 24 (0, 0)) (bA BK256.out) hg (Kd.R_ne HO_259001.out BK256.out (by decide))); replace BK257 := Aside0.mk (blk_grown (g := gb257) (o := .cells #[.int .i64 0, .slice none 0 0] 31 (0, 0)) (bA BK257.out) hg (Kd.R_ne HO_259001.out BK257.out (by decide))); replace BK258 := Aside0.mk (blk_grown (g := gb258) (o := .cells #[.int .i64 (wrap64 (Int.tmod a0_0 13)), u259001] 31 (0, 0)) (bA BK258.out) hg (Kd.R_ne HO_259001.out BK258.out (by decide))); replace HB := Aside0.mk (hb); have HO269 := Aside0.mk (ho); clear HO_259001; clear ho hb hg hat; obtain ⟨Ao71, co71, eo71⟩ := Kd.R_slice HO269.out; subst eo71; have hcz72_0 : w70.cell? ⟨gb258, 0, none⟩ = some (.int .i64 (wrap64 (Int.tmod a0_0 13))) := (blk_cell BK258.out 0).trans rfl; have hcz72_1 : w70.cell? ⟨gb258, 1, none⟩ = some (u259001) := (blk_cell BK258.out 1).trans rfl; have hfz72_0 := blk_frozen BK258.out 0; have hfz72_1 := blk_frozen BK258.out 1))
             go_roundg kj33
             case measure => have := HK1.out; have := HJ9.out; have := HJ33.out; omega
             case rel => exact ⟨(wrap64 (x5_1 + 2)), (y267), (.slice Ao71 y267.length co71), rS, H', ⟨by have := HK1.out; have := HJ9.out; have := HJ33.out; omega⟩, ⟨by (with_reducible repeat (first | apply Kd.R_alloc | apply Kd.R_drewN | apply Kd.R_drew)); exact Kd.R_mono (Kd.R_far (p := ⟨gb258, 1, none⟩) (Kd.R_types HO269.out BK258.out (by decide)) (fun _ hk => hk.2) (.slice Ao71 y267.length co71)) (fun _ hk => trivial)⟩, ⟨by (with_reducible repeat (first | refine blk_drewN ?_ _ | refine blk_drew ?_ | refine blk_alloc ?_ _)); refine blk_far ?_ NB256_258.out _; (with_reducible repeat (first | refine blk_drewN ?_ _ | refine blk_drew ?_ | refine blk_alloc ?_ _)); exact BK256.out⟩, ⟨by (with_reducible repeat (first | refine blk_drewN ?_ _ | refine blk_drew ?_ | refine blk_alloc ?_ _)); refine blk_far ?_ NB257_258.out _; (with_reducible repeat (first | refine blk_drewN ?_ _ | refine blk_drew ?_ | refine blk_alloc ?_ _)); exact BK257.out⟩, ⟨by (with_reducible repeat (first | refine blk_drewN ?_ _ | refine blk_drew ?_ | refine blk_alloc ?_ _)); refine blk_put (cs := #[.int .i64 (wrap64 (Int.tmod a0_0 13)), u259001]) ?_ 1 _ rfl; (with_reducible repeat (first | refine blk_drewN ?_ _ | refine blk_drew ?_ | refine blk_alloc ?_ _)); exact BK258.out⟩, ⟨wB3 HB.out GE256.out GE257.out GE258.out⟩⟩
       ·rw [if_neg c29] at H
        have c29b0 : ((Int.tmod a0_1 2) == 0) = false := beq_eq_false_iff_ne.mpr c29
        have c29b1 : ((Int.tmod a0_1 2) != 0) = true := bne_iff_ne.mpr c29
        by_cases c73 : x259001_1.length < 8796093022208
        rotate_left
        ·rw [if_neg c73] at H
         exact absurd H (by simp)
        rw [if_pos c73] at H
        have LMc73 := Aside0.mk c73
        clear c73
        obtain ⟨y270, hy270⟩ : ∃ y_ : List (S55), y_ = (x259001_1 ++ [(⟨Int.tmod (wrap64 (rd l0_2 x5_1)) (wrap64 (Int.tmod a0_0 13)), Int.tmod (wrap64 (rd l0_2 (ji26))) (wrap64 (Int.tmod a0_0 13))⟩ : S55)]) := ⟨_, rfl⟩
        replace H : (wireloomref05_Made.l0 kj9 (wrap64 (Int.tmod a0_0 13)) (wrap64 (x5_1 + 2)) a0_0 a0_1 l0_2 (wrap64 (Int.tmod a0_0 13)) y270) = some (r1, r2) := by first | (rw [hy270]; with_reducible exact H) | (have H2_ := (Option.bind_some _ _).symm.trans H; rw [hy270]; with_reducible exact H2_) | (have H2_ := (Option.bind_some _ _).symm.trans H; with_reducible exact H2_) | with_reducible exact H | (rw [hy270]; exact H) | exact H
        have Ny270 := Aside0.mk hy270
        clear hy270
        have H' := Aside0.mk H
        clear H
        have hnb74 := NB256_257.out
        have hnc74 := NB257_256.out
        have hnb75 := NB256_258.out
        have hnc75 := NB258_256.out
        have hcz76_0 : wc.cell? ⟨gb256, 0, none⟩ = some (.int .u8 a0_0) := (blk_cell BK256.out 0).trans rfl
        have hcz76_1 : wc.cell? ⟨gb256, 1, none⟩ = some (.int .u8 a0_1) := (blk_cell BK256.out 1).trans rfl
        have hcz76_2 : wc.cell? ⟨gb256, 2, none⟩ = some (.slice A0_2 l0_2.length c0_2) := (blk_cell BK256.out 2).trans rfl
        have hfz76_0 := blk_frozen BK256.out 0
        have hfz76_1 := blk_frozen BK256.out 1
        have hfz76_2 := blk_frozen BK256.out 2
        have p259 : 0 ≤ (x5_1 : Int) := oD
        have q259 : x5_1 < (l0_2.length : Int) := oD
        obtain ⟨ad259, e259, hx259_0⟩ := Kd.at_int HR0_2.out x5_1 p259 q259
        cases e259
        (try (replace hx259_0 := hB HB.out hx259_0))
        replace p259 := eq_true p259
        replace q259 := eq_true q259
        have p260 : 0 ≤ ((ji26) : Int) := oD
        have q260 : (ji26) < (l0_2.length : Int) := oD
        obtain ⟨ad260, e260, hx260_0⟩ := Kd.at_int HR0_2.out (ji26) p260 q260
        obtain rfl : ad259 = ad260 := (by injection e260)
        (try (replace hx260_0 := hB HB.out hx260_0))
        replace p260 := eq_true p260
        replace q260 := eq_true q260
        have hnb77 := NB258_257.out
        have hnc77 := NB257_258.out
        have hcz78_0 : wc.cell? ⟨gb258, 0, none⟩ = some (.int .i64 (wrap64 (Int.tmod a0_0 13))) := (blk_cell BK258.out 0).trans rfl
        have hcz78_1 : wc.cell? ⟨gb258, 1, none⟩ = some (u259001) := (blk_cell BK258.out 1).trans rfl
        have hfz78_0 := blk_frozen BK258.out 0
        have hfz78_1 := blk_frozen BK258.out 1
        go_wp2_with (first | ((with_reducible refine gate_builtin (b := .append) (xs := #[.tmp 83, .tmp 87]) rfl ?_); at_builtin; refine Kd.R_append k55 (w0 := w) w.heap.size rfl (.tmp 83) (.tmp 87) 25 55 (.agg #[(.int .i64 0), (.int .i64 0)]) 16 rfl Try.underlying25 info55 rfl (by decide) (by omega) u259001 x259001_1 (⟨Int.tmod (wrap64 (rd l0_2 x5_1)) (wrap64 (Int.tmod a0_0 13)), Int.tmod (wrap64 (rd l0_2 (ji26))) (wrap64 (Int.tmod a0_0 13))⟩ : S55) [.int .i64 (Int.tmod (wrap64 (rd l0_2 x5_1)) (wrap64 (Int.tmod a0_0 13))), .int .i64 (Int.tmod (wrap64 (rd l0_2 (ji26))) (wrap64 (Int.tmod a0_0 13)))] (fun _ => True) (fun _ => False) rfl rfl ?aP (fun _ hk => hk.elim) ?aF ?aO ?aB ?aS ?aL ?_; (case aP => exact k55_mkM _ _ _ (⟨Int.tmod (wrap64 (rd l0_2 x5_1)) (wrap64 (Int.tmod a0_0 13)), Int.tmod (wrap64 (rd l0_2 (ji26))) (wrap64 (Int.tmod a0_0 13))⟩ : S55)); (case aB => exact (wB3 HB.out GE256.out GE257.out GE258.out)); (case aF => exact (fun _ _ => trivial)); (case aO => exact (rA HO_259001.out)); (case aS => exact (below_size (wB3 HB.out GE256.out GE257.out GE258.out))); (case aL => have := LMc73.out; omega); intro v271 w79 ho hb hg hat; rw [← Ny270.out] at ho; replace BK256 := Aside0.mk (blk_grown (g := gb256) (o := .cells #[.int .u8 a0_0, .int .u8 a0_1, .slice (some ad259) l0_2.length c0_2] 24 (0, 0)) (bA BK256.out) hg (Kd.R_ne HO_259001.out BK256.out (by decide))); replace BK257 := Aside0.mk (blk_grown (g := gb257) (o := .cells #[.int .i64 0, .slice none 0 0] 31 (0, 0)) (bA BK257.out) hg (Kd.R_ne HO_259001.out BK257.out (by decide))); replace BK258 := Aside0.mk (blk_grown (g := gb258) (o := .cells #[.int .i64 (wrap64 (Int.tmod a0_0 13)), u259001] 31 (0, 0)) (bA BK258.out) hg (Kd.R_ne HO_259001.out BK258.out (by decide))); replace HB := Aside0.mk (hb); have HO272 := Aside0.mk (ho); clear HO_259001; clear ho hb hg hat; obtain ⟨Ao80, co80, eo80⟩ := Kd.R_slice HO272.out; subst eo80; have hcz81_0 : w79.cell? ⟨gb258, 0, none⟩ = some (.int .i64 (wrap64 (Int.tmod a0_0 13))) := (blk_cell BK258.out 0).trans rfl; have hcz81_1 : w79.cell? ⟨gb258, 1, none⟩ = some (u259001) := (blk_cell BK258.out 1).trans rfl; have hfz81_0 := blk_frozen BK258.out 0; have hfz81_1 := blk_frozen BK258.out 1))
        go_roundg kj9
        case measure => have := HK1.out; have := HJ9.out; omega
        case rel => exact ⟨(wrap64 (x5_1 + 2)), (y270), (.slice Ao80 y270.length co80), rS, H', ⟨by have := HK1.out; have := HJ9.out; omega⟩, ⟨by (with_reducible repeat (first | apply Kd.R_alloc | apply Kd.R_drewN | apply Kd.R_drew)); exact Kd.R_mono (Kd.R_far (p := ⟨gb258, 1, none⟩) (Kd.R_types HO272.out BK258.out (by decide)) (fun _ hk => hk.2) (.slice Ao80 y270.length co80)) (fun _ hk => trivial)⟩, ⟨by (with_reducible repeat (first | refine blk_drewN ?_ _ | refine blk_drew ?_ | refine blk_alloc ?_ _)); refine blk_far ?_ NB256_258.out _; (with_reducible repeat (first | refine blk_drewN ?_ _ | refine blk_drew ?_ | refine blk_alloc ?_ _)); exact BK256.out⟩, ⟨by (with_reducible repeat (first | refine blk_drewN ?_ _ | refine blk_drew ?_ | refine blk_alloc ?_ _)); refine blk_far ?_ NB257_258.out _; (with_reducible repeat (first | refine blk_drewN ?_ _ | refine blk_drew ?_ | refine blk_alloc ?_ _)); exact BK257.out⟩, ⟨by (with_reducible repeat (first | refine blk_drewN ?_ _ | refine blk_drew ?_ | refine blk_alloc ?_ _)); refine blk_put (cs := #[.int .i64 (wrap64 (Int.tmod a0_0 13)), u259001]) ?_ 1 _ rfl; (with_reducible repeat (first | refine blk_drewN ?_ _ | refine blk_drew ?_ | refine blk_alloc ?_ _)); exact BK258.out⟩, ⟨wB3 HB.out GE256.out GE257.out GE258.out⟩⟩
     ·replace c22 := Bool.eq_false_iff.mpr c22
      subst c22
      have H1 : (some ((wrap64 (Int.tmod a0_0 13)), x259001_1)) = some (r1, r2) := by rw [if_neg (show ¬ (false = true) by decide)] at H; exact H
      clear H
      have H := H1
      clear H1
      simp only [Option.some.injEq, Prod.mk.injEq] at H
      obtain ⟨rfl, rfl⟩ := H
      have hnb82 := NB258_256.out
      have hnc82 := NB256_258.out
      have hnb83 := NB258_257.out
      have hnc83 := NB257_258.out
      have hcz84_0 : wc.cell? ⟨gb258, 0, none⟩ = some (.int .i64 (wrap64 (Int.tmod a0_0 13))) := (blk_cell BK258.out 0).trans rfl
      have hcz84_1 : wc.cell? ⟨gb258, 1, none⟩ = some (u259001) := (blk_cell BK258.out 1).trans rfl
      have hfz84_0 := blk_frozen BK258.out 0
      have hfz84_1 := blk_frozen BK258.out 1
      have hnb85 := NB257_256.out
      have hnc85 := NB256_257.out
      have hcz86_0 : wc.cell? ⟨gb257, 0, none⟩ = some (.int .i64 0) := (blk_cell BK257.out 0).trans rfl
      have hcz86_1 : wc.cell? ⟨gb257, 1, none⟩ = some (.slice none 0 0) := (blk_cell BK257.out 1).trans rfl
      have hfz86_0 := blk_frozen BK257.out 0
      have hfz86_1 := blk_frozen BK257.out 1
      obtain ⟨Ao87, co87, eo87⟩ := Kd.R_slice HO_259001.out
      subst eo87
      go_wp2
      refine bodyPost_ret (results_cell_row rfl _ _ gb257 31 #[.int .i64 (wrap64 (Int.tmod a0_0 13)), .slice Ao87 x259001_1.length co87] (0, 0) _ rfl (by (with_reducible repeat (first | refine blk_drewN ?_ _ | refine blk_drew ?_ | refine blk_alloc ?_ _)); refine blk_put (cs := #[.int .i64 (wrap64 (Int.tmod a0_0 13)), .slice none 0 0]) ?_ 1 _ rfl; (with_reducible repeat (first | refine blk_drewN ?_ _ | refine blk_drew ?_ | refine blk_alloc ?_ _)); refine blk_put (cs := #[.int .i64 0, .slice none 0 0]) ?_ 0 _ rfl; (with_reducible repeat (first | refine blk_drewN ?_ _ | refine blk_drew ?_ | refine blk_alloc ?_ _)); exact BK257.out) Try.underlying31 rfl (by kernel_rfl)) rfl ?_
      exact ⟨_, eS, by (with_reducible repeat (first | apply Kd.R_alloc | apply Kd.R_drewN | apply Kd.R_drew)); exact Kd.R_mono (Kd.R_far (p := ⟨gb257, 1, none⟩) (Kd.R_far (p := ⟨gb257, 0, none⟩) (Kd.R_types HO_259001.out BK257.out (by decide)) (fun _ hk => hk.2) (.int .i64 (wrap64 (Int.tmod a0_0 13)))) (fun _ hk => hk.2) (.slice Ao87 x259001_1.length co87)) (fun _ hk => trivial), by repeat (first | (with_reducible first | exact HB.out | apply below_alloc | apply pw_below_drewN | apply below_drew1 | refine below_set ?_ GE256.out | refine below_set ?_ GE257.out | refine below_set ?_ GE258.out) | exact HB.out)⟩
end Go.Proofs.Ytlldjinejckbaaa.PD

end
section
namespace Go.Proofs.Ytlldjinejckbaaa.PD
open Go.RowKit Go.Proofs.YtlldjinejckbaaaW.PrintWords Go.Proofs.YtlldjinejckbaaaW.PrintLast Go.Proofs.YtlldjinejckbaaaW.PrintMore
attribute [local go_sem] max2_int min2_int max_two min_two max_three min_three max_four min_four
set_option linter.unusedVariables false
set_option linter.unusedSimpArgs false
mutual
def wireloomref05_Valid.j0 : Nat → Int → List (S55) → Bool → Option (Bool)
 | 0, _, _, _ => none
 | k + 1, x0, x1, x16 => if x16 = true then (some false) else (wireloomref05_Valid.l0 k x0 x1 0)
def wireloomref05_Valid.l0 : Nat → Int → List (S55) → Int → Option (Bool)
 | 0, _, _, _ => none
 | k + 1, x0, x1, x5 => if x5 < (x1.length : Int) then (if 0 ≤ x5 then (if ((rd_T55 x1 x5).f0) < 0 then (some false) else (if ((rd_T55 x1 x5).f0) ≥ x0 then (some false) else (if ((rd_T55 x1 x5).f1) < 0 then (some false) else (if ((rd_T55 x1 x5).f1) ≥ x0 then (some false) else (wireloomref05_Valid.l0 k x0 x1 (wrap64 (x5 + 1))))))) else (none)) else (some true)
end
def wireloomref05_Valid.f (k : Nat) (a0 : Int) (l1 : List (S55)) : Option (Bool) := if a0 < 0 then (wireloomref05_Valid.j0 k a0 l1 true) else (if a0 > 200 then (wireloomref05_Valid.j0 k a0 l1 true) else (wireloomref05_Valid.j0 k a0 l1 (decide ((l1.length : Int) > 2000))))
set_option maxHeartbeats 8000000 in
set_option maxRecDepth 100000 in
theorem wireloomref05_Valid.calls (k : Nat) (a0 : Int) (A1 : Option Addr) (c1 : Nat) (l1 : List (S55)) (r : Bool) (w : World) (hr1 : Kd.C k55 w A1 l1.length l1) (hc1 : l1.length ≤ c1) (h : wireloomref05_Valid.f k a0 l1 = some r) :
  Calls Try.prog 13 #[.int .i64 a0, .slice A1 l1.length c1] w fun e w' => e = .returned (.bool r) ∧ Drawn0 w w' := by
 have HR1 := Aside0.mk hr1
 have HC1 := Aside0.mk hc1
 clear hr1 hc1
 have H : (if a0 < 0 then (wireloomref05_Valid.j0 k a0 l1 true) else (if a0 > 200 then (wireloomref05_Valid.j0 k a0 l1 true) else (wireloomref05_Valid.j0 k a0 l1 (decide ((l1.length : Int) > 2000))))) = some r := h
 clear h
 have HC3 := Aside0.mk H
 clear H
 go_enter Try.func13, Try.ntmps13
 go_upto_region 1 with (fail)
 go_cut [16] (fun v16 wc => ∃ (kq : Nat) (x16_2 : Bool), v16 = .bool x16_2 ∧ Aside0 (wireloomref05_Valid.j0 kq a0 l1 x16_2 = some r) ∧ Aside0 (kq ≤ k) ∧ Drawn0 w wc)
 case first =>
  have H := HC3.out
  clear HC3
  by_cases c4 : a0 < 0
  ·rw [if_pos c4] at H
   have c4b0 : decide (a0 < 0) = true := decide_eq_true c4
   clear c4
   (first | rw [c4b0] | (simp only [i64_w, i32_w]; rw [c4b0]) | skip)
   have H' := Aside0.mk H
   clear H
   go_wp2
   go_meet
   case rel => exact ⟨_, (true), rS, H', ⟨by first | omega | exact Nat.le_refl _⟩, by repeat (first | exact Drawn0.refl _ | apply Drawn0.step)⟩
  ·rw [if_neg c4] at H
   have c4b0 : decide (a0 < 0) = false := decide_eq_false c4
   clear c4
   (first | rw [c4b0] | (simp only [i64_w, i32_w]; rw [c4b0]) | skip)
   by_cases c5 : a0 > 200
   ·rw [if_pos c5] at H
    have c5b0 : decide (200 < a0) = true := decide_eq_true c5
    clear c5
    have H' := Aside0.mk H
    clear H
    go_wp2
    go_meet
    case rel => exact ⟨_, (true), rS, H', ⟨by first | omega | exact Nat.le_refl _⟩, by repeat (first | exact Drawn0.refl _ | apply Drawn0.step)⟩
   ·rw [if_neg c5] at H
    have c5b0 : decide (200 < a0) = false := decide_eq_false c5
    clear c5
    have H' := Aside0.mk H
    clear H
    go_wp2
    go_meet
    case rel => exact ⟨_, (decide ((l1.length : Int) > 2000)), rS, H', ⟨by first | omega | exact Nat.le_refl _⟩, by repeat (first | exact Drawn0.refl _ | apply Drawn0.step)⟩
 case rest =>
  clear HC3
  try clear c1; try clear p2; try clear c4; try clear c4b0; try clear c5; try clear c5b0
  obtain ⟨kq, x16_2, rfl, HA, HJ2, ⟨mc2, rfl⟩⟩ := hcut
  cases kq with
  | zero => exact absurd HA.out (by simp [wireloomref05_Valid.j0])
  | succ kj2 =>
   have H := HA.out
   clear HA
   simp only [wireloomref05_Valid.j0] at H
   by_cases c6 : x16_2 = true
   ·subst c6
    have H1 : (some false) = some r := by rw [if_pos rfl] at H; exact H
    clear H
    have H := H1
    clear H1
    obtain rfl := Option.some.inj H
    go_wp2
    go_ret
    exact ⟨by first | rfl | (simp; done) | (simp [*]; done), by repeat (first | exact Drawn0.refl _ | apply Drawn0.step)⟩
   ·replace c6 := Bool.eq_false_iff.mpr c6
    subst c6
    have H1 : (wireloomref05_Valid.l0 kj2 a0 l1 0) = some r := by rw [if_neg (show ¬ (false = true) by decide)] at H; exact H
    clear H
    have H := H1
    clear H1
    have H' := Aside0.mk H
    clear H
    go_wp2
    go_loopg [5] kj2 (fun kq v5 w' => ∃ (x5_2 : Int), v5 = .int .i64 x5_2 ∧ Aside0 (wireloomref05_Valid.l0 kq a0 l1 x5_2 = some r) ∧ Aside0 (kq ≤ kj2) ∧ Drawn0 w w')
    case atStart => exact ⟨(0), rS, H', ⟨Nat.le_refl _⟩, by repeat (first | exact Drawn0.refl _ | apply Drawn0.step)⟩
    case round =>
     clear H'
     try clear c1; try clear c2; try clear p2; try clear c4; try clear c4b0; try clear c5; try clear c5b0; try clear c6; try clear p2
     obtain ⟨x5_2, rfl, HA, HK2, ⟨m2, rfl⟩⟩ := hrel
     cases gk with
     | zero => exact absurd HA.out (by simp [wireloomref05_Valid.l0])
     | succ k2 =>
      have H := HA.out
      clear HA
      simp only [wireloomref05_Valid.l0] at H
      by_cases c7 : x5_2 < (l1.length : Int)
      ·rw [if_pos c7] at H
       have c7b0 : decide (x5_2 < (l1.length : Int)) = true := decide_eq_true c7
       clear c7
       by_cases c8 : 0 ≤ x5_2
       rotate_left
       ·rw [if_neg c8] at H
        exact absurd H (by simp)
       rw [if_pos c8] at H
       have c8b0 : decide (0 ≤ x5_2) = true := decide_eq_true c8
       clear c8
       by_cases c9 : ((rd_T55 l1 x5_2).f0) < 0
       ·rw [if_pos c9] at H
        have c9b0 : decide (((rd_T55 l1 x5_2).f0) < 0) = true := decide_eq_true c9
        clear c9
        obtain rfl := Option.some.inj H
        have p273 : 0 ≤ (x5_2 : Int) := oD
        have q273 : x5_2 < (l1.length : Int) := oD
        obtain ⟨ad273, e273, hx273_0, hx273_1⟩ := at_T55 HR1.out x5_2 p273 q273
        cases e273
        replace p273 := eq_true p273
        replace q273 := eq_true q273
        go_wp2
        go_ret
        exact ⟨by first | rfl | (simp; done) | (simp [*]; done), by repeat (first | exact Drawn0.refl _ | apply Drawn0.step)⟩
       ·rw [if_neg c9] at H
        have c9b0 : decide (((rd_T55 l1 x5_2).f0) < 0) = false := decide_eq_false c9
        clear c9
        by_cases c10 : ((rd_T55 l1 x5_2).f0) ≥ a0
        ·rw [if_pos c10] at H
         have c10b0 : decide (a0 ≤ ((rd_T55 l1 x5_2).f0)) = true := decide_eq_true c10
         clear c10
         obtain rfl := Option.some.inj H
         have p273 : 0 ≤ (x5_2 : Int) := oD
         have q273 : x5_2 < (l1.length : Int) := oD
         obtain ⟨ad273, e273, hx273_0, hx273_1⟩ := at_T55 HR1.out x5_2 p273 q273
         cases e273
         replace p273 := eq_true p273
         replace q273 := eq_true q273
         have p274 : 0 ≤ (x5_2 : Int) := oD
         have q274 : x5_2 < (l1.length : Int) := oD
         obtain ⟨ad274, e274, hx274_0, hx274_1⟩ := at_T55 HR1.out x5_2 p274 q274
         obtain rfl : ad273 = ad274 := (by injection e274)
         replace p274 := eq_true p274
         replace q274 := eq_true q274
         go_wp2
         go_ret
         exact ⟨by first | rfl | (simp; done) | (simp [*]; done), by repeat (first | exact Drawn0.refl _ | apply Drawn0.step)⟩
        ·rw [if_neg c10] at H
         have c10b0 : decide (a0 ≤ ((rd_T55 l1 x5_2).f0)) = false := decide_eq_false c10
         clear c10
         by_cases c11 : ((rd_T55 l1 x5_2).f1) < 0
         ·rw [if_pos c11] at H
          have c11b0 : decide (((rd_T55 l1 x5_2).f1) < 0) = true := decide_eq_true c11
          clear c11
          obtain rfl := Option.some.inj H
          have p273 : 0 ≤ (x5_2 : Int) := oD
          have q273 : x5_2 < (l1.length : Int) := oD
          obtain ⟨ad273, e273, hx273_0, hx273_1⟩ := at_T55 HR1.out x5_2 p273 q273
          cases e273
          replace p273 := eq_true p273
          replace q273 := eq_true q273
          have p274 : 0 ≤ (x5_2 : Int) := oD
          have q274 : x5_2 < (l1.length : Int) := oD
          obtain ⟨ad274, e274, hx274_0, hx274_1⟩ := at_T55 HR1.out x5_2 p274 q274
          obtain rfl : ad273 = ad274 := (by injection e274)
          replace p274 := eq_true p274
          replace q274 := eq_true q274
          have p275 : 0 ≤ (x5_2 : Int) := oD
          have q275 : x5_2 < (l1.length : Int) := oD
          obtain ⟨ad275, e275, hx275_0, hx275_1⟩ := at_T55 HR1.out x5_2 p275 q275
          obtain rfl : ad273 = ad275 := (by injection e275)
          replace p275 := eq_true p275
          replace q275 := eq_true q275
          go_wp2
          go_ret
          exact ⟨by first | rfl | (simp; done) | (simp [*]; done), by repeat (first | exact Drawn0.refl _ | apply Drawn0.step)⟩
         ·rw [if_neg c11] at H
          have c11b0 : decide (((rd_T55 l1 x5_2).f1) < 0) = false := decide_eq_false c11
          clear c11
          by_cases c12 : ((rd_T55 l1 x5_2).f1) ≥ a0
          ·rw [if_pos c12] at H
           have c12b0 : decide (a0 ≤ ((rd_T55 l1 x5_2).f1)) = true := decide_eq_true c12
           clear c12
           obtain rfl := Option.some.inj H
           have p273 : 0 ≤ (x5_2 : Int) := oD
           have q273 : x5_2 < (l1.length : Int) := oD
           obtain ⟨ad273, e273, hx273_0, hx273_1⟩ := at_T55 HR1.out x5_2 p273 q273
           cases e273
           replace p273 := eq_true p273
           replace q273 := eq_true q273
           have p274 : 0 ≤ (x5_2 : Int) := oD
           have q274 : x5_2 < (l1.length : Int) := oD
           obtain ⟨ad274, e274, hx274_0, hx274_1⟩ := at_T55 HR1.out x5_2 p274 q274
           obtain rfl : ad273 = ad274 := (by injection e274)
           replace p274 := eq_true p274
           replace q274 := eq_true q274
           have p275 : 0 ≤ (x5_2 : Int) := oD
           have q275 : x5_2 < (l1.length : Int) := oD
           obtain ⟨ad275, e275, hx275_0, hx275_1⟩ := at_T55 HR1.out x5_2 p275 q275
           obtain rfl : ad273 = ad275 := (by injection e275)
           replace p275 := eq_true p275
           replace q275 := eq_true q275
           have p276 : 0 ≤ (x5_2 : Int) := oD
           have q276 : x5_2 < (l1.length : Int) := oD
           obtain ⟨ad276, e276, hx276_0, hx276_1⟩ := at_T55 HR1.out x5_2 p276 q276
           obtain rfl : ad273 = ad276 := (by injection e276)
           replace p276 := eq_true p276
           replace q276 := eq_true q276
           go_wp2
           go_ret
           exact ⟨by first | rfl | (simp; done) | (simp [*]; done), by repeat (first | exact Drawn0.refl _ | apply Drawn0.step)⟩
          ·rw [if_neg c12] at H
           have c12b0 : decide (a0 ≤ ((rd_T55 l1 x5_2).f1)) = false := decide_eq_false c12
           clear c12
           have H' := Aside0.mk H
           clear H
           have p273 : 0 ≤ (x5_2 : Int) := oD
           have q273 : x5_2 < (l1.length : Int) := oD
           obtain ⟨ad273, e273, hx273_0, hx273_1⟩ := at_T55 HR1.out x5_2 p273 q273
           cases e273
           replace p273 := eq_true p273
           replace q273 := eq_true q273
           have p274 : 0 ≤ (x5_2 : Int) := oD
           have q274 : x5_2 < (l1.length : Int) := oD
           obtain ⟨ad274, e274, hx274_0, hx274_1⟩ := at_T55 HR1.out x5_2 p274 q274
           obtain rfl : ad273 = ad274 := (by injection e274)
           replace p274 := eq_true p274
           replace q274 := eq_true q274
           have p275 : 0 ≤ (x5_2 : Int) := oD
           have q275 : x5_2 < (l1.length : Int) := oD
           obtain ⟨ad275, e275, hx275_0, hx275_1⟩ := at_T55 HR1.out x5_2 p275 q275
           obtain rfl : ad273 = ad275 := (by injection e275)
           replace p275 := eq_true p275
           replace q275 := eq_true q275
           have p276 : 0 ≤ (x5_2 : Int) := oD
           have q276 : x5_2 < (l1.length : Int) := oD
           obtain ⟨ad276, e276, hx276_0, hx276_1⟩ := at_T55 HR1.out x5_2 p276 q276
           obtain rfl : ad273 = ad276 := (by injection e276)
           replace p276 := eq_true p276
           replace q276 := eq_true q276
           go_wp2
           go_roundg k2
           case measure => have := HJ2.out; have := HK2.out; omega
           case rel => exact ⟨(wrap64 (x5_2 + 1)), rS, H', ⟨by have := HJ2.out; have := HK2.out; omega⟩, by repeat (first | exact Drawn0.refl _ | apply Drawn0.step)⟩
      ·rw [if_neg c7] at H
       have c7b0 : decide (x5_2 < (l1.length : Int)) = false := decide_eq_false c7
       clear c7
       obtain rfl := Option.some.inj H
       go_wp2
       go_ret
       exact ⟨by first | rfl | (simp; done) | (simp [*]; done), by repeat (first | exact Drawn0.refl _ | apply Drawn0.step)⟩
end Go.Proofs.Ytlldjinejckbaaa.PD

end
section
namespace Go.Proofs.Ytlldjinejckbaaa.PD
open Go.RowKit Go.Proofs.YtlldjinejckbaaaW.PrintWords Go.Proofs.YtlldjinejckbaaaW.PrintLast Go.Proofs.YtlldjinejckbaaaW.PrintMore
attribute [local go_sem] max2_int min2_int max_two min_two max_three min_three max_four min_four
set_option linter.unusedVariables false
set_option linter.unusedSimpArgs false
def wireloomref05_free.l0 : Nat → List (S55) → List Bool → Int → Int → Option (Bool)
 | 0, _, _, _, _ => none
 | k + 1, x0, x1, x2, x7 => if x7 < (x0.length : Int) then (if 0 ≤ x7 then (if ((rd_T55 x0 x7).f1) = x2 then (if 0 ≤ ((rd_T55 x0 x7).f0) then (if ((rd_T55 x0 x7).f0) < (x1.length : Int) then (if (rdOf false x1 ((rd_T55 x0 x7).f0) = true) then (wireloomref05_free.l0 k x0 x1 x2 (wrap64 (x7 + 1))) else (some false)) else (none)) else (none)) else (wireloomref05_free.l0 k x0 x1 x2 (wrap64 (x7 + 1)))) else (none)) else (some true)
def wireloomref05_free.f (k : Nat) (l0 : List (S55)) (l1 : List Bool) (a2 : Int) : Option (Bool) := wireloomref05_free.l0 k l0 l1 a2 0
set_option maxHeartbeats 8000000 in
set_option maxRecDepth 100000 in
theorem wireloomref05_free.calls (k : Nat) (A0 : Option Addr) (c0 : Nat) (l0 : List (S55)) (A1 : Option Addr) (c1 : Nat) (l1 : List Bool) (a2 : Int) (r : Bool) (w : World) (hr0 : Kd.C k55 w A0 l0.length l0) (hc0 : l0.length ≤ c0) (hr1 : Kd.C Kd.bool w A1 l1.length l1) (hc1 : l1.length ≤ c1) (h : wireloomref05_free.f k l0 l1 a2 = some r) :
  Calls Try.prog 35 #[.slice A0 l0.length c0, .slice A1 l1.length c1, .int .i64 a2] w fun e w' => e = .returned (.bool r) ∧ Drawn0 w w' := by
 have HR0 := Aside0.mk hr0
 have HC0 := Aside0.mk hc0
 clear hr0 hc0
 have HR1 := Aside0.mk hr1
 have HC1 := Aside0.mk hc1
 clear hr1 hc1
 have H : (wireloomref05_free.l0 k l0 l1 a2 0) = some r := h
 clear h
 have H' := Aside0.mk H
 clear H
 go_enter Try.func35, Try.ntmps35
 go_wp2
 go_loopg [7] k (fun kq v7 w' => ∃ (x7_1 : Int), v7 = .int .i64 x7_1 ∧ Aside0 (wireloomref05_free.l0 kq l0 l1 a2 x7_1 = some r) ∧ Aside0 (kq ≤ k) ∧ Drawn0 w w')
 case atStart => exact ⟨(0), rS, H', ⟨Nat.le_refl _⟩, by repeat (first | exact Drawn0.refl _ | apply Drawn0.step)⟩
 case round =>
  clear H'
  try clear c1; try clear p2; try clear c3
  obtain ⟨x7_1, rfl, HA, HK1, ⟨m1, rfl⟩⟩ := hrel
  cases gk with
  | zero => exact absurd HA.out (by simp [wireloomref05_free.l0])
  | succ k1 =>
   have H := HA.out
   clear HA
   simp only [wireloomref05_free.l0] at H
   by_cases c4 : x7_1 < (l0.length : Int)
   ·rw [if_pos c4] at H
    have c4b0 : decide (x7_1 < (l0.length : Int)) = true := decide_eq_true c4
    clear c4
    by_cases c5 : 0 ≤ x7_1
    rotate_left
    ·rw [if_neg c5] at H
     exact absurd H (by simp)
    rw [if_pos c5] at H
    have c5b0 : decide (0 ≤ x7_1) = true := decide_eq_true c5
    clear c5
    by_cases c6 : ((rd_T55 l0 x7_1).f1) = a2
    ·rw [if_pos c6] at H
     have c6b0 : (((rd_T55 l0 x7_1).f1) == a2) = true := beq_iff_eq.mpr c6
     have c6b1 : (((rd_T55 l0 x7_1).f1) != a2) = false := bne_eq_false_iff_eq.mpr c6
     clear c6
     by_cases c7 : 0 ≤ ((rd_T55 l0 x7_1).f0)
     rotate_left
     ·rw [if_neg c7] at H
      exact absurd H (by simp)
     rw [if_pos c7] at H
     have c7b0 : decide (0 ≤ ((rd_T55 l0 x7_1).f0)) = true := decide_eq_true c7
     clear c7
     by_cases c8 : ((rd_T55 l0 x7_1).f0) < (l1.length : Int)
     rotate_left
     ·rw [if_neg c8] at H
      exact absurd H (by simp)
     rw [if_pos c8] at H
     have c8b0 : decide (((rd_T55 l0 x7_1).f0) < (l1.length : Int)) = true := decide_eq_true c8
     clear c8
     obtain ⟨bq9, hbq9⟩ : ∃ b_ : Bool, b_ = (rdOf false l1 ((rd_T55 l0 x7_1).f0)) := ⟨_, rfl⟩
     replace H : (if (bq9 = true) then (wireloomref05_free.l0 k1 l0 l1 a2 (wrap64 (x7_1 + 1))) else (some false)) = some r := by rw [← hbq9] at H; exact H
     have Nbq9 := Aside0.mk hbq9
     clear hbq9
     by_cases c10 : (bq9 = true)
     ·subst c10
      have H1 : (wireloomref05_free.l0 k1 l0 l1 a2 (wrap64 (x7_1 + 1))) = some r := by rw [if_pos rfl] at H; exact H
      clear H
      have H := H1
      clear H1
      have H' := Aside0.mk H
      clear H
      have p277 : 0 ≤ (x7_1 : Int) := oD
      have q277 : x7_1 < (l0.length : Int) := oD
      obtain ⟨ad277, e277, hx277_0, hx277_1⟩ := at_T55 HR0.out x7_1 p277 q277
      cases e277
      replace p277 := eq_true p277
      replace q277 := eq_true q277
      have p278 : 0 ≤ (x7_1 : Int) := oD
      have q278 : x7_1 < (l0.length : Int) := oD
      obtain ⟨ad278, e278, hx278_0, hx278_1⟩ := at_T55 HR0.out x7_1 p278 q278
      obtain rfl : ad277 = ad278 := (by injection e278)
      replace p278 := eq_true p278
      replace q278 := eq_true q278
      have p279 : 0 ≤ (((rd_T55 l0 x7_1).f0) : Int) := oD
      have q279 : ((rd_T55 l0 x7_1).f0) < (l1.length : Int) := oD
      obtain ⟨ad279, e279, hx279_0⟩ := Kd.at_bool HR1.out ((rd_T55 l0 x7_1).f0) p279 q279
      (try rw [← Nbq9.out] at hx279_0)
      cases e279
      replace p279 := eq_true p279
      replace q279 := eq_true q279
      go_wp2
      go_roundg k1
      case measure => have := HK1.out; omega
      case rel => exact ⟨(wrap64 (x7_1 + 1)), rS, H', ⟨by have := HK1.out; omega⟩, by repeat (first | exact Drawn0.refl _ | apply Drawn0.step)⟩
     ·replace c10 := Bool.eq_false_iff.mpr c10
      subst c10
      have H1 : (some false) = some r := by rw [if_neg (show ¬ (false = true) by decide)] at H; exact H
      clear H
      have H := H1
      clear H1
      obtain rfl := Option.some.inj H
      have p277 : 0 ≤ (x7_1 : Int) := oD
      have q277 : x7_1 < (l0.length : Int) := oD
      obtain ⟨ad277, e277, hx277_0, hx277_1⟩ := at_T55 HR0.out x7_1 p277 q277
      cases e277
      replace p277 := eq_true p277
      replace q277 := eq_true q277
      have p278 : 0 ≤ (x7_1 : Int) := oD
      have q278 : x7_1 < (l0.length : Int) := oD
      obtain ⟨ad278, e278, hx278_0, hx278_1⟩ := at_T55 HR0.out x7_1 p278 q278
      obtain rfl : ad277 = ad278 := (by injection e278)
      replace p278 := eq_true p278
      replace q278 := eq_true q278
      have p279 : 0 ≤ (((rd_T55 l0 x7_1).f0) : Int) := oD
      have q279 : ((rd_T55 l0 x7_1).f0) < (l1.length : Int) := oD
      obtain ⟨ad279, e279, hx279_0⟩ := Kd.at_bool HR1.out ((rd_T55 l0 x7_1).f0) p279 q279
      (try rw [← Nbq9.out] at hx279_0)
      cases e279
      replace p279 := eq_true p279
      replace q279 := eq_true q279
      go_wp2
      go_ret
      exact ⟨by first | rfl | (simp; done) | (simp [*]; done), by repeat (first | exact Drawn0.refl _ | apply Drawn0.step)⟩
    ·rw [if_neg c6] at H
     have c6b0 : (((rd_T55 l0 x7_1).f1) == a2) = false := beq_eq_false_iff_ne.mpr c6
     have c6b1 : (((rd_T55 l0 x7_1).f1) != a2) = true := bne_iff_ne.mpr c6
     have H' := Aside0.mk H
     clear H
     have p277 : 0 ≤ (x7_1 : Int) := oD
     have q277 : x7_1 < (l0.length : Int) := oD
     obtain ⟨ad277, e277, hx277_0, hx277_1⟩ := at_T55 HR0.out x7_1 p277 q277
     cases e277
     replace p277 := eq_true p277
     replace q277 := eq_true q277
     go_wp2
     go_roundg k1
     case measure => have := HK1.out; omega
     case rel => exact ⟨(wrap64 (x7_1 + 1)), rS, H', ⟨by have := HK1.out; omega⟩, by repeat (first | exact Drawn0.refl _ | apply Drawn0.step)⟩
   ·rw [if_neg c4] at H
    have c4b0 : decide (x7_1 < (l0.length : Int)) = false := decide_eq_false c4
    clear c4
    obtain rfl := Option.some.inj H
    go_wp2
    go_ret
    exact ⟨by first | rfl | (simp; done) | (simp [*]; done), by repeat (first | exact Drawn0.refl _ | apply Drawn0.step)⟩
end Go.Proofs.Ytlldjinejckbaaa.PD

end
section
namespace Go.Proofs.Ytlldjinejckbaaa.PD
open Go.RowKit Go.Proofs.YtlldjinejckbaaaW.PrintWords Go.Proofs.YtlldjinejckbaaaW.PrintLast Go.Proofs.YtlldjinejckbaaaW.PrintMore
attribute [local go_sem] max2_int min2_int max_two min_two max_three min_three max_four min_four
set_option linter.unusedVariables false
set_option linter.unusedSimpArgs false
mutual
def wireloomref05_OrderIn.l0 : Nat → Int → List (S55) → List Bool → List Int → Option (List Int × Int)
 | 0, _, _, _, _ => none
 | k + 1, x0, x1, x5, x6 => if (x6.length : Int) < x0 then (wireloomref05_OrderIn.l1 k x0 x1 x5 x6 (-1) 0) else (some (x6, 0))
def wireloomref05_OrderIn.l1 : Nat → Int → List (S55) → List Bool → List Int → Int → Int → Option (List Int × Int)
 | 0, _, _, _, _, _, _ => none
 | k + 1, x0, x1, x5, x6, x7, x8 => if x8 < x0 then (wireloomref05_OrderIn.j2 k x0 x1 x5 x6 x7 x8 (decide (x7 < 0))) else (wireloomref05_OrderIn.j2 k x0 x1 x5 x6 x7 x8 false)
def wireloomref05_OrderIn.j2 : Nat → Int → List (S55) → List Bool → List Int → Int → Int → Bool → Option (List Int × Int)
 | 0, _, _, _, _, _, _, _ => none
 | k + 1, x0, x1, x5, x6, x7, x8, x22 => if x22 = true then (if 0 ≤ x8 then (if x8 < (x5.length : Int) then (if rdOf false x5 x8 = true then (wireloomref05_OrderIn.l1 k x0 x1 x5 x6 x7 (wrap64 (x8 + 1))) else ((wireloomref05_free.f k x1 x5 x8).bind fun t288 => (if t288 = true then (wireloomref05_OrderIn.l1 k x0 x1 x5 x6 x8 (wrap64 (x8 + 1))) else (wireloomref05_OrderIn.l1 k x0 x1 x5 x6 x7 (wrap64 (x8 + 1)))))) else (none)) else (none)) else (if x7 < 0 then (some (([] : List Int), 50)) else (if 0 ≤ x7 then (if x7 < (x5.length : Int) then (if x6.length < 17592186044416 then (wireloomref05_OrderIn.l0 k x0 x1 (x5.set (x7 : Int).toNat true) (x6 ++ [x7])) else (none)) else (none)) else (none)))
end
def wireloomref05_OrderIn.f (k : Nat) (a0 : Int) (l1 : List (S55)) : Option (List Int × Int) := if 0 ≤ a0 then (if (a0 : Int).toNat ≤ 281474976710656 then (wireloomref05_OrderIn.l0 k a0 l1 (List.replicate (a0 : Int).toNat false) (([] : List Int))) else (none)) else (none)
set_option maxHeartbeats 8000000 in
set_option maxRecDepth 100000 in
theorem wireloomref05_OrderIn.calls (k : Nat) (a0 : Int) (A1 : Option Addr) (c1 : Nat) (l1 : List (S55)) (r1 : List Int) (r2 : Int) (w : World) (hr1 : Kd.C k55 w A1 l1.length l1) (hc1 : l1.length ≤ c1) (h : wireloomref05_OrderIn.f k a0 l1 = some (r1, r2)) :
  Calls Try.prog 16 #[.int .i64 a0, .slice A1 l1.length c1] w fun e w' => ∃ v0_ : Value, e = .returned (.agg #[v0_, .int .i64 r2]) ∧ Kd.R (Kd.int .i64) 3 w' w.heap.size (fun _ => True) v0_ r1 ∧ Below w.heap.size w w' := by
 have hu37 := Try.underlying37
 have HR1 := Aside0.mk hr1
 have HC1 := Aside0.mk hc1
 clear hr1 hc1
 have HB := Aside0.mk (Below.refl w.heap.size w)
 have H : (if 0 ≤ a0 then (if (a0 : Int).toNat ≤ 281474976710656 then (wireloomref05_OrderIn.l0 k a0 l1 (List.replicate (a0 : Int).toNat false) (([] : List Int))) else (none)) else (none)) = some (r1, r2) := h
 clear h
 by_cases c3 : 0 ≤ a0
 rotate_left
 ·rw [if_neg c3] at H
  exact absurd H (by simp)
 rw [if_pos c3] at H
 have c3b0 := eq_true c3
 have c3b1 : decide (0 ≤ a0) = true := decide_eq_true c3
 clear c3
 by_cases c4 : (a0 : Int).toNat ≤ 281474976710656
 rotate_left
 ·rw [if_neg c4] at H
  exact absurd H (by simp)
 rw [if_pos c4] at H
 have c4b0 := eq_true c4
 have c4b1 : decide ((a0 : Int).toNat ≤ 281474976710656) = true := decide_eq_true c4
 clear c4
 obtain ⟨y281, hy281⟩ : ∃ y_ : List Bool, y_ = (List.replicate (a0 : Int).toNat false) := ⟨_, rfl⟩
 replace H : (wireloomref05_OrderIn.l0 k a0 l1 y281 (([] : List Int))) = some (r1, r2) := by first | (rw [hy281]; with_reducible exact H) | (have H2_ := (Option.bind_some _ _).symm.trans H; rw [hy281]; with_reducible exact H2_) | (have H2_ := (Option.bind_some _ _).symm.trans H; with_reducible exact H2_) | with_reducible exact H | (rw [hy281]; exact H) | exact H
 have Ny281 := Aside0.mk hy281
 clear hy281
 obtain ⟨y284, hy284⟩ : ∃ y_ : List Int, y_ = (([] : List Int)) := ⟨_, rfl⟩
 replace H : (wireloomref05_OrderIn.l0 k a0 l1 y281 y284) = some (r1, r2) := by first | (rw [hy284]; with_reducible exact H) | (have H2_ := (Option.bind_some _ _).symm.trans H; rw [hy284]; with_reducible exact H2_) | (have H2_ := (Option.bind_some _ _).symm.trans H; with_reducible exact H2_) | with_reducible exact H | (rw [hy284]; exact H) | exact H
 have Ny284 := Aside0.mk hy284
 clear hy284
 have H' := Aside0.mk H
 clear H
 go_enter Try.func16, Try.ntmps16
 go_wp2_with (first | ((with_reducible refine gate_dst (N := 4) rfl ?_); refine box_event ?hg (N := 4) ?hd (cs := #[.slice none 0 0, .int .i64 0]) (t := 37) ?hr ?_; (case hd => rfl); (case hg => rfl); (case hr => first | (go_simp; done) | (go_simp; rfl)); intro gb280 hg w5 hbox hb; have BK280 := Aside0.mk (hbox); have GW280 := Aside0.mk ((by rw [hg]; exact (below_size (wB0 HB.out)) : w.heap.size ≤ gb280)); have GE280 := Aside0.mk ((by rw [hg]; exact (below_size (wB0 HB.out)) : w.heap.size ≤ gb280)); replace HB := Aside0.mk (below_step (wB0 HB.out) hb); clear hb hbox hg) | ((with_reducible refine gate_dst (N := 10) rfl ?_); refine Kd.R_make Kd.bool _ 4 rfl (N := 10) rfl 49 _ _ rfl a0 rfl rfl Try.underlying49 (.bool false) 1 info4 rfl (by decide) (by omega) false (ok := fun _ => True) (okp := fun _ => True) rfl (fun _ hk => hk) trivial oD (Nat.le_trans (Nat.mul_le_mul_right _ (oD : a0.toNat ≤ 281474976710656)) (by omega)) (Below.refl _ _) (Nat.le_refl _) ?_; intro v282 w6 ho7 hb hg_ hnew_; clear hg_ hnew_; (first | rw [← Ny281.out] at ho7 | (simp only [Int.reduceToNat] at ho7; rw [← Ny281.out] at ho7)); have HO283 := Aside0.mk (Kd.R_lower ho7 (below_size (wB1 HB.out GE280.out))); replace BK280 := kC BK280 hb; replace HB := Aside0.mk (below_step (wB1 HB.out GE280.out) hb); clear hb ho7) | ((with_reducible refine gate_dst (N := 11) rfl ?_); refine Kd.R_lit (Kd.int .i64) _ 3 ?hg (N := 11) ?hd (xs := ([] : List Int)) (inner := []) (ok := fun _ => True) (okp := fun _ => True) ?hr ?hp (fun _ hk => hk) trivial (Below.refl _ _) (Nat.le_refl _) (by simp) ?_; (case hd => rfl); (case hg => rfl); (case hr => first | (go_simp; done) | (go_simp; rfl)); (case hp => exact (Reps.none _ _)); intro v285 w8 ho9 hb hg_ hnew_; clear hg_ hnew_; (first | rw [← Ny284.out] at ho9 | (simp only [Int.reduceToNat] at ho9; rw [← Ny284.out] at ho9)); replace HO283 := Aside0.mk (Kd.R_below (rA HO283.out) hb); have HO286 := Aside0.mk (Kd.R_lower ho9 (below_size (wB1 HB.out GE280.out))); replace BK280 := kC BK280 hb; replace HB := Aside0.mk (below_step (wB1 HB.out GE280.out) hb); clear hb ho9))
 go_loopg [6] k (fun kq v6 w' => ∃ (x5_1 : List Bool) (x6_1 : List Int) (x281001_1 : Int), Aside0 (wireloomref05_OrderIn.l0 kq a0 l1 x5_1 x6_1 = some (r1, r2)) ∧ Aside0 (kq ≤ k) ∧ Aside0 (Kd.R Kd.bool 4 w' w.heap.size (fun _ => True) v282 x5_1) ∧ Aside0 (Kd.R (Kd.int .i64) 3 w' w.heap.size (fun _ => True) v6 x6_1) ∧ Aside0 (w'.heap[gb280]? = some (.cells #[(.slice none 0 0), .int .i64 x281001_1] 37 (0, 0))) ∧ Aside0 (Below w.heap.size w w'))
 case atStart => exact ⟨(y281), (y284), (0), H', ⟨Nat.le_refl _⟩, ⟨rA HO283.out⟩, ⟨rA HO286.out⟩, ⟨bA BK280.out⟩, ⟨wB1 HB.out GE280.out⟩⟩
 case round =>
  clear H'
  try clear c1; try clear p2; try clear c3; try clear c3b0; try clear c3b1; try clear c4; try clear c4b0; try clear c4b1
  obtain ⟨x5_1, x6_1, x281001_1, HA, HK1, HO_5, HO_6, BK280, HB⟩ := hrel
  cases gk with
  | zero => exact absurd HA.out (by simp [wireloomref05_OrderIn.l0])
  | succ k1 =>
   have H := HA.out
   clear HA
   simp only [wireloomref05_OrderIn.l0] at H
   by_cases c10 : (x6_1.length : Int) < a0
   ·rw [if_pos c10] at H
    have c10b0 : decide ((x6_1.length : Int) < a0) = true := decide_eq_true c10
    clear c10
    have H' := Aside0.mk H
    clear H
    obtain ⟨Ao11, co11, eo11⟩ := Kd.R_slice HO_6.out
    subst eo11
    go_wp2
    go_loopg [7, 8] k1 (fun kq v7 v8 w' => ∃ (x7_2 : Int) (x8_2 : Int), v7 = .int .i64 x7_2 ∧ v8 = .int .i64 x8_2 ∧ Aside0 (wireloomref05_OrderIn.l1 kq a0 l1 x5_1 x6_1 x7_2 x8_2 = some (r1, r2)) ∧ Aside0 (kq ≤ k1) ∧ Aside0 (Kd.R Kd.bool 4 w' w.heap.size (fun _ => True) v282 x5_1) ∧ Aside0 (Kd.R (Kd.int .i64) 3 w' w.heap.size (fun _ => True) (.slice Ao11 x6_1.length co11) x6_1) ∧ Aside0 (w'.heap[gb280]? = some (.cells #[(.slice none 0 0), .int .i64 x281001_1] 37 (0, 0))) ∧ Aside0 (Below w.heap.size w w'))
    case atStart => exact ⟨((-1)), (0), rS, rS, H', ⟨Nat.le_refl _⟩, ⟨rA HO_5.out⟩, ⟨rA HO_6.out⟩, ⟨bA BK280.out⟩, ⟨wB1 HB.out GE280.out⟩⟩
    case round =>
     clear H'
     try clear c1; try clear p2; try clear c3; try clear c3b0; try clear c3b1; try clear c4; try clear c4b0; try clear c4b1; try clear c10; try clear c10b0; try clear p2
     obtain ⟨x7_2, x8_2, rfl, rfl, HA, HK2, HO_5, HO_6, BK280, HB⟩ := hrel
     cases gk with
     | zero => exact absurd HA.out (by simp [wireloomref05_OrderIn.l1])
     | succ k2 =>
      have H := HA.out
      clear HA
      simp only [wireloomref05_OrderIn.l1] at H
      have HC12 := Aside0.mk H
      clear H
      go_upto_region 6 with (fail)
      go_cut [22] (fun v22 wc => ∃ (kq : Nat) (x22_11 : Bool), v22 = .bool x22_11 ∧ Aside0 (wireloomref05_OrderIn.j2 kq a0 l1 x5_1 x6_1 x7_2 x8_2 x22_11 = some (r1, r2)) ∧ Aside0 (kq ≤ k2) ∧ Aside0 (Kd.R Kd.bool 4 wc w.heap.size (fun _ => True) v282 x5_1) ∧ Aside0 (Kd.R (Kd.int .i64) 3 wc w.heap.size (fun _ => True) (.slice Ao11 x6_1.length co11) x6_1) ∧ Aside0 (wc.heap[gb280]? = some (.cells #[(.slice none 0 0), .int .i64 x281001_1] 37 (0, 0))) ∧ Aside0 (Below w.heap.size w wc))
      case first =>
       have H := HC12.out
       clear HC12
       by_cases c13 : x8_2 < a0
       ·rw [if_pos c13] at H
        have c13b0 : decide (x8_2 < a0) = true := decide_eq_true c13
        clear c13
        (first | rw [c13b0] | (simp only [i64_w, i32_w]; rw [c13b0]) | skip)
        have H' := Aside0.mk H
        clear H
        go_wp2
        go_meet
        case rel => exact ⟨_, (decide (x7_2 < 0)), rS, H', ⟨by have := HK1.out; have := HK2.out; first | omega | exact Nat.le_refl _⟩, ⟨rA HO_5.out⟩, ⟨rA HO_6.out⟩, ⟨bA BK280.out⟩, ⟨wB1 HB.out GE280.out⟩⟩
       ·rw [if_neg c13] at H
        have c13b0 : decide (x8_2 < a0) = false := decide_eq_false c13
        clear c13
        (first | rw [c13b0] | (simp only [i64_w, i32_w]; rw [c13b0]) | skip)
        have H' := Aside0.mk H
        clear H
        go_wp2
        go_meet
        case rel => exact ⟨_, (false), rS, H', ⟨by have := HK1.out; have := HK2.out; first | omega | exact Nat.le_refl _⟩, ⟨rA HO_5.out⟩, ⟨rA HO_6.out⟩, ⟨bA BK280.out⟩, ⟨wB1 HB.out GE280.out⟩⟩
      case rest =>
       clear HC12
       try clear c1; try clear p2; try clear c3; try clear c3b0; try clear c3b1; try clear c4; try clear c4b0; try clear c4b1; try clear c10; try clear c10b0; try clear c13; try clear c13b0; try clear p2
       obtain ⟨kq, x22_11, rfl, HA, HJ11, HO_5, HO_6, BK280, HB⟩ := hcut
       cases kq with
       | zero => exact absurd HA.out (by simp [wireloomref05_OrderIn.j2])
       | succ kj11 =>
        have H := HA.out
        clear HA
        simp only [wireloomref05_OrderIn.j2] at H
        by_cases c14 : x22_11 = true
        ·subst c14
         have H1 : (if 0 ≤ x8_2 then (if x8_2 < (x5_1.length : Int) then (if rdOf false x5_1 x8_2 = true then (wireloomref05_OrderIn.l1 kj11 a0 l1 x5_1 x6_1 x7_2 (wrap64 (x8_2 + 1))) else ((wireloomref05_free.f kj11 l1 x5_1 x8_2).bind fun t288 => (if t288 = true then (wireloomref05_OrderIn.l1 kj11 a0 l1 x5_1 x6_1 x8_2 (wrap64 (x8_2 + 1))) else (wireloomref05_OrderIn.l1 kj11 a0 l1 x5_1 x6_1 x7_2 (wrap64 (x8_2 + 1)))))) else (none)) else (none)) = some (r1, r2) := by rw [if_pos rfl] at H; exact H
         clear H
         have H := H1
         clear H1
         by_cases c15 : 0 ≤ x8_2
         rotate_left
         ·rw [if_neg c15] at H
          exact absurd H (by simp)
         rw [if_pos c15] at H
         have c15b0 : decide (0 ≤ x8_2) = true := decide_eq_true c15
         clear c15
         by_cases c16 : x8_2 < (x5_1.length : Int)
         rotate_left
         ·rw [if_neg c16] at H
          exact absurd H (by simp)
         rw [if_pos c16] at H
         have c16b0 : decide (x8_2 < (x5_1.length : Int)) = true := decide_eq_true c16
         clear c16
         obtain ⟨bq17, hbq17⟩ : ∃ b_ : Bool, b_ = (rdOf false x5_1 x8_2) := ⟨_, rfl⟩
         replace H : (if bq17 = true then (wireloomref05_OrderIn.l1 kj11 a0 l1 x5_1 x6_1 x7_2 (wrap64 (x8_2 + 1))) else ((wireloomref05_free.f kj11 l1 x5_1 x8_2).bind fun t288 => (if t288 = true then (wireloomref05_OrderIn.l1 kj11 a0 l1 x5_1 x6_1 x8_2 (wrap64 (x8_2 + 1))) else (wireloomref05_OrderIn.l1 kj11 a0 l1 x5_1 x6_1 x7_2 (wrap64 (x8_2 + 1)))))) = some (r1, r2) := by rw [← hbq17] at H; exact H
         have Nbq17 := Aside0.mk hbq17
         clear hbq17
         by_cases c18 : bq17 = true
         ·subst c18
          have H1 : (wireloomref05_OrderIn.l1 kj11 a0 l1 x5_1 x6_1 x7_2 (wrap64 (x8_2 + 1))) = some (r1, r2) := by rw [if_pos rfl] at H; exact H
          clear H
          have H := H1
          clear H1
          have H' := Aside0.mk H
          clear H
          obtain ⟨Ao19, co19, eo19⟩ := Kd.R_slice HO_5.out
          subst eo19
          have p287 : 0 ≤ (x8_2 : Int) := oD
          have q287 : x8_2 < (x5_1.length : Int) := oD
          obtain ⟨ad287, e287, hx287_0⟩ := Kd.at_bool (Kd.R_reads' HO_5.out).2.2 x8_2 p287 q287
          (try rw [← Nbq17.out] at hx287_0)
          cases e287
          replace p287 := eq_true p287
          replace q287 := eq_true q287
          go_wp2
          go_roundg kj11
          case measure => have := HK1.out; have := HK2.out; have := HJ11.out; omega
          case rel => exact ⟨(x7_2), (wrap64 (x8_2 + 1)), rS, rS, H', ⟨by have := HK1.out; have := HK2.out; have := HJ11.out; omega⟩, ⟨rA HO_5.out⟩, ⟨rA HO_6.out⟩, ⟨bA BK280.out⟩, ⟨wB1 HB.out GE280.out⟩⟩
         ·replace c18 := Bool.eq_false_iff.mpr c18
          subst c18
          have H1 : ((wireloomref05_free.f kj11 l1 x5_1 x8_2).bind fun t288 => (if t288 = true then (wireloomref05_OrderIn.l1 kj11 a0 l1 x5_1 x6_1 x8_2 (wrap64 (x8_2 + 1))) else (wireloomref05_OrderIn.l1 kj11 a0 l1 x5_1 x6_1 x7_2 (wrap64 (x8_2 + 1))))) = some (r1, r2) := by rw [if_neg (show ¬ (false = true) by decide)] at H; exact H
          clear H
          have H := H1
          clear H1
          replace H := Option.bind_eq_some_iff.mp H
          obtain ⟨t288, A200, H⟩ := H
          replace H : (if t288 = true then (wireloomref05_OrderIn.l1 kj11 a0 l1 x5_1 x6_1 x8_2 (wrap64 (x8_2 + 1))) else (wireloomref05_OrderIn.l1 kj11 a0 l1 x5_1 x6_1 x7_2 (wrap64 (x8_2 + 1)))) = some (r1, r2) := H
          have A20 := Aside0.mk A200
          clear A200
          by_cases c21 : t288 = true
          ·subst c21
           have H1 : (wireloomref05_OrderIn.l1 kj11 a0 l1 x5_1 x6_1 x8_2 (wrap64 (x8_2 + 1))) = some (r1, r2) := by rw [if_pos rfl] at H; exact H
           clear H
           have H := H1
           clear H1
           have H' := Aside0.mk H
           clear H
           obtain ⟨Ao22, co22, eo22⟩ := Kd.R_slice HO_5.out
           subst eo22
           have p287 : 0 ≤ (x8_2 : Int) := oD
           have q287 : x8_2 < (x5_1.length : Int) := oD
           obtain ⟨ad287, e287, hx287_0⟩ := Kd.at_bool (Kd.R_reads' HO_5.out).2.2 x8_2 p287 q287
           (try rw [← Nbq17.out] at hx287_0)
           cases e287
           replace p287 := eq_true p287
           replace q287 := eq_true q287
           go_wp2_with (first | (go_at_call 35; (with_reducible refine (wireloomref05_free.calls kj11 _ _ l1 _ _ x5_1 x8_2 true _ ?side1 ?side2 ?side3 ?side4 A20.out).mono ?_); (case side1 => exact cA (Kd.C_below HR1.out HB.out)); (case side2 => exact HC1.out); (case side3 => exact cA (Kd.R_reads' HO_5.out).2.2); (case side4 => exact (Kd.R_reads' HO_5.out).2.1); rintro e w' ⟨rfl, ⟨nd, rfl⟩⟩))
           go_roundg kj11
           case measure => have := HK1.out; have := HK2.out; have := HJ11.out; omega
           case rel => exact ⟨(x8_2), (wrap64 (x8_2 + 1)), rS, rS, H', ⟨by have := HK1.out; have := HK2.out; have := HJ11.out; omega⟩, ⟨rA HO_5.out⟩, ⟨rA HO_6.out⟩, ⟨bA BK280.out⟩, ⟨wB1 HB.out GE280.out⟩⟩
          ·replace c21 := Bool.eq_false_iff.mpr c21
           subst c21
           have H1 : (wireloomref05_OrderIn.l1 kj11 a0 l1 x5_1 x6_1 x7_2 (wrap64 (x8_2 + 1))) = some (r1, r2) := by rw [if_neg (show ¬ (false = true) by decide)] at H; exact H
           clear H
           have H := H1
           clear H1
           have H' := Aside0.mk H
           clear H
           obtain ⟨Ao23, co23, eo23⟩ := Kd.R_slice HO_5.out
           subst eo23
           have p287 : 0 ≤ (x8_2 : Int) := oD
           have q287 : x8_2 < (x5_1.length : Int) := oD
           obtain ⟨ad287, e287, hx287_0⟩ := Kd.at_bool (Kd.R_reads' HO_5.out).2.2 x8_2 p287 q287
           (try rw [← Nbq17.out] at hx287_0)
           cases e287
           replace p287 := eq_true p287
           replace q287 := eq_true q287
           go_wp2_with (first | (go_at_call 35; (with_reducible refine (wireloomref05_free.calls kj11 _ _ l1 _ _ x5_1 x8_2 false _ ?side1 ?side2 ?side3 ?side4 A20.out).mono ?_); (case side1 => exact cA (Kd.C_below HR1.out HB.out)); (case side2 => exact HC1.out); (case side3 => exact cA (Kd.R_reads' HO_5.out).2.2); (case side4 => exact (Kd.R_reads' HO_5.out).2.1); rintro e w' ⟨rfl, ⟨nd, rfl⟩⟩))
           go_roundg kj11
           case measure => have := HK1.out; have := HK2.out; have := HJ11.out; omega
           case rel => exact ⟨(x7_2), (wrap64 (x8_2 + 1)), rS, rS, H', ⟨by have := HK1.out; have := HK2.out; have := HJ11.out; omega⟩, ⟨rA HO_5.out⟩, ⟨rA HO_6.out⟩, ⟨bA BK280.out⟩, ⟨wB1 HB.out GE280.out⟩⟩
        ·replace c14 := Bool.eq_false_iff.mpr c14
         subst c14
         have H1 : (if x7_2 < 0 then (some (([] : List Int), 50)) else (if 0 ≤ x7_2 then (if x7_2 < (x5_1.length : Int) then (if x6_1.length < 17592186044416 then (wireloomref05_OrderIn.l0 kj11 a0 l1 (x5_1.set (x7_2 : Int).toNat true) (x6_1 ++ [x7_2])) else (none)) else (none)) else (none))) = some (r1, r2) := by rw [if_neg (show ¬ (false = true) by decide)] at H; exact H
         clear H
         have H := H1
         clear H1
         by_cases c24 : x7_2 < 0
         ·rw [if_pos c24] at H
          have c24b0 : decide (x7_2 < 0) = true := decide_eq_true c24
          clear c24
          simp only [Option.some.injEq, Prod.mk.injEq] at H
          obtain ⟨rfl, rfl⟩ := H
          have hcz25_0 : wc.cell? ⟨gb280, 0, none⟩ = some (.slice none 0 0) := (blk_cell BK280.out 0).trans rfl
          have hcz25_1 : wc.cell? ⟨gb280, 1, none⟩ = some (.int .i64 x281001_1) := (blk_cell BK280.out 1).trans rfl
          have hfz25_0 := blk_frozen BK280.out 0
          have hfz25_1 := blk_frozen BK280.out 1
          go_wp2
          refine bodyPost_ret (results_cell_row rfl _ _ gb280 37 #[.slice none 0 0, .int .i64 50] (0, 0) _ rfl (by (with_reducible repeat (first | refine blk_drewN ?_ _ | refine blk_drew ?_ | refine blk_alloc ?_ _)); refine blk_put (cs := #[.slice none 0 0, .int .i64 x281001_1]) ?_ 1 _ rfl; (with_reducible repeat (first | refine blk_drewN ?_ _ | refine blk_drew ?_ | refine blk_alloc ?_ _)); refine blk_put (cs := #[.slice none 0 0, .int .i64 x281001_1]) ?_ 0 _ rfl; (with_reducible repeat (first | refine blk_drewN ?_ _ | refine blk_drew ?_ | refine blk_alloc ?_ _)); exact BK280.out) Try.underlying37 rfl (by kernel_rfl)) rfl ?_
          exact ⟨_, eS, by first | exact Kd.R_nil _ _ _ _ _ | exact Kd.N_nil _ _ _ _ _ | exact Kd.V_nil _ _ _ _ _ | exact Kd.Q_nil _ _ _ _ _ | exact Kd.S_nil _ _ _ _ _, by repeat (first | (with_reducible first | exact HB.out | apply below_alloc | apply pw_below_drewN | apply below_drew1 | refine below_set ?_ GE280.out) | exact HB.out)⟩
         ·rw [if_neg c24] at H
          have c24b0 : decide (x7_2 < 0) = false := decide_eq_false c24
          clear c24
          by_cases c26 : 0 ≤ x7_2
          rotate_left
          ·rw [if_neg c26] at H
           exact absurd H (by simp)
          rw [if_pos c26] at H
          have c26b0 : decide (0 ≤ x7_2) = true := decide_eq_true c26
          clear c26
          by_cases c27 : x7_2 < (x5_1.length : Int)
          rotate_left
          ·rw [if_neg c27] at H
           exact absurd H (by simp)
          rw [if_pos c27] at H
          have c27b0 : decide (x7_2 < (x5_1.length : Int)) = true := decide_eq_true c27
          clear c27
          obtain ⟨y289, hy289⟩ : ∃ y_ : List Bool, y_ = (x5_1.set (x7_2 : Int).toNat true) := ⟨_, rfl⟩
          replace H : (if x6_1.length < 17592186044416 then (wireloomref05_OrderIn.l0 kj11 a0 l1 y289 (x6_1 ++ [x7_2])) else (none)) = some (r1, r2) := by first | (rw [hy289]; with_reducible exact H) | (have H2_ := (Option.bind_some _ _).symm.trans H; rw [hy289]; with_reducible exact H2_) | (have H2_ := (Option.bind_some _ _).symm.trans H; with_reducible exact H2_) | with_reducible exact H | (rw [hy289]; exact H) | exact H
          have Ny289 := Aside0.mk hy289
          clear hy289
          by_cases c29 : x6_1.length < 17592186044416
          rotate_left
          ·rw [if_neg c29] at H
           exact absurd H (by simp)
          rw [if_pos c29] at H
          have LMc29 := Aside0.mk c29
          clear c29
          obtain ⟨y290, hy290⟩ : ∃ y_ : List Int, y_ = (x6_1 ++ [x7_2]) := ⟨_, rfl⟩
          replace H : (wireloomref05_OrderIn.l0 kj11 a0 l1 y289 y290) = some (r1, r2) := by first | (rw [hy290]; with_reducible exact H) | (have H2_ := (Option.bind_some _ _).symm.trans H; rw [hy290]; with_reducible exact H2_) | (have H2_ := (Option.bind_some _ _).symm.trans H; with_reducible exact H2_) | with_reducible exact H | (rw [hy290]; exact H) | exact H
          have Ny290 := Aside0.mk hy290
          clear hy290
          have H' := Aside0.mk H
          clear H
          have p28 : 0 ≤ (x7_2 : Int) := oD
          have q28 : (x7_2 : Int) < ((x5_1.length : Int) : Int) := oD
          obtain ⟨go28, co28, eo28, gb28, gl28, cl28, HG28⟩ := Kd.R_form HO_5.out (by omega)
          (first | cases eo28 | (injection eo28 with ea_ en_ ec_; (first | subst ea_ | (injection ea_ with ea_; subst ea_)); subst ec_; clear en_))
          have GB28 := Aside0.mk gb28
          have GG28 := Aside0.mk HG28
          clear gb28 gl28 HG28
          obtain ⟨hx28_0, hf28_0⟩ := Kd.R_celln false HO_5.out (x7_2 : Int) p28 q28
          replace p28 := eq_true p28
          replace q28 := eq_true q28
          have HP30 := Kd.R_putg HO_5.out (x7_2 : Int) true
          go_wp2_with (first | ((with_reducible refine gate_store (t := 4) (p := 42) rfl ?_); refine store_event (t := 4) (p := 42) (v := ?vo_w31) (w1 := (wc.setCell ⟨go28, (x7_2 : Int).toNat, none⟩ (.bool true))) ?hg ?ho ?hn ?hr ?_; (case ho => rfl); (case hg => rfl); (case hn => rfl); (case hr => first | (go_simp; done) | (go_simp; rfl)); intro w31 hw; have hg : wc.grownBy w31 (some go28) := (by rw [hw]; exact HP30.2); have hp_ : Kd.R Kd.bool 4 w31 w.heap.size (fun _ => True) (.slice (some ⟨go28, 0, none⟩) x5_1.length co28) y289 := (by rw [hw, Ny289.out]; exact HP30.1); clear HP30; replace HO_6 := Aside0.mk (Kd.R_over' (v := (.slice (some ⟨go28, 0, none⟩) x5_1.length co28)) (rA HO_6.out) (Kd.R_typed HO_5.out) (by decide) hg); replace BK280 := Aside0.mk (blk_grown (g := gb280) (o := .cells #[.slice none 0 0, .int .i64 x281001_1] 37 (0, 0)) (bA BK280.out) hg (Kd.R_ne HO_5.out BK280.out (by decide))); replace HO_5 := Aside0.mk (hp_); replace HB := Aside0.mk ((by rw [hw]; exact below_set (HB.out) GB28.out : Below w.heap.size w w31)); clear hg hw hp_) | ((with_reducible refine gate_builtin (b := .append) (xs := #[.tmp 43, .tmp 45]) rfl ?_); at_builtin; refine Kd.R_append (Kd.int .i64) (w0 := w) w.heap.size rfl (.tmp 43) (.tmp 45) 26 3 (.int .i64 0) 8 rfl Try.underlying26 info3 rfl (by decide) (by omega) (.slice Ao11 x6_1.length co11) x6_1 x7_2 [.int .i64 x7_2] (fun _ => True) (fun _ => False) rfl rfl ?aP (fun _ hk => hk.elim) ?aF ?aO ?aB ?aS ?aL ?_; (case aP => exact rfl); (case aB => exact (wB1 HB.out GE280.out)); (case aF => exact (fun _ _ => trivial)); (case aO => exact (rA HO_6.out)); (case aS => exact (below_size (wB1 HB.out GE280.out))); (case aL => have := LMc29.out; omega); intro v291 w32 ho hb hg hat; rw [← Ny290.out] at ho; replace HO_5 := Aside0.mk (Kd.R_over' (rA HO_5.out) (Kd.R_typed (rA HO_6.out)) (by decide) hg); replace BK280 := Aside0.mk (blk_grown (g := gb280) (o := .cells #[.slice none 0 0, .int .i64 x281001_1] 37 (0, 0)) (bA BK280.out) hg (Kd.R_ne HO_6.out BK280.out (by decide))); replace HB := Aside0.mk (hb); have HO292 := Aside0.mk (ho); clear HO_6; clear ho hb hg hat))
          go_roundg kj11
          case measure => have := HK1.out; have := HK2.out; have := HJ11.out; omega
          case rel => exact ⟨(y289), (y290), (x281001_1), H', ⟨by have := HK1.out; have := HK2.out; have := HJ11.out; omega⟩, ⟨rA HO_5.out⟩, ⟨rA HO292.out⟩, ⟨bA BK280.out⟩, ⟨wB1 HB.out GE280.out⟩⟩
   ·rw [if_neg c10] at H
    have c10b0 : decide ((x6_1.length : Int) < a0) = false := decide_eq_false c10
    clear c10
    simp only [Option.some.injEq, Prod.mk.injEq] at H
    obtain ⟨rfl, rfl⟩ := H
    obtain ⟨Ao33, co33, eo33⟩ := Kd.R_slice HO_6.out
    subst eo33
    have hcz34_0 : wr.cell? ⟨gb280, 0, none⟩ = some (.slice none 0 0) := (blk_cell BK280.out 0).trans rfl
    have hcz34_1 : wr.cell? ⟨gb280, 1, none⟩ = some (.int .i64 x281001_1) := (blk_cell BK280.out 1).trans rfl
    have hfz34_0 := blk_frozen BK280.out 0
    have hfz34_1 := blk_frozen BK280.out 1
    go_wp2
    refine bodyPost_ret (results_cell_row rfl _ _ gb280 37 #[.slice Ao33 x6_1.length co33, .int .i64 0] (0, 0) _ rfl (by (with_reducible repeat (first | refine blk_drewN ?_ _ | refine blk_drew ?_ | refine blk_alloc ?_ _)); refine blk_put (cs := #[.slice Ao33 x6_1.length co33, .int .i64 x281001_1]) ?_ 1 _ rfl; (with_reducible repeat (first | refine blk_drewN ?_ _ | refine blk_drew ?_ | refine blk_alloc ?_ _)); refine blk_put (cs := #[.slice none 0 0, .int .i64 x281001_1]) ?_ 0 _ rfl; (with_reducible repeat (first | refine blk_drewN ?_ _ | refine blk_drew ?_ | refine blk_alloc ?_ _)); exact BK280.out) Try.underlying37 rfl (by kernel_rfl)) rfl ?_
    exact ⟨_, eS, by (with_reducible repeat (first | apply Kd.R_alloc | apply Kd.R_drewN | apply Kd.R_drew)); exact Kd.R_mono (Kd.R_far (p := ⟨gb280, 1, none⟩) (Kd.R_far (p := ⟨gb280, 0, none⟩) (Kd.R_types HO_6.out BK280.out (by decide)) (fun _ hk => hk.2) (.slice Ao33 x6_1.length co33)) (fun _ hk => hk.2) (.int .i64 0)) (fun _ hk => trivial), by repeat (first | (with_reducible first | exact HB.out | apply below_alloc | apply pw_below_drewN | apply below_drew1 | refine below_set ?_ GE280.out) | exact HB.out)⟩
end Go.Proofs.Ytlldjinejckbaaa.PD

end
section
namespace Go.Proofs.Ytlldjinejckbaaa.PD
open Go.RowKit Go.Proofs.YtlldjinejckbaaaW.PrintWords Go.Proofs.YtlldjinejckbaaaW.PrintLast Go.Proofs.YtlldjinejckbaaaW.PrintMore
attribute [local go_sem] max2_int min2_int max_two min_two max_three min_three max_four min_four
set_option linter.unusedVariables false
set_option linter.unusedSimpArgs false
mutual
def wireloomref05_Back.l0 : Nat → Int → List (S55) → Int → List Int → Int → Option (List Int)
 | 0, _, _, _, _, _ => none
 | k + 1, x0, x1, x2, x7, x8 => if x8 < x0 then (if 0 ≤ x8 then (if x8 < (x7.length : Int) then (wireloomref05_Back.l0 k x0 x1 x2 (x7.set (x8 : Int).toNat (-1)) (wrap64 (x8 + 1))) else (none)) else (none)) else (if 0 ≤ x2 then (if x2 < (x7.length : Int) then (wireloomref05_Back.l1 k x0 x1 (x7.set (x2 : Int).toNat 0) 0) else (none)) else (none))
def wireloomref05_Back.l1 : Nat → Int → List (S55) → List Int → Int → Option (List Int)
 | 0, _, _, _, _ => none
 | k + 1, x0, x1, x7, x9 => if x9 < x0 then (wireloomref05_Back.l2 k x0 x1 x7 x9 0) else (some x7)
def wireloomref05_Back.l2 : Nat → Int → List (S55) → List Int → Int → Int → Option (List Int)
 | 0, _, _, _, _, _ => none
 | k + 1, x0, x1, x7, x9, x10 => if x10 < (x1.length : Int) then (if 0 ≤ x10 then (if 0 ≤ ((rd_T55 x1 x10).f1) then (if ((rd_T55 x1 x10).f1) < (x7.length : Int) then (if (rd x7 ((rd_T55 x1 x10).f1)) = x9 then (if 0 ≤ ((rd_T55 x1 x10).f0) then (if ((rd_T55 x1 x10).f0) < (x7.length : Int) then (if (rd x7 ((rd_T55 x1 x10).f0)) < 0 then (wireloomref05_Back.l2 k x0 x1 (x7.set (((rd_T55 x1 x10).f0) : Int).toNat (wrap64 (x9 + 1))) x9 (wrap64 (x10 + 1))) else (wireloomref05_Back.l2 k x0 x1 x7 x9 (wrap64 (x10 + 1)))) else (none)) else (none)) else (wireloomref05_Back.l2 k x0 x1 x7 x9 (wrap64 (x10 + 1)))) else (none)) else (none)) else (none)) else (wireloomref05_Back.l1 k x0 x1 x7 (wrap64 (x9 + 1)))
end
def wireloomref05_Back.f (k : Nat) (a0 : Int) (l1 : List (S55)) (a2 : Int) : Option (List Int) := if 0 ≤ a0 then (if (a0 : Int).toNat ≤ 35184372088832 then (wireloomref05_Back.l0 k a0 l1 a2 (List.replicate (a0 : Int).toNat 0) 0) else (none)) else (none)
set_option maxHeartbeats 8000000 in
set_option maxRecDepth 100000 in
theorem wireloomref05_Back.calls (k : Nat) (a0 : Int) (A1 : Option Addr) (c1 : Nat) (l1 : List (S55)) (a2 : Int) (r : List Int) (w : World) (hr1 : Kd.C k55 w A1 l1.length l1) (hc1 : l1.length ≤ c1) (h : wireloomref05_Back.f k a0 l1 a2 = some r) :
  Calls Try.prog 38 #[.int .i64 a0, .slice A1 l1.length c1, .int .i64 a2] w fun e w' => ∃ v0_ : Value, e = .returned (v0_) ∧ Kd.R (Kd.int .i64) 3 w' w.heap.size (fun _ => True) v0_ r ∧ Below w.heap.size w w' := by
 have HR1 := Aside0.mk hr1
 have HC1 := Aside0.mk hc1
 clear hr1 hc1
 have HB := Aside0.mk (Below.refl w.heap.size w)
 have H : (if 0 ≤ a0 then (if (a0 : Int).toNat ≤ 35184372088832 then (wireloomref05_Back.l0 k a0 l1 a2 (List.replicate (a0 : Int).toNat 0) 0) else (none)) else (none)) = some r := h
 clear h
 by_cases c4 : 0 ≤ a0
 rotate_left
 ·rw [if_neg c4] at H
  exact absurd H (by simp)
 rw [if_pos c4] at H
 have c4b0 := eq_true c4
 have c4b1 : decide (0 ≤ a0) = true := decide_eq_true c4
 clear c4
 by_cases c5 : (a0 : Int).toNat ≤ 35184372088832
 rotate_left
 ·rw [if_neg c5] at H
  exact absurd H (by simp)
 rw [if_pos c5] at H
 have c5b0 := eq_true c5
 have c5b1 : decide ((a0 : Int).toNat ≤ 35184372088832) = true := decide_eq_true c5
 clear c5
 obtain ⟨y293, hy293⟩ : ∃ y_ : List Int, y_ = (List.replicate (a0 : Int).toNat 0) := ⟨_, rfl⟩
 replace H : (wireloomref05_Back.l0 k a0 l1 a2 y293 0) = some r := by first | (rw [hy293]; with_reducible exact H) | (have H2_ := (Option.bind_some _ _).symm.trans H; rw [hy293]; with_reducible exact H2_) | (have H2_ := (Option.bind_some _ _).symm.trans H; with_reducible exact H2_) | with_reducible exact H | (rw [hy293]; exact H) | exact H
 have Ny293 := Aside0.mk hy293
 clear hy293
 have H' := Aside0.mk H
 clear H
 go_enter Try.func38, Try.ntmps38
 go_wp2_with (first | ((with_reducible refine gate_dst (N := 12) rfl ?_); refine Kd.R_make (Kd.int .i64) _ 3 rfl (N := 12) rfl 26 _ _ rfl a0 rfl rfl Try.underlying26 (.int .i64 0) 8 info3 rfl (by decide) (by omega) 0 (ok := fun _ => True) (okp := fun _ => True) rfl (fun _ hk => hk) trivial oD (Nat.le_trans (Nat.mul_le_mul_right _ (oD : a0.toNat ≤ 35184372088832)) (by omega)) (Below.refl _ _) (Nat.le_refl _) ?_; intro v294 w6 ho7 hb hg_ hnew_; clear hg_ hnew_; (first | rw [← Ny293.out] at ho7 | (simp only [Int.reduceToNat] at ho7; rw [← Ny293.out] at ho7)); have HO295 := Aside0.mk (Kd.R_lower ho7 (below_size (wB0 HB.out))); replace HB := Aside0.mk (below_step (wB0 HB.out) hb); clear hb ho7))
 go_loopg [8] k (fun kq v8 w' => ∃ (x7_1 : List Int) (x8_1 : Int), v8 = .int .i64 x8_1 ∧ Aside0 (wireloomref05_Back.l0 kq a0 l1 a2 x7_1 x8_1 = some r) ∧ Aside0 (kq ≤ k) ∧ Aside0 (Kd.R (Kd.int .i64) 3 w' w.heap.size (fun _ => True) v294 x7_1) ∧ Aside0 (Below w.heap.size w w'))
 case atStart => exact ⟨(y293), (0), rS, H', ⟨Nat.le_refl _⟩, ⟨rA HO295.out⟩, ⟨wB0 HB.out⟩⟩
 case round =>
  clear H'
  try clear c1; try clear p2; try clear c3; try clear c4; try clear c4b0; try clear c4b1; try clear c5; try clear c5b0; try clear c5b1
  obtain ⟨x7_1, x8_1, rfl, HA, HK1, HO_7, HB⟩ := hrel
  cases gk with
  | zero => exact absurd HA.out (by simp [wireloomref05_Back.l0])
  | succ k1 =>
   have H := HA.out
   clear HA
   simp only [wireloomref05_Back.l0] at H
   by_cases c8 : x8_1 < a0
   ·rw [if_pos c8] at H
    have c8b0 : decide (x8_1 < a0) = true := decide_eq_true c8
    clear c8
    by_cases c9 : 0 ≤ x8_1
    rotate_left
    ·rw [if_neg c9] at H
     exact absurd H (by simp)
    rw [if_pos c9] at H
    have c9b0 : decide (0 ≤ x8_1) = true := decide_eq_true c9
    clear c9
    by_cases c10 : x8_1 < (x7_1.length : Int)
    rotate_left
    ·rw [if_neg c10] at H
     exact absurd H (by simp)
    rw [if_pos c10] at H
    have c10b0 : decide (x8_1 < (x7_1.length : Int)) = true := decide_eq_true c10
    clear c10
    obtain ⟨y296, hy296⟩ : ∃ y_ : List Int, y_ = (x7_1.set (x8_1 : Int).toNat (-1)) := ⟨_, rfl⟩
    replace H : (wireloomref05_Back.l0 k1 a0 l1 a2 y296 (wrap64 (x8_1 + 1))) = some r := by first | (rw [hy296]; with_reducible exact H) | (have H2_ := (Option.bind_some _ _).symm.trans H; rw [hy296]; with_reducible exact H2_) | (have H2_ := (Option.bind_some _ _).symm.trans H; with_reducible exact H2_) | with_reducible exact H | (rw [hy296]; exact H) | exact H
    have Ny296 := Aside0.mk hy296
    clear hy296
    have H' := Aside0.mk H
    clear H
    have p11 : 0 ≤ (x8_1 : Int) := oD
    have q11 : (x8_1 : Int) < ((x7_1.length : Int) : Int) := oD
    obtain ⟨go11, co11, eo11, gb11, gl11, cl11, HG11⟩ := Kd.R_form HO_7.out (by omega)
    (first | cases eo11 | (injection eo11 with ea_ en_ ec_; (first | subst ea_ | (injection ea_ with ea_; subst ea_)); subst ec_; clear en_))
    have GB11 := Aside0.mk gb11
    have GG11 := Aside0.mk HG11
    clear gb11 gl11 HG11
    obtain ⟨hx11_0, hf11_0⟩ := Kd.R_celln 0 HO_7.out (x8_1 : Int) p11 q11
    replace p11 := eq_true p11
    replace q11 := eq_true q11
    have HP12 := Kd.R_putg HO_7.out (x8_1 : Int) (-1)
    go_wp2_with (first | ((with_reducible refine gate_store (t := 3) (p := 20) rfl ?_); refine store_event (t := 3) (p := 20) (v := ?vo_w13) (w1 := (wr.setCell ⟨go11, (x8_1 : Int).toNat, none⟩ (.int .i64 (-1)))) ?hg ?ho ?hn ?hr ?_; (case ho => rfl); (case hg => rfl); (case hn => rfl); (case hr => first | (go_simp; done) | (go_simp; rfl)); intro w13 hw; have hg : wr.grownBy w13 (some go11) := (by rw [hw]; exact HP12.2); have hp_ : Kd.R (Kd.int .i64) 3 w13 w.heap.size (fun _ => True) (.slice (some ⟨go11, 0, none⟩) x7_1.length co11) y296 := (by rw [hw, Ny296.out]; exact HP12.1); clear HP12; replace HO_7 := Aside0.mk (hp_); replace HB := Aside0.mk ((by rw [hw]; exact below_set (HB.out) GB11.out : Below w.heap.size w w13)); clear hg hw hp_))
    go_roundg k1
    case measure => have := HK1.out; omega
    case rel => exact ⟨(y296), (wrap64 (x8_1 + 1)), rS, H', ⟨by have := HK1.out; omega⟩, ⟨rA HO_7.out⟩, ⟨wB0 HB.out⟩⟩
   ·rw [if_neg c8] at H
    have c8b0 : decide (x8_1 < a0) = false := decide_eq_false c8
    clear c8
    by_cases c14 : 0 ≤ a2
    rotate_left
    ·rw [if_neg c14] at H
     exact absurd H (by simp)
    rw [if_pos c14] at H
    have c14b0 : decide (0 ≤ a2) = true := decide_eq_true c14
    clear c14
    by_cases c15 : a2 < (x7_1.length : Int)
    rotate_left
    ·rw [if_neg c15] at H
     exact absurd H (by simp)
    rw [if_pos c15] at H
    have c15b0 : decide (a2 < (x7_1.length : Int)) = true := decide_eq_true c15
    clear c15
    obtain ⟨y297, hy297⟩ : ∃ y_ : List Int, y_ = (x7_1.set (a2 : Int).toNat 0) := ⟨_, rfl⟩
    replace H : (wireloomref05_Back.l1 k1 a0 l1 y297 0) = some r := by first | (rw [hy297]; with_reducible exact H) | (have H2_ := (Option.bind_some _ _).symm.trans H; rw [hy297]; with_reducible exact H2_) | (have H2_ := (Option.bind_some _ _).symm.trans H; with_reducible exact H2_) | with_reducible exact H | (rw [hy297]; exact H) | exact H
    have Ny297 := Aside0.mk hy297
    clear hy297
    have H' := Aside0.mk H
    clear H
    have p16 : 0 ≤ (a2 : Int) := oD
    have q16 : (a2 : Int) < ((x7_1.length : Int) : Int) := oD
    obtain ⟨go16, co16, eo16, gb16, gl16, cl16, HG16⟩ := Kd.R_form HO_7.out (by omega)
    (first | cases eo16 | (injection eo16 with ea_ en_ ec_; (first | subst ea_ | (injection ea_ with ea_; subst ea_)); subst ec_; clear en_))
    have GB16 := Aside0.mk gb16
    have GG16 := Aside0.mk HG16
    clear gb16 gl16 HG16
    obtain ⟨hx16_0, hf16_0⟩ := Kd.R_celln 0 HO_7.out (a2 : Int) p16 q16
    replace p16 := eq_true p16
    replace q16 := eq_true q16
    have HP17 := Kd.R_putg HO_7.out (a2 : Int) 0
    go_wp2_with (first | ((with_reducible refine gate_store (t := 3) (p := 23) rfl ?_); refine store_event (t := 3) (p := 23) (v := ?vo_w18) (w1 := (wr.setCell ⟨go16, (a2 : Int).toNat, none⟩ (.int .i64 0))) ?hg ?ho ?hn ?hr ?_; (case ho => rfl); (case hg => rfl); (case hn => rfl); (case hr => first | (go_simp; done) | (go_simp; rfl)); intro w18 hw; have hg : wr.grownBy w18 (some go16) := (by rw [hw]; exact HP17.2); have hp_ : Kd.R (Kd.int .i64) 3 w18 w.heap.size (fun _ => True) (.slice (some ⟨go16, 0, none⟩) x7_1.length co16) y297 := (by rw [hw, Ny297.out]; exact HP17.1); clear HP17; replace HO_7 := Aside0.mk (hp_); replace HB := Aside0.mk ((by rw [hw]; exact below_set (HB.out) GB16.out : Below w.heap.size w w18)); clear hg hw hp_))
    go_loopg [9] k1 (fun kq v9 w' => ∃ (x7_2 : List Int) (x9_2 : Int), v9 = .int .i64 x9_2 ∧ Aside0 (wireloomref05_Back.l1 kq a0 l1 x7_2 x9_2 = some r) ∧ Aside0 (kq ≤ k1) ∧ Aside0 (Kd.R (Kd.int .i64) 3 w' w.heap.size (fun _ => True) (.slice (some ⟨go16, 0, none⟩) x7_1.length co16) x7_2) ∧ Aside0 (Below w.heap.size w w'))
    case atStart => exact ⟨(y297), (0), rS, H', ⟨Nat.le_refl _⟩, ⟨rA HO_7.out⟩, ⟨wB0 HB.out⟩⟩
    case round =>
     clear H'
     try clear c1; try clear p1; try clear q1; try clear hx1; try clear p2; try clear c3; try clear c4; try clear c4b0; try clear c4b1; try clear c5; try clear c5b0; try clear c5b1; try clear p6; try clear c8; try clear c8b0; try clear c9; try clear c9b0; try clear c10; try clear c10b0; try clear p11; try clear q11; try clear hx11; try clear hf11; try clear c14; try clear c14b0; try clear c15; try clear c15b0; try clear p16; try clear q16; try clear hx16; try clear hf16; try clear hx11_0; try clear hx16_0; try clear p11; try clear p16; try clear p2; try clear q11; try clear q16
     obtain ⟨x7_2, x9_2, rfl, HA, HK2, HO_7, HB⟩ := hrel
     have hl7_2 := (Kd.R_reads' HO_7.out).1
     rw [hl7_2] at HO_7
     (try simp only [hl7_2])
     cases gk with
     | zero => exact absurd HA.out (by simp [wireloomref05_Back.l1])
     | succ k2 =>
      have H := HA.out
      clear HA
      simp only [wireloomref05_Back.l1] at H
      by_cases c19 : x9_2 < a0
      ·rw [if_pos c19] at H
       have c19b0 : decide (x9_2 < a0) = true := decide_eq_true c19
       clear c19
       have H' := Aside0.mk H
       clear H
       go_wp2
       go_loopg [10] k2 (fun kq v10 w' => ∃ (x7_3 : List Int) (x10_3 : Int), v10 = .int .i64 x10_3 ∧ Aside0 (wireloomref05_Back.l2 kq a0 l1 x7_3 x9_2 x10_3 = some r) ∧ Aside0 (kq ≤ k2) ∧ Aside0 (Kd.R (Kd.int .i64) 3 w' w.heap.size (fun _ => True) (.slice (some ⟨go16, 0, none⟩) x7_2.length co16) x7_3) ∧ Aside0 (Below w.heap.size w w'))
       case atStart => exact ⟨(x7_2), (0), rS, H', ⟨Nat.le_refl _⟩, ⟨by (try simp only [hl7_2]); (with_reducible repeat (first | apply Kd.R_alloc | apply Kd.R_drewN | apply Kd.R_drew)); exact HO_7.out⟩, ⟨wB0 HB.out⟩⟩
       case round =>
        clear H'
        try clear c1; try clear p1; try clear q1; try clear hx1; try clear p2; try clear c3; try clear c4; try clear c4b0; try clear c4b1; try clear c5; try clear c5b0; try clear c5b1; try clear p6; try clear c8; try clear c8b0; try clear c9; try clear c9b0; try clear c10; try clear c10b0; try clear p11; try clear q11; try clear hx11; try clear hf11; try clear c14; try clear c14b0; try clear c15; try clear c15b0; try clear p16; try clear q16; try clear hx16; try clear hf16; try clear c19; try clear c19b0; try clear hx11_0; try clear hx16_0; try clear p1; try clear p11; try clear p16; try clear p2; try clear p6
        try clear q1; try clear q11; try clear q16
        obtain ⟨x7_3, x10_3, rfl, HA, HK3, HO_7, HB⟩ := hrel
        have hl7_3 := (Kd.R_reads' HO_7.out).1
        rw [hl7_3] at HO_7
        (try simp only [hl7_3])
        cases gk with
        | zero => exact absurd HA.out (by simp [wireloomref05_Back.l2])
        | succ k3 =>
         have H := HA.out
         clear HA
         simp only [wireloomref05_Back.l2] at H
         by_cases c20 : x10_3 < (l1.length : Int)
         ·rw [if_pos c20] at H
          have c20b0 : decide (x10_3 < (l1.length : Int)) = true := decide_eq_true c20
          clear c20
          by_cases c21 : 0 ≤ x10_3
          rotate_left
          ·rw [if_neg c21] at H
           exact absurd H (by simp)
          rw [if_pos c21] at H
          have c21b0 : decide (0 ≤ x10_3) = true := decide_eq_true c21
          clear c21
          by_cases c22 : 0 ≤ ((rd_T55 l1 x10_3).f1)
          rotate_left
          ·rw [if_neg c22] at H
           exact absurd H (by simp)
          rw [if_pos c22] at H
          have c22b0 : decide (0 ≤ ((rd_T55 l1 x10_3).f1)) = true := decide_eq_true c22
          clear c22
          by_cases c23 : ((rd_T55 l1 x10_3).f1) < (x7_3.length : Int)
          rotate_left
          ·rw [if_neg c23] at H
           exact absurd H (by simp)
          rw [if_pos c23] at H
          have c23b0 : decide (((rd_T55 l1 x10_3).f1) < (x7_3.length : Int)) = true := decide_eq_true c23
          clear c23
          by_cases c24 : (rd x7_3 ((rd_T55 l1 x10_3).f1)) = x9_2
          ·rw [if_pos c24] at H
           have c24b0 : ((rd x7_3 ((rd_T55 l1 x10_3).f1)) == x9_2) = true := beq_iff_eq.mpr c24
           have c24b1 : ((rd x7_3 ((rd_T55 l1 x10_3).f1)) != x9_2) = false := bne_eq_false_iff_eq.mpr c24
           clear c24
           by_cases c25 : 0 ≤ ((rd_T55 l1 x10_3).f0)
           rotate_left
           ·rw [if_neg c25] at H
            exact absurd H (by simp)
           rw [if_pos c25] at H
           have c25b0 : decide (0 ≤ ((rd_T55 l1 x10_3).f0)) = true := decide_eq_true c25
           clear c25
           by_cases c26 : ((rd_T55 l1 x10_3).f0) < (x7_3.length : Int)
           rotate_left
           ·rw [if_neg c26] at H
            exact absurd H (by simp)
           rw [if_pos c26] at H
           have c26b0 : decide (((rd_T55 l1 x10_3).f0) < (x7_3.length : Int)) = true := decide_eq_true c26
           clear c26
           by_cases c27 : (rd x7_3 ((rd_T55 l1 x10_3).f0)) < 0
           ·rw [if_pos c27] at H
            have c27b0 : decide ((rd x7_3 ((rd_T55 l1 x10_3).f0)) < 0) = true := decide_eq_true c27
            clear c27
            obtain ⟨y303, hy303⟩ : ∃ y_ : List Int, y_ = (x7_3.set (((rd_T55 l1 x10_3).f0) : Int).toNat (wrap64 (x9_2 + 1))) := ⟨_, rfl⟩
            replace H : (wireloomref05_Back.l2 k3 a0 l1 y303 x9_2 (wrap64 (x10_3 + 1))) = some r := by first | (rw [hy303]; with_reducible exact H) | (have H2_ := (Option.bind_some _ _).symm.trans H; rw [hy303]; with_reducible exact H2_) | (have H2_ := (Option.bind_some _ _).symm.trans H; with_reducible exact H2_) | with_reducible exact H | (rw [hy303]; exact H) | exact H
            have Ny303 := Aside0.mk hy303
            clear hy303
            have H' := Aside0.mk H
            clear H
            have p298 : 0 ≤ (x10_3 : Int) := oD
            have q298 : x10_3 < (l1.length : Int) := oD
            obtain ⟨ad298, e298, hx298_0, hx298_1⟩ := at_T55 HR1.out x10_3 p298 q298
            cases e298
            (try (replace hx298_0 := hB HB.out hx298_0))
            (try (replace hx298_1 := hB HB.out hx298_1))
            replace p298 := eq_true p298
            replace q298 := eq_true q298
            have p299 : 0 ≤ (((rd_T55 l1 x10_3).f1) : Int) := oD
            have q299 : ((rd_T55 l1 x10_3).f1) < (x7_3.length : Int) := oD
            obtain ⟨ad299, e299, hx299_0⟩ := Kd.at_int (Kd.R_reads' HO_7.out).2.2 ((rd_T55 l1 x10_3).f1) p299 q299
            obtain rfl : (⟨go16, 0, none⟩ : Addr) = ad299 := (by injection e299)
            (first | simp only [add_plain] at hx299_0 | simp only [add_at] at hx299_0 | simp only [Addr.add, Nat.zero_add] at hx299_0 | skip)
            replace p299 := eq_true p299
            replace q299 := eq_true q299
            have p300 : 0 ≤ (x10_3 : Int) := oD
            have q300 : x10_3 < (l1.length : Int) := oD
            obtain ⟨ad300, e300, hx300_0, hx300_1⟩ := at_T55 HR1.out x10_3 p300 q300
            obtain rfl : ad298 = ad300 := (by injection e300)
            (try (replace hx300_0 := hB HB.out hx300_0))
            (try (replace hx300_1 := hB HB.out hx300_1))
            replace p300 := eq_true p300
            replace q300 := eq_true q300
            have p301 : 0 ≤ (((rd_T55 l1 x10_3).f0) : Int) := oD
            have q301 : ((rd_T55 l1 x10_3).f0) < (x7_3.length : Int) := oD
            obtain ⟨ad301, e301, hx301_0⟩ := Kd.at_int (Kd.R_reads' HO_7.out).2.2 ((rd_T55 l1 x10_3).f0) p301 q301
            obtain rfl : (⟨go16, 0, none⟩ : Addr) = ad301 := (by injection e301)
            (first | simp only [add_plain] at hx301_0 | simp only [add_at] at hx301_0 | simp only [Addr.add, Nat.zero_add] at hx301_0 | skip)
            replace p301 := eq_true p301
            replace q301 := eq_true q301
            have p302 : 0 ≤ (x10_3 : Int) := oD
            have q302 : x10_3 < (l1.length : Int) := oD
            obtain ⟨ad302, e302, hx302_0, hx302_1⟩ := at_T55 HR1.out x10_3 p302 q302
            obtain rfl : ad298 = ad302 := (by injection e302)
            (try (replace hx302_0 := hB HB.out hx302_0))
            (try (replace hx302_1 := hB HB.out hx302_1))
            replace p302 := eq_true p302
            replace q302 := eq_true q302
            have p28 : 0 ≤ (((rd_T55 l1 x10_3).f0) : Int) := oD
            have q28 : (((rd_T55 l1 x10_3).f0) : Int) < ((x7_3.length : Int) : Int) := oD
            obtain ⟨hx28_0, hf28_0⟩ := Kd.R_celln 0 HO_7.out (((rd_T55 l1 x10_3).f0) : Int) p28 q28
            replace p28 := eq_true p28
            replace q28 := eq_true q28
            have HP29 := Kd.R_putg HO_7.out (((rd_T55 l1 x10_3).f0) : Int) (wrap64 (x9_2 + 1))
            go_wp2_with (first | ((with_reducible refine gate_store (t := 3) (p := 64) rfl ?_); refine store_event (t := 3) (p := 64) (v := ?vo_w30) (w1 := (wr.setCell ⟨go16, (((rd_T55 l1 x10_3).f0) : Int).toNat, none⟩ (.int .i64 (wrap64 (x9_2 + 1))))) ?hg ?ho ?hn ?hr ?_; (case ho => rfl); (case hg => rfl); (case hn => rfl); (case hr => first | (go_simp; done) | (go_simp; rfl)); intro w30 hw; have hg : wr.grownBy w30 (some go16) := (by rw [hw]; exact HP29.2); have hp_ : Kd.R (Kd.int .i64) 3 w30 w.heap.size (fun _ => True) (.slice (some ⟨go16, 0, none⟩) x7_3.length co16) y303 := (by rw [hw, Ny303.out]; exact HP29.1); clear HP29; replace HO_7 := Aside0.mk (hp_); replace HB := Aside0.mk ((by rw [hw]; exact below_set (HB.out) GB16.out : Below w.heap.size w w30)); clear hg hw hp_))
            (try simp only [← hl7_3])
            go_roundg k3
            case measure => have := HK1.out; have := HK2.out; have := HK3.out; omega
            case rel => exact ⟨(y303), (wrap64 (x10_3 + 1)), rS, H', ⟨by have := HK1.out; have := HK2.out; have := HK3.out; omega⟩, ⟨by (try simp only [hl7_2]); (try simp only [hl7_3]); (with_reducible repeat (first | apply Kd.R_alloc | apply Kd.R_drewN | apply Kd.R_drew)); exact HO_7.out⟩, ⟨wB0 HB.out⟩⟩
           ·rw [if_neg c27] at H
            have c27b0 : decide ((rd x7_3 ((rd_T55 l1 x10_3).f0)) < 0) = false := decide_eq_false c27
            clear c27
            have H' := Aside0.mk H
            clear H
            have p298 : 0 ≤ (x10_3 : Int) := oD
            have q298 : x10_3 < (l1.length : Int) := oD
            obtain ⟨ad298, e298, hx298_0, hx298_1⟩ := at_T55 HR1.out x10_3 p298 q298
            cases e298
            (try (replace hx298_0 := hB HB.out hx298_0))
            (try (replace hx298_1 := hB HB.out hx298_1))
            replace p298 := eq_true p298
            replace q298 := eq_true q298
            have p299 : 0 ≤ (((rd_T55 l1 x10_3).f1) : Int) := oD
            have q299 : ((rd_T55 l1 x10_3).f1) < (x7_3.length : Int) := oD
            obtain ⟨ad299, e299, hx299_0⟩ := Kd.at_int (Kd.R_reads' HO_7.out).2.2 ((rd_T55 l1 x10_3).f1) p299 q299
            obtain rfl : (⟨go16, 0, none⟩ : Addr) = ad299 := (by injection e299)
            (first | simp only [add_plain] at hx299_0 | simp only [add_at] at hx299_0 | simp only [Addr.add, Nat.zero_add] at hx299_0 | skip)
            replace p299 := eq_true p299
            replace q299 := eq_true q299
            have p300 : 0 ≤ (x10_3 : Int) := oD
            have q300 : x10_3 < (l1.length : Int) := oD
            obtain ⟨ad300, e300, hx300_0, hx300_1⟩ := at_T55 HR1.out x10_3 p300 q300
            obtain rfl : ad298 = ad300 := (by injection e300)
            (try (replace hx300_0 := hB HB.out hx300_0))
            (try (replace hx300_1 := hB HB.out hx300_1))
            replace p300 := eq_true p300
            replace q300 := eq_true q300
            have p301 : 0 ≤ (((rd_T55 l1 x10_3).f0) : Int) := oD
            have q301 : ((rd_T55 l1 x10_3).f0) < (x7_3.length : Int) := oD
            obtain ⟨ad301, e301, hx301_0⟩ := Kd.at_int (Kd.R_reads' HO_7.out).2.2 ((rd_T55 l1 x10_3).f0) p301 q301
            obtain rfl : (⟨go16, 0, none⟩ : Addr) = ad301 := (by injection e301)
            (first | simp only [add_plain] at hx301_0 | simp only [add_at] at hx301_0 | simp only [Addr.add, Nat.zero_add] at hx301_0 | skip)
            replace p301 := eq_true p301
            replace q301 := eq_true q301
            go_wp2
            (try simp only [← hl7_3])
            go_roundg k3
            case measure => have := HK1.out; have := HK2.out; have := HK3.out; omega
            case rel => exact ⟨(x7_3), (wrap64 (x10_3 + 1)), rS, H', ⟨by have := HK1.out; have := HK2.out; have := HK3.out; omega⟩, ⟨by (try simp only [hl7_2]); (try simp only [hl7_3]); (with_reducible repeat (first | apply Kd.R_alloc | apply Kd.R_drewN | apply Kd.R_drew)); exact HO_7.out⟩, ⟨wB0 HB.out⟩⟩
          ·rw [if_neg c24] at H
           have c24b0 : ((rd x7_3 ((rd_T55 l1 x10_3).f1)) == x9_2) = false := beq_eq_false_iff_ne.mpr c24
           have c24b1 : ((rd x7_3 ((rd_T55 l1 x10_3).f1)) != x9_2) = true := bne_iff_ne.mpr c24
           have H' := Aside0.mk H
           clear H
           have p298 : 0 ≤ (x10_3 : Int) := oD
           have q298 : x10_3 < (l1.length : Int) := oD
           obtain ⟨ad298, e298, hx298_0, hx298_1⟩ := at_T55 HR1.out x10_3 p298 q298
           cases e298
           (try (replace hx298_0 := hB HB.out hx298_0))
           (try (replace hx298_1 := hB HB.out hx298_1))
           replace p298 := eq_true p298
           replace q298 := eq_true q298
           have p299 : 0 ≤ (((rd_T55 l1 x10_3).f1) : Int) := oD
           have q299 : ((rd_T55 l1 x10_3).f1) < (x7_3.length : Int) := oD
           obtain ⟨ad299, e299, hx299_0⟩ := Kd.at_int (Kd.R_reads' HO_7.out).2.2 ((rd_T55 l1 x10_3).f1) p299 q299
           obtain rfl : (⟨go16, 0, none⟩ : Addr) = ad299 := (by injection e299)
           (first | simp only [add_plain] at hx299_0 | simp only [add_at] at hx299_0 | simp only [Addr.add, Nat.zero_add] at hx299_0 | skip)
           replace p299 := eq_true p299
           replace q299 := eq_true q299
           go_wp2
           (try simp only [← hl7_3])
           go_roundg k3
           case measure => have := HK1.out; have := HK2.out; have := HK3.out; omega
           case rel => exact ⟨(x7_3), (wrap64 (x10_3 + 1)), rS, H', ⟨by have := HK1.out; have := HK2.out; have := HK3.out; omega⟩, ⟨by (try simp only [hl7_2]); (try simp only [hl7_3]); (with_reducible repeat (first | apply Kd.R_alloc | apply Kd.R_drewN | apply Kd.R_drew)); exact HO_7.out⟩, ⟨wB0 HB.out⟩⟩
         ·rw [if_neg c20] at H
          have c20b0 : decide (x10_3 < (l1.length : Int)) = false := decide_eq_false c20
          clear c20
          have H' := Aside0.mk H
          clear H
          go_wp2
          (try simp only [← hl7_2, ← hl7_3])
          go_roundg k3
          case measure => have := HK1.out; have := HK2.out; have := HK3.out; omega
          case rel => exact ⟨(x7_3), (wrap64 (x9_2 + 1)), rS, H', ⟨by have := HK1.out; have := HK2.out; have := HK3.out; omega⟩, ⟨by (try simp only [hl7_2]); (try simp only [hl7_3]); (with_reducible repeat (first | apply Kd.R_alloc | apply Kd.R_drewN | apply Kd.R_drew)); exact HO_7.out⟩, ⟨wB0 HB.out⟩⟩
      ·rw [if_neg c19] at H
       have c19b0 : decide (x9_2 < a0) = false := decide_eq_false c19
       clear c19
       obtain rfl := Option.some.inj H
       go_wp2
       go_ret
       exact ⟨_, eS, by (with_reducible repeat (first | apply Kd.R_alloc | apply Kd.R_drewN | apply Kd.R_drew)); exact HO_7.out, by repeat (first | (with_reducible first | exact HB.out | apply below_alloc | apply pw_below_drewN | apply below_drew1) | exact HB.out)⟩
end Go.Proofs.Ytlldjinejckbaaa.PD

end
section
namespace Go.Proofs.Ytlldjinejckbaaa.PD
open Go.RowKit Go.Proofs.YtlldjinejckbaaaW.PrintWords Go.Proofs.YtlldjinejckbaaaW.PrintLast Go.Proofs.YtlldjinejckbaaaW.PrintMore
attribute [local go_sem] max2_int min2_int max_two min_two max_three min_three max_four min_four
set_option linter.unusedVariables false
set_option linter.unusedSimpArgs false
def wireloomref05_through.l0 : Nat → List (S55) → Int → List Int → Int → Int → Option (Int)
 | 0, _, _, _, _, _ => none
 | k + 1, x1, x2, x7, x8, x9 => if x9 < (x1.length : Int) then (if 0 ≤ x9 then (if 0 ≤ ((rd_T55 x1 x9).f1) then (if ((rd_T55 x1 x9).f1) < (x7.length : Int) then (if ((rd_T55 x1 x9).f0) = x2 then (if (rd x7 ((rd_T55 x1 x9).f1)) ≥ 0 then (if x8 = 0 then (wireloomref05_through.l0 k x1 x2 x7 (wrap64 ((rd x7 ((rd_T55 x1 x9).f1)) + 1)) (wrap64 (x9 + 1))) else (if (wrap64 ((rd x7 ((rd_T55 x1 x9).f1)) + 1)) < x8 then (wireloomref05_through.l0 k x1 x2 x7 (wrap64 ((rd x7 ((rd_T55 x1 x9).f1)) + 1)) (wrap64 (x9 + 1))) else (wireloomref05_through.l0 k x1 x2 x7 x8 (wrap64 (x9 + 1))))) else (wireloomref05_through.l0 k x1 x2 x7 x8 (wrap64 (x9 + 1)))) else (wireloomref05_through.l0 k x1 x2 x7 x8 (wrap64 (x9 + 1)))) else (none)) else (none)) else (none)) else (some x8)
def wireloomref05_through.f (k : Nat) (a0 : Int) (l1 : List (S55)) (a2 : Int) : Option (Int) := (wireloomref05_Back.f k a0 l1 a2).bind fun t304 => (wireloomref05_through.l0 k l1 a2 t304 0 0)
set_option maxHeartbeats 8000000 in
set_option maxRecDepth 100000 in
theorem wireloomref05_through.calls (k : Nat) (a0 : Int) (A1 : Option Addr) (c1 : Nat) (l1 : List (S55)) (a2 : Int) (r : Int) (w : World) (hr1 : Kd.C k55 w A1 l1.length l1) (hc1 : l1.length ≤ c1) (h : wireloomref05_through.f k a0 l1 a2 = some r) :
  Calls Try.prog 37 #[.int .i64 a0, .slice A1 l1.length c1, .int .i64 a2] w fun e w' => e = .returned (.int .i64 r) ∧ Below w.heap.size w w' := by
 have HR1 := Aside0.mk hr1
 have HC1 := Aside0.mk hc1
 clear hr1 hc1
 have HB := Aside0.mk (Below.refl w.heap.size w)
 have H : ((wireloomref05_Back.f k a0 l1 a2).bind fun t304 => (wireloomref05_through.l0 k l1 a2 t304 0 0)) = some r := h
 clear h
 replace H := Option.bind_eq_some_iff.mp H
 obtain ⟨t304, A40, H⟩ := H
 replace H : (wireloomref05_through.l0 k l1 a2 t304 0 0) = some r := H
 have A4 := Aside0.mk A40
 clear A40
 have H' := Aside0.mk H
 clear H
 go_enter Try.func37, Try.ntmps37
 go_wp2_with (first | ((with_reducible refine gate_callee (f := 38) rfl ?_); refine goesL_ (some 14) rfl rfl Try.func38 (by kernel_rfl) rfl #[.int .i64 a0, .slice A1 l1.length c1, .int .i64 a2] rfl (by (try simp only [List.map_toArray, List.map_cons, List.map_nil]); first | done | rfl | (simp only [List.length_drop, List.length_take]; rfl)) ?_; (with_reducible refine (wireloomref05_Back.calls k a0 _ _ l1 a2 t304 _ ?side1 ?side2 A4.out).mono ?_); (case side1 => exact cA HR1.out); (case side2 => exact HC1.out); rintro e w5 ⟨v305, rfl, ho0, hb⟩; refine ⟨_, rfl, ?_⟩; have HO306 := Aside0.mk (Kd.R_lower ho0 (below_size (wB0 HB.out))); replace HB := Aside0.mk (below_step (wB0 HB.out) hb); (try clear hb); (try clear hb2); (try clear hk); (try clear hi); (try clear ho0)))
 go_loopg [8, 9] k (fun kq v8 v9 w' => ∃ (x8_1 : Int) (x9_1 : Int), v8 = .int .i64 x8_1 ∧ v9 = .int .i64 x9_1 ∧ Aside0 (wireloomref05_through.l0 kq l1 a2 t304 x8_1 x9_1 = some r) ∧ Aside0 (kq ≤ k) ∧ Aside0 (Kd.R (Kd.int .i64) 3 w' w.heap.size (fun _ => True) v305 t304) ∧ Aside0 (Below w.heap.size w w'))
 case atStart => exact ⟨(0), (0), rS, rS, H', ⟨Nat.le_refl _⟩, ⟨rA HO306.out⟩, ⟨wB0 HB.out⟩⟩
 case round =>
  clear H'
  try clear c1; try clear p2; try clear c3
  obtain ⟨x8_1, x9_1, rfl, rfl, HA, HK1, HO_7, HB⟩ := hrel
  cases gk with
  | zero => exact absurd HA.out (by simp [wireloomref05_through.l0])
  | succ k1 =>
   have H := HA.out
   clear HA
   simp only [wireloomref05_through.l0] at H
   by_cases c6 : x9_1 < (l1.length : Int)
   ·rw [if_pos c6] at H
    have c6b0 : decide (x9_1 < (l1.length : Int)) = true := decide_eq_true c6
    clear c6
    by_cases c7 : 0 ≤ x9_1
    rotate_left
    ·rw [if_neg c7] at H
     exact absurd H (by simp)
    rw [if_pos c7] at H
    have c7b0 : decide (0 ≤ x9_1) = true := decide_eq_true c7
    clear c7
    by_cases c8 : 0 ≤ ((rd_T55 l1 x9_1).f1)
    rotate_left
    ·rw [if_neg c8] at H
     exact absurd H (by simp)
    rw [if_pos c8] at H
    have c8b0 : decide (0 ≤ ((rd_T55 l1 x9_1).f1)) = true := decide_eq_true c8
    clear c8
    by_cases c9 : ((rd_T55 l1 x9_1).f1) < (t304.length : Int)
    rotate_left
    ·rw [if_neg c9] at H
     exact absurd H (by simp)
    rw [if_pos c9] at H
    have c9b0 : decide (((rd_T55 l1 x9_1).f1) < (t304.length : Int)) = true := decide_eq_true c9
    clear c9
    by_cases c10 : ((rd_T55 l1 x9_1).f0) = a2
    ·rw [if_pos c10] at H
     have c10b0 : (((rd_T55 l1 x9_1).f0) == a2) = true := beq_iff_eq.mpr c10
     have c10b1 : (((rd_T55 l1 x9_1).f0) != a2) = false := bne_eq_false_iff_eq.mpr c10
     clear c10
     by_cases c11 : (rd t304 ((rd_T55 l1 x9_1).f1)) ≥ 0
     ·rw [if_pos c11] at H
      have c11b0 : decide (0 ≤ (rd t304 ((rd_T55 l1 x9_1).f1))) = true := decide_eq_true c11
      clear c11
      by_cases c12 : x8_1 = 0
      ·rw [if_pos c12] at H
       have c12b0 : (x8_1 == 0) = true := beq_iff_eq.mpr c12
       have c12b1 : (x8_1 != 0) = false := bne_eq_false_iff_eq.mpr c12
       clear c12
       have H' := Aside0.mk H
       clear H
       have p307 : 0 ≤ (x9_1 : Int) := oD
       have q307 : x9_1 < (l1.length : Int) := oD
       obtain ⟨ad307, e307, hx307_0, hx307_1⟩ := at_T55 HR1.out x9_1 p307 q307
       cases e307
       (try (replace hx307_0 := hB HB.out hx307_0))
       (try (replace hx307_1 := hB HB.out hx307_1))
       replace p307 := eq_true p307
       replace q307 := eq_true q307
       obtain ⟨Ao13, co13, eo13⟩ := Kd.R_slice HO_7.out
       subst eo13
       have p308 : 0 ≤ (((rd_T55 l1 x9_1).f1) : Int) := oD
       have q308 : ((rd_T55 l1 x9_1).f1) < (t304.length : Int) := oD
       obtain ⟨ad308, e308, hx308_0⟩ := Kd.at_int (Kd.R_reads' HO_7.out).2.2 ((rd_T55 l1 x9_1).f1) p308 q308
       cases e308
       replace p308 := eq_true p308
       replace q308 := eq_true q308
       have p309 : 0 ≤ (x9_1 : Int) := oD
       have q309 : x9_1 < (l1.length : Int) := oD
       obtain ⟨ad309, e309, hx309_0, hx309_1⟩ := at_T55 HR1.out x9_1 p309 q309
       obtain rfl : ad307 = ad309 := (by injection e309)
       (try (replace hx309_0 := hB HB.out hx309_0))
       (try (replace hx309_1 := hB HB.out hx309_1))
       replace p309 := eq_true p309
       replace q309 := eq_true q309
       go_wp2
       go_roundg k1
       case measure => have := HK1.out; omega
       case rel => exact ⟨(wrap64 ((rd t304 ((rd_T55 l1 x9_1).f1)) + 1)), (wrap64 (x9_1 + 1)), rS, rS, H', ⟨by have := HK1.out; omega⟩, ⟨rA HO_7.out⟩, ⟨wB0 HB.out⟩⟩
      ·rw [if_neg c12] at H
       have c12b0 : (x8_1 == 0) = false := beq_eq_false_iff_ne.mpr c12
       have c12b1 : (x8_1 != 0) = true := bne_iff_ne.mpr c12
       by_cases c14 : (wrap64 ((rd t304 ((rd_T55 l1 x9_1).f1)) + 1)) < x8_1
       ·rw [if_pos c14] at H
        have c14b0 : decide ((wrap64 ((rd t304 ((rd_T55 l1 x9_1).f1)) + 1)) < x8_1) = true := decide_eq_true c14
        clear c14
        have H' := Aside0.mk H
        clear H
        have p307 : 0 ≤ (x9_1 : Int) := oD
        have q307 : x9_1 < (l1.length : Int) := oD
        obtain ⟨ad307, e307, hx307_0, hx307_1⟩ := at_T55 HR1.out x9_1 p307 q307
        cases e307
        (try (replace hx307_0 := hB HB.out hx307_0))
        (try (replace hx307_1 := hB HB.out hx307_1))
        replace p307 := eq_true p307
        replace q307 := eq_true q307
        obtain ⟨Ao15, co15, eo15⟩ := Kd.R_slice HO_7.out
        subst eo15
        have p308 : 0 ≤ (((rd_T55 l1 x9_1).f1) : Int) := oD
        have q308 : ((rd_T55 l1 x9_1).f1) < (t304.length : Int) := oD
        obtain ⟨ad308, e308, hx308_0⟩ := Kd.at_int (Kd.R_reads' HO_7.out).2.2 ((rd_T55 l1 x9_1).f1) p308 q308
        cases e308
        replace p308 := eq_true p308
        replace q308 := eq_true q308
        have p309 : 0 ≤ (x9_1 : Int) := oD
        have q309 : x9_1 < (l1.length : Int) := oD
        obtain ⟨ad309, e309, hx309_0, hx309_1⟩ := at_T55 HR1.out x9_1 p309 q309
        obtain rfl : ad307 = ad309 := (by injection e309)
        (try (replace hx309_0 := hB HB.out hx309_0))
        (try (replace hx309_1 := hB HB.out hx309_1))
        replace p309 := eq_true p309
        replace q309 := eq_true q309
        go_wp2
        go_roundg k1
        case measure => have := HK1.out; omega
        case rel => exact ⟨(wrap64 ((rd t304 ((rd_T55 l1 x9_1).f1)) + 1)), (wrap64 (x9_1 + 1)), rS, rS, H', ⟨by have := HK1.out; omega⟩, ⟨rA HO_7.out⟩, ⟨wB0 HB.out⟩⟩
       ·rw [if_neg c14] at H
        have c14b0 : decide ((wrap64 ((rd t304 ((rd_T55 l1 x9_1).f1)) + 1)) < x8_1) = false := decide_eq_false c14
        clear c14
        have H' := Aside0.mk H
        clear H
        have p307 : 0 ≤ (x9_1 : Int) := oD
        have q307 : x9_1 < (l1.length : Int) := oD
        obtain ⟨ad307, e307, hx307_0, hx307_1⟩ := at_T55 HR1.out x9_1 p307 q307
        cases e307
        (try (replace hx307_0 := hB HB.out hx307_0))
        (try (replace hx307_1 := hB HB.out hx307_1))
        replace p307 := eq_true p307
        replace q307 := eq_true q307
        obtain ⟨Ao16, co16, eo16⟩ := Kd.R_slice HO_7.out
        subst eo16
        have p308 : 0 ≤ (((rd_T55 l1 x9_1).f1) : Int) := oD
        have q308 : ((rd_T55 l1 x9_1).f1) < (t304.length : Int) := oD
        obtain ⟨ad308, e308, hx308_0⟩ := Kd.at_int (Kd.R_reads' HO_7.out).2.2 ((rd_T55 l1 x9_1).f1) p308 q308
        cases e308
        replace p308 := eq_true p308
        replace q308 := eq_true q308
        have p309 : 0 ≤ (x9_1 : Int) := oD
        have q309 : x9_1 < (l1.length : Int) := oD
        obtain ⟨ad309, e309, hx309_0, hx309_1⟩ := at_T55 HR1.out x9_1 p309 q309
        obtain rfl : ad307 = ad309 := (by injection e309)
        (try (replace hx309_0 := hB HB.out hx309_0))
        (try (replace hx309_1 := hB HB.out hx309_1))
        replace p309 := eq_true p309
        replace q309 := eq_true q309
        go_wp2
        go_roundg k1
        case measure => have := HK1.out; omega
        case rel => exact ⟨(x8_1), (wrap64 (x9_1 + 1)), rS, rS, H', ⟨by have := HK1.out; omega⟩, ⟨rA HO_7.out⟩, ⟨wB0 HB.out⟩⟩
     ·rw [if_neg c11] at H
      have c11b0 : decide (0 ≤ (rd t304 ((rd_T55 l1 x9_1).f1))) = false := decide_eq_false c11
      clear c11
      have H' := Aside0.mk H
      clear H
      have p307 : 0 ≤ (x9_1 : Int) := oD
      have q307 : x9_1 < (l1.length : Int) := oD
      obtain ⟨ad307, e307, hx307_0, hx307_1⟩ := at_T55 HR1.out x9_1 p307 q307
      cases e307
      (try (replace hx307_0 := hB HB.out hx307_0))
      (try (replace hx307_1 := hB HB.out hx307_1))
      replace p307 := eq_true p307
      replace q307 := eq_true q307
      obtain ⟨Ao17, co17, eo17⟩ := Kd.R_slice HO_7.out
      subst eo17
      have p308 : 0 ≤ (((rd_T55 l1 x9_1).f1) : Int) := oD
      have q308 : ((rd_T55 l1 x9_1).f1) < (t304.length : Int) := oD
      obtain ⟨ad308, e308, hx308_0⟩ := Kd.at_int (Kd.R_reads' HO_7.out).2.2 ((rd_T55 l1 x9_1).f1) p308 q308
      cases e308
      replace p308 := eq_true p308
      replace q308 := eq_true q308
      have p309 : 0 ≤ (x9_1 : Int) := oD
      have q309 : x9_1 < (l1.length : Int) := oD
      obtain ⟨ad309, e309, hx309_0, hx309_1⟩ := at_T55 HR1.out x9_1 p309 q309
      obtain rfl : ad307 = ad309 := (by injection e309)
      (try (replace hx309_0 := hB HB.out hx309_0))
      (try (replace hx309_1 := hB HB.out hx309_1))
      replace p309 := eq_true p309
      replace q309 := eq_true q309
      go_wp2
      go_roundg k1
      case measure => have := HK1.out; omega
      case rel => exact ⟨(x8_1), (wrap64 (x9_1 + 1)), rS, rS, H', ⟨by have := HK1.out; omega⟩, ⟨rA HO_7.out⟩, ⟨wB0 HB.out⟩⟩
    ·rw [if_neg c10] at H
     have c10b0 : (((rd_T55 l1 x9_1).f0) == a2) = false := beq_eq_false_iff_ne.mpr c10
     have c10b1 : (((rd_T55 l1 x9_1).f0) != a2) = true := bne_iff_ne.mpr c10
     have H' := Aside0.mk H
     clear H
     have p307 : 0 ≤ (x9_1 : Int) := oD
     have q307 : x9_1 < (l1.length : Int) := oD
     obtain ⟨ad307, e307, hx307_0, hx307_1⟩ := at_T55 HR1.out x9_1 p307 q307
     cases e307
     (try (replace hx307_0 := hB HB.out hx307_0))
     (try (replace hx307_1 := hB HB.out hx307_1))
     replace p307 := eq_true p307
     replace q307 := eq_true q307
     obtain ⟨Ao18, co18, eo18⟩ := Kd.R_slice HO_7.out
     subst eo18
     have p308 : 0 ≤ (((rd_T55 l1 x9_1).f1) : Int) := oD
     have q308 : ((rd_T55 l1 x9_1).f1) < (t304.length : Int) := oD
     obtain ⟨ad308, e308, hx308_0⟩ := Kd.at_int (Kd.R_reads' HO_7.out).2.2 ((rd_T55 l1 x9_1).f1) p308 q308
     cases e308
     replace p308 := eq_true p308
     replace q308 := eq_true q308
     have p309 : 0 ≤ (x9_1 : Int) := oD
     have q309 : x9_1 < (l1.length : Int) := oD
     obtain ⟨ad309, e309, hx309_0, hx309_1⟩ := at_T55 HR1.out x9_1 p309 q309
     obtain rfl : ad307 = ad309 := (by injection e309)
     (try (replace hx309_0 := hB HB.out hx309_0))
     (try (replace hx309_1 := hB HB.out hx309_1))
     replace p309 := eq_true p309
     replace q309 := eq_true q309
     go_wp2
     go_roundg k1
     case measure => have := HK1.out; omega
     case rel => exact ⟨(x8_1), (wrap64 (x9_1 + 1)), rS, rS, H', ⟨by have := HK1.out; omega⟩, ⟨rA HO_7.out⟩, ⟨wB0 HB.out⟩⟩
   ·rw [if_neg c6] at H
    have c6b0 : decide (x9_1 < (l1.length : Int)) = false := decide_eq_false c6
    clear c6
    obtain rfl := Option.some.inj H
    go_wp2
    go_ret
    exact ⟨eS, by repeat (first | (with_reducible first | exact HB.out | apply below_alloc | apply pw_below_drewN | apply below_drew1) | exact HB.out)⟩
end Go.Proofs.Ytlldjinejckbaaa.PD

end
section
namespace Go.Proofs.Ytlldjinejckbaaa.PD
open Go.RowKit Go.Proofs.YtlldjinejckbaaaW.PrintWords Go.Proofs.YtlldjinejckbaaaW.PrintLast Go.Proofs.YtlldjinejckbaaaW.PrintMore
attribute [local go_sem] max2_int min2_int max_two min_two max_three min_three max_four min_four
set_option linter.unusedVariables false
set_option linter.unusedSimpArgs false
def wireloomref05_least.l0 : Nat → List (S55) → List Int → Int → Int → Int → Int → Option (Int)
 | 0, _, _, _, _, _, _ => none
 | k + 1, x0, x1, x7, x8, x311000, x311001 => if x8 < (x0.length : Int) then (if 0 ≤ x8 then (if ((rd_T55 x0 x8).f0) = x311000 then (if 0 ≤ ((rd_T55 x0 x8).f1) then (if ((rd_T55 x0 x8).f1) < (x1.length : Int) then (if (rd x1 ((rd_T55 x0 x8).f1)) = x311001 then (if x7 < 0 then (wireloomref05_least.l0 k x0 x1 ((rd_T55 x0 x8).f1) (wrap64 (x8 + 1)) x311000 x311001) else (if ((rd_T55 x0 x8).f1) < x7 then (wireloomref05_least.l0 k x0 x1 ((rd_T55 x0 x8).f1) (wrap64 (x8 + 1)) x311000 x311001) else (wireloomref05_least.l0 k x0 x1 x7 (wrap64 (x8 + 1)) x311000 x311001))) else (wireloomref05_least.l0 k x0 x1 x7 (wrap64 (x8 + 1)) x311000 x311001)) else (none)) else (none)) else (wireloomref05_least.l0 k x0 x1 x7 (wrap64 (x8 + 1)) x311000 x311001)) else (none)) else (some x7)
def wireloomref05_least.f (k : Nat) (l0 : List (S55)) (l1 : List Int) (a2_0 : Int) (a2_1 : Int) : Option (Int) := wireloomref05_least.l0 k l0 l1 (-1) 0 a2_0 a2_1
set_option maxHeartbeats 8000000 in
set_option maxRecDepth 100000 in
theorem wireloomref05_least.calls (k : Nat) (A0 : Option Addr) (c0 : Nat) (l0 : List (S55)) (A1 : Option Addr) (c1 : Nat) (l1 : List Int) (a2_0 : Int) (a2_1 : Int) (r : Int) (w : World) (hr0 : Kd.C k55 w A0 l0.length l0) (hc0 : l0.length ≤ c0) (hr1 : Kd.C (Kd.int .i64) w A1 l1.length l1) (hc1 : l1.length ≤ c1) (h : wireloomref05_least.f k l0 l1 a2_0 a2_1 = some r) :
  Calls Try.prog 39 #[.slice A0 l0.length c0, .slice A1 l1.length c1, .agg #[.int .i64 a2_0, .int .i64 a2_1]] w fun e w' => e = .returned (.int .i64 r) ∧ Below w.heap.size w w' := by
 have hu66 := Try.underlying66
 have HR0 := Aside0.mk hr0
 have HC0 := Aside0.mk hc0
 clear hr0 hc0
 have HR1 := Aside0.mk hr1
 have HC1 := Aside0.mk hc1
 clear hr1 hc1
 have HB := Aside0.mk (Below.refl w.heap.size w)
 have H : (wireloomref05_least.l0 k l0 l1 (-1) 0 a2_0 a2_1) = some r := h
 clear h
 have H' := Aside0.mk H
 clear H
 go_enter Try.func39, Try.ntmps39
 go_wp2_with (first | ((with_reducible refine gate_dst (N := 5) rfl ?_); refine box_event ?hg (N := 5) ?hd (cs := #[.int .i64 a2_0, .int .i64 a2_1]) (t := 66) ?hr ?_; (case hd => rfl); (case hg => rfl); (case hr => first | (go_simp; done) | (go_simp; rfl)); intro gb310 hg w4 hbox hb; have BK310 := Aside0.mk (hbox); have GW310 := Aside0.mk ((by rw [hg]; exact (below_size (wB0 HB.out)) : w.heap.size ≤ gb310)); have GE310 := Aside0.mk ((by rw [hg]; exact (below_size (wB0 HB.out)) : w.heap.size ≤ gb310)); replace HB := Aside0.mk (below_step (wB0 HB.out) hb); clear hb hbox hg))
 repeat (go_quiet (first | ((with_reducible refine gate_dst (N := 5) rfl ?_); refine box_event ?hg (N := 5) ?hd (cs := #[.int .i64 a2_0, .int .i64 a2_1]) (t := 66) ?hr ?_; (case hd => rfl); (case hg => rfl); (case hr => first | (go_simp; done) | (go_simp; rfl)); intro gb310 hg w4 hbox hb; have BK310 := Aside0.mk (hbox); have GW310 := Aside0.mk ((by rw [hg]; exact (below_size (wB0 HB.out)) : w.heap.size ≤ gb310)); have GE310 := Aside0.mk ((by rw [hg]; exact (below_size (wB0 HB.out)) : w.heap.size ≤ gb310)); replace HB := Aside0.mk (below_step (wB0 HB.out) hb); clear hb hbox hg)); try go_wp2_with (first | ((with_reducible refine gate_dst (N := 5) rfl ?_); refine box_event ?hg (N := 5) ?hd (cs := #[.int .i64 a2_0, .int .i64 a2_1]) (t := 66) ?hr ?_; (case hd => rfl); (case hg => rfl); (case hr => first | (go_simp; done) | (go_simp; rfl)); intro gb310 hg w4 hbox hb; have BK310 := Aside0.mk (hbox); have GW310 := Aside0.mk ((by rw [hg]; exact (below_size (wB0 HB.out)) : w.heap.size ≤ gb310)); have GE310 := Aside0.mk ((by rw [hg]; exact (below_size (wB0 HB.out)) : w.heap.size ≤ gb310)); replace HB := Aside0.mk (below_step (wB0 HB.out) hb); clear hb hbox hg)))
 go_loopg [7, 8] k (fun kq v7 v8 w' => ∃ (x7_1 : Int) (x8_1 : Int), v7 = .int .i64 x7_1 ∧ v8 = .int .i64 x8_1 ∧ Aside0 (wireloomref05_least.l0 kq l0 l1 x7_1 x8_1 a2_0 a2_1 = some r) ∧ Aside0 (kq ≤ k) ∧ Aside0 (w'.heap[gb310]? = some (.cells #[.int .i64 a2_0, .int .i64 a2_1] 66 (0, 0))) ∧ Aside0 (Below w.heap.size w w'))
 case atStart => exact ⟨((-1)), (0), rS, rS, H', ⟨Nat.le_refl _⟩, ⟨bA BK310.out⟩, ⟨wB1 HB.out GE310.out⟩⟩
 case round =>
  clear H'
  try clear c1; try clear p2; try clear c3
  obtain ⟨x7_1, x8_1, rfl, rfl, HA, HK1, BK310, HB⟩ := hrel
  cases gk with
  | zero => exact absurd HA.out (by simp [wireloomref05_least.l0])
  | succ k1 =>
   have H := HA.out
   clear HA
   simp only [wireloomref05_least.l0] at H
   by_cases c5 : x8_1 < (l0.length : Int)
   ·rw [if_pos c5] at H
    have c5b0 : decide (x8_1 < (l0.length : Int)) = true := decide_eq_true c5
    clear c5
    by_cases c6 : 0 ≤ x8_1
    rotate_left
    ·rw [if_neg c6] at H
     exact absurd H (by simp)
    rw [if_pos c6] at H
    have c6b0 : decide (0 ≤ x8_1) = true := decide_eq_true c6
    clear c6
    by_cases c7 : ((rd_T55 l0 x8_1).f0) = a2_0
    ·rw [if_pos c7] at H
     have c7b0 : (((rd_T55 l0 x8_1).f0) == a2_0) = true := beq_iff_eq.mpr c7
     have c7b1 : (((rd_T55 l0 x8_1).f0) != a2_0) = false := bne_eq_false_iff_eq.mpr c7
     clear c7
     by_cases c8 : 0 ≤ ((rd_T55 l0 x8_1).f1)
     rotate_left
     ·rw [if_neg c8] at H
      exact absurd H (by simp)
     rw [if_pos c8] at H
     have c8b0 : decide (0 ≤ ((rd_T55 l0 x8_1).f1)) = true := decide_eq_true c8
     clear c8
     by_cases c9 : ((rd_T55 l0 x8_1).f1) < (l1.length : Int)
     rotate_left
     ·rw [if_neg c9] at H
      exact absurd H (by simp)
     rw [if_pos c9] at H
     have c9b0 : decide (((rd_T55 l0 x8_1).f1) < (l1.length : Int)) = true := decide_eq_true c9
     clear c9
     by_cases c10 : (rd l1 ((rd_T55 l0 x8_1).f1)) = a2_1
     ·rw [if_pos c10] at H
      have c10b0 : ((rd l1 ((rd_T55 l0 x8_1).f1)) == a2_1) = true := beq_iff_eq.mpr c10
      have c10b1 : ((rd l1 ((rd_T55 l0 x8_1).f1)) != a2_1) = false := bne_eq_false_iff_eq.mpr c10
      clear c10
      by_cases c11 : x7_1 < 0
      ·rw [if_pos c11] at H
       have c11b0 : decide (x7_1 < 0) = true := decide_eq_true c11
       clear c11
       have H' := Aside0.mk H
       clear H
       have p311 : 0 ≤ (x8_1 : Int) := oD
       have q311 : x8_1 < (l0.length : Int) := oD
       obtain ⟨ad311, e311, hx311_0, hx311_1⟩ := at_T55 HR0.out x8_1 p311 q311
       cases e311
       (try (replace hx311_0 := hB HB.out hx311_0))
       (try (replace hx311_1 := hB HB.out hx311_1))
       replace p311 := eq_true p311
       replace q311 := eq_true q311
       have p312 : 0 ≤ (x8_1 : Int) := oD
       have q312 : x8_1 < (l0.length : Int) := oD
       obtain ⟨ad312, e312, hx312_0, hx312_1⟩ := at_T55 HR0.out x8_1 p312 q312
       obtain rfl : ad311 = ad312 := (by injection e312)
       (try (replace hx312_0 := hB HB.out hx312_0))
       (try (replace hx312_1 := hB HB.out hx312_1))
       replace p312 := eq_true p312
       replace q312 := eq_true q312
       have hcz12_0 : wr.cell? ⟨gb310, 0, none⟩ = some (.int .i64 a2_0) := (blk_cell BK310.out 0).trans rfl
       have hcz12_1 : wr.cell? ⟨gb310, 1, none⟩ = some (.int .i64 a2_1) := (blk_cell BK310.out 1).trans rfl
       have hfz12_0 := blk_frozen BK310.out 0
       have hfz12_1 := blk_frozen BK310.out 1
       have p313 : 0 ≤ (((rd_T55 l0 x8_1).f1) : Int) := oD
       have q313 : ((rd_T55 l0 x8_1).f1) < (l1.length : Int) := oD
       obtain ⟨ad313, e313, hx313_0⟩ := Kd.at_int HR1.out ((rd_T55 l0 x8_1).f1) p313 q313
       cases e313
       (try (replace hx313_0 := hB HB.out hx313_0))
       replace p313 := eq_true p313
       replace q313 := eq_true q313
       go_wp2
       repeat (go_quiet (fail); try go_wp2)
       go_roundg k1
       case measure => have := HK1.out; omega
       case rel => exact ⟨((rd_T55 l0 x8_1).f1), (wrap64 (x8_1 + 1)), rS, rS, H', ⟨by have := HK1.out; omega⟩, ⟨bA BK310.out⟩, ⟨wB1 HB.out GE310.out⟩⟩
      ·rw [if_neg c11] at H
       have c11b0 : decide (x7_1 < 0) = false := decide_eq_false c11
       clear c11
       by_cases c13 : ((rd_T55 l0 x8_1).f1) < x7_1
       ·rw [if_pos c13] at H
        have c13b0 : decide (((rd_T55 l0 x8_1).f1) < x7_1) = true := decide_eq_true c13
        clear c13
        have H' := Aside0.mk H
        clear H
        have p311 : 0 ≤ (x8_1 : Int) := oD
        have q311 : x8_1 < (l0.length : Int) := oD
        obtain ⟨ad311, e311, hx311_0, hx311_1⟩ := at_T55 HR0.out x8_1 p311 q311
        cases e311
        (try (replace hx311_0 := hB HB.out hx311_0))
        (try (replace hx311_1 := hB HB.out hx311_1))
        replace p311 := eq_true p311
        replace q311 := eq_true q311
        have p312 : 0 ≤ (x8_1 : Int) := oD
        have q312 : x8_1 < (l0.length : Int) := oD
        obtain ⟨ad312, e312, hx312_0, hx312_1⟩ := at_T55 HR0.out x8_1 p312 q312
        obtain rfl : ad311 = ad312 := (by injection e312)
        (try (replace hx312_0 := hB HB.out hx312_0))
        (try (replace hx312_1 := hB HB.out hx312_1))
        replace p312 := eq_true p312
        replace q312 := eq_true q312
        have hcz14_0 : wr.cell? ⟨gb310, 0, none⟩ = some (.int .i64 a2_0) := (blk_cell BK310.out 0).trans rfl
        have hcz14_1 : wr.cell? ⟨gb310, 1, none⟩ = some (.int .i64 a2_1) := (blk_cell BK310.out 1).trans rfl
        have hfz14_0 := blk_frozen BK310.out 0
        have hfz14_1 := blk_frozen BK310.out 1
        have p313 : 0 ≤ (((rd_T55 l0 x8_1).f1) : Int) := oD
        have q313 : ((rd_T55 l0 x8_1).f1) < (l1.length : Int) := oD
        obtain ⟨ad313, e313, hx313_0⟩ := Kd.at_int HR1.out ((rd_T55 l0 x8_1).f1) p313 q313
        cases e313
        (try (replace hx313_0 := hB HB.out hx313_0))
        replace p313 := eq_true p313
        replace q313 := eq_true q313
        go_wp2
        repeat (go_quiet (fail); try go_wp2)
        go_roundg k1
        case measure => have := HK1.out; omega
        case rel => exact ⟨((rd_T55 l0 x8_1).f1), (wrap64 (x8_1 + 1)), rS, rS, H', ⟨by have := HK1.out; omega⟩, ⟨bA BK310.out⟩, ⟨wB1 HB.out GE310.out⟩⟩
       ·rw [if_neg c13] at H
        have c13b0 : decide (((rd_T55 l0 x8_1).f1) < x7_1) = false := decide_eq_false c13
        clear c13
        have H' := Aside0.mk H
        clear H
        have p311 : 0 ≤ (x8_1 : Int) := oD
        have q311 : x8_1 < (l0.length : Int) := oD
        obtain ⟨ad311, e311, hx311_0, hx311_1⟩ := at_T55 HR0.out x8_1 p311 q311
        cases e311
        (try (replace hx311_0 := hB HB.out hx311_0))
        (try (replace hx311_1 := hB HB.out hx311_1))
        replace p311 := eq_true p311
        replace q311 := eq_true q311
        have p312 : 0 ≤ (x8_1 : Int) := oD
        have q312 : x8_1 < (l0.length : Int) := oD
        obtain ⟨ad312, e312, hx312_0, hx312_1⟩ := at_T55 HR0.out x8_1 p312 q312
        obtain rfl : ad311 = ad312 := (by injection e312)
        (try (replace hx312_0 := hB HB.out hx312_0))
        (try (replace hx312_1 := hB HB.out hx312_1))
        replace p312 := eq_true p312
        replace q312 := eq_true q312
        have hcz15_0 : wr.cell? ⟨gb310, 0, none⟩ = some (.int .i64 a2_0) := (blk_cell BK310.out 0).trans rfl
        have hcz15_1 : wr.cell? ⟨gb310, 1, none⟩ = some (.int .i64 a2_1) := (blk_cell BK310.out 1).trans rfl
        have hfz15_0 := blk_frozen BK310.out 0
        have hfz15_1 := blk_frozen BK310.out 1
        have p313 : 0 ≤ (((rd_T55 l0 x8_1).f1) : Int) := oD
        have q313 : ((rd_T55 l0 x8_1).f1) < (l1.length : Int) := oD
        obtain ⟨ad313, e313, hx313_0⟩ := Kd.at_int HR1.out ((rd_T55 l0 x8_1).f1) p313 q313
        cases e313
        (try (replace hx313_0 := hB HB.out hx313_0))
        replace p313 := eq_true p313
        replace q313 := eq_true q313
        go_wp2
        repeat (go_quiet (fail); try go_wp2)
        go_roundg k1
        case measure => have := HK1.out; omega
        case rel => exact ⟨(x7_1), (wrap64 (x8_1 + 1)), rS, rS, H', ⟨by have := HK1.out; omega⟩, ⟨bA BK310.out⟩, ⟨wB1 HB.out GE310.out⟩⟩
     ·rw [if_neg c10] at H
      have c10b0 : ((rd l1 ((rd_T55 l0 x8_1).f1)) == a2_1) = false := beq_eq_false_iff_ne.mpr c10
      have c10b1 : ((rd l1 ((rd_T55 l0 x8_1).f1)) != a2_1) = true := bne_iff_ne.mpr c10
      have H' := Aside0.mk H
      clear H
      have p311 : 0 ≤ (x8_1 : Int) := oD
      have q311 : x8_1 < (l0.length : Int) := oD
      obtain ⟨ad311, e311, hx311_0, hx311_1⟩ := at_T55 HR0.out x8_1 p311 q311
      cases e311
      (try (replace hx311_0 := hB HB.out hx311_0))
      (try (replace hx311_1 := hB HB.out hx311_1))
      replace p311 := eq_true p311
      replace q311 := eq_true q311
      have p312 : 0 ≤ (x8_1 : Int) := oD
      have q312 : x8_1 < (l0.length : Int) := oD
      obtain ⟨ad312, e312, hx312_0, hx312_1⟩ := at_T55 HR0.out x8_1 p312 q312
      obtain rfl : ad311 = ad312 := (by injection e312)
      (try (replace hx312_0 := hB HB.out hx312_0))
      (try (replace hx312_1 := hB HB.out hx312_1))
      replace p312 := eq_true p312
      replace q312 := eq_true q312
      have hcz16_0 : wr.cell? ⟨gb310, 0, none⟩ = some (.int .i64 a2_0) := (blk_cell BK310.out 0).trans rfl
      have hcz16_1 : wr.cell? ⟨gb310, 1, none⟩ = some (.int .i64 a2_1) := (blk_cell BK310.out 1).trans rfl
      have hfz16_0 := blk_frozen BK310.out 0
      have hfz16_1 := blk_frozen BK310.out 1
      have p313 : 0 ≤ (((rd_T55 l0 x8_1).f1) : Int) := oD
      have q313 : ((rd_T55 l0 x8_1).f1) < (l1.length : Int) := oD
      obtain ⟨ad313, e313, hx313_0⟩ := Kd.at_int HR1.out ((rd_T55 l0 x8_1).f1) p313 q313
      cases e313
      (try (replace hx313_0 := hB HB.out hx313_0))
      replace p313 := eq_true p313
      replace q313 := eq_true q313
      go_wp2
      repeat (go_quiet (fail); try go_wp2)
      go_roundg k1
      case measure => have := HK1.out; omega
      case rel => exact ⟨(x7_1), (wrap64 (x8_1 + 1)), rS, rS, H', ⟨by have := HK1.out; omega⟩, ⟨bA BK310.out⟩, ⟨wB1 HB.out GE310.out⟩⟩
    ·rw [if_neg c7] at H
     have c7b0 : (((rd_T55 l0 x8_1).f0) == a2_0) = false := beq_eq_false_iff_ne.mpr c7
     have c7b1 : (((rd_T55 l0 x8_1).f0) != a2_0) = true := bne_iff_ne.mpr c7
     have H' := Aside0.mk H
     clear H
     have p311 : 0 ≤ (x8_1 : Int) := oD
     have q311 : x8_1 < (l0.length : Int) := oD
     obtain ⟨ad311, e311, hx311_0, hx311_1⟩ := at_T55 HR0.out x8_1 p311 q311
     cases e311
     (try (replace hx311_0 := hB HB.out hx311_0))
     (try (replace hx311_1 := hB HB.out hx311_1))
     replace p311 := eq_true p311
     replace q311 := eq_true q311
     have p312 : 0 ≤ (x8_1 : Int) := oD
     have q312 : x8_1 < (l0.length : Int) := oD
     obtain ⟨ad312, e312, hx312_0, hx312_1⟩ := at_T55 HR0.out x8_1 p312 q312
     obtain rfl : ad311 = ad312 := (by injection e312)
     (try (replace hx312_0 := hB HB.out hx312_0))
     (try (replace hx312_1 := hB HB.out hx312_1))
     replace p312 := eq_true p312
     replace q312 := eq_true q312
     have hcz17_0 : wr.cell? ⟨gb310, 0, none⟩ = some (.int .i64 a2_0) := (blk_cell BK310.out 0).trans rfl
     have hcz17_1 : wr.cell? ⟨gb310, 1, none⟩ = some (.int .i64 a2_1) := (blk_cell BK310.out 1).trans rfl
     have hfz17_0 := blk_frozen BK310.out 0
     have hfz17_1 := blk_frozen BK310.out 1
     go_wp2
     repeat (go_quiet (fail); try go_wp2)
     go_roundg k1
     case measure => have := HK1.out; omega
     case rel => exact ⟨(x7_1), (wrap64 (x8_1 + 1)), rS, rS, H', ⟨by have := HK1.out; omega⟩, ⟨bA BK310.out⟩, ⟨wB1 HB.out GE310.out⟩⟩
   ·rw [if_neg c5] at H
    have c5b0 : decide (x8_1 < (l0.length : Int)) = false := decide_eq_false c5
    clear c5
    obtain rfl := Option.some.inj H
    go_wp2
    repeat (go_quiet (fail); try go_wp2)
    go_ret
    exact ⟨eS, by repeat (first | (with_reducible first | exact HB.out | apply below_alloc | apply pw_below_drewN | apply below_drew1 | refine below_set ?_ GE310.out) | exact HB.out)⟩
end Go.Proofs.Ytlldjinejckbaaa.PD

end
section
namespace Go.Proofs.Ytlldjinejckbaaa.PD
open Go.RowKit Go.Proofs.YtlldjinejckbaaaW.PrintWords Go.Proofs.YtlldjinejckbaaaW.PrintLast Go.Proofs.YtlldjinejckbaaaW.PrintMore
attribute [local go_sem] max2_int min2_int max_two min_two max_three min_three max_four min_four
set_option linter.unusedVariables false
set_option linter.unusedSimpArgs false
mutual
def wireloomref05_CycleIn.l0 : Nat → Int → List (S55) → Int → Int → Int → Option (List Int × Int)
 | 0, _, _, _, _, _ => none
 | k + 1, x0, x1, x5, x6, x7 => if x7 < x0 then ((wireloomref05_through.f k x0 x1 x7).bind fun t315 => (if t315 > 0 then (if x5 = 0 then (wireloomref05_CycleIn.l0 k x0 x1 t315 x7 (wrap64 (x7 + 1))) else (if t315 < x5 then (wireloomref05_CycleIn.l0 k x0 x1 t315 x7 (wrap64 (x7 + 1))) else (wireloomref05_CycleIn.l0 k x0 x1 x5 x6 (wrap64 (x7 + 1))))) else (wireloomref05_CycleIn.l0 k x0 x1 x5 x6 (wrap64 (x7 + 1))))) else (if x6 < 0 then (some (([] : List Int), 4)) else ((wireloomref05_Back.f k x0 x1 x6).bind fun t316 => (wireloomref05_CycleIn.l1 k x1 t316 (([x6] : List Int)) (wrap64 (x5 - 1)))))
def wireloomref05_CycleIn.l1 : Nat → List (S55) → List Int → List Int → Int → Option (List Int × Int)
 | 0, _, _, _, _ => none
 | k + 1, x1, x9, x10, x11 => if x11 > 0 then (if 0 ≤ (wrap64 ((x10.length : Int) - 1)) then (if (wrap64 ((x10.length : Int) - 1)) < (x10.length : Int) then ((wireloomref05_least.f k x1 x9 (rd x10 (wrap64 ((x10.length : Int) - 1))) x11).bind fun t323 => (if x10.length < 17592186044416 then (wireloomref05_CycleIn.l1 k x1 x9 (x10 ++ [t323]) (wrap64 (x11 - 1))) else (none))) else (none)) else (none)) else (some (x10, 0))
end
def wireloomref05_CycleIn.f (k : Nat) (a0 : Int) (l1 : List (S55)) : Option (List Int × Int) := wireloomref05_CycleIn.l0 k a0 l1 0 (-1) 0
set_option maxHeartbeats 8000000 in
set_option maxRecDepth 100000 in
theorem wireloomref05_CycleIn.calls (k : Nat) (a0 : Int) (A1 : Option Addr) (c1 : Nat) (l1 : List (S55)) (r1 : List Int) (r2 : Int) (w : World) (hr1 : Kd.C k55 w A1 l1.length l1) (hc1 : l1.length ≤ c1) (h : wireloomref05_CycleIn.f k a0 l1 = some (r1, r2)) :
  Calls Try.prog 18 #[.int .i64 a0, .slice A1 l1.length c1] w fun e w' => ∃ v0_ : Value, e = .returned (.agg #[v0_, .int .i64 r2]) ∧ Kd.R (Kd.int .i64) 3 w' w.heap.size (fun _ => True) v0_ r1 ∧ Below w.heap.size w w' := by
 have hu37 := Try.underlying37
 have hu66 := Try.underlying66
 have HR1 := Aside0.mk hr1
 have HC1 := Aside0.mk hc1
 clear hr1 hc1
 have HB := Aside0.mk (Below.refl w.heap.size w)
 have H : (wireloomref05_CycleIn.l0 k a0 l1 0 (-1) 0) = some (r1, r2) := h
 clear h
 have H' := Aside0.mk H
 clear H
 go_enter Try.func18, Try.ntmps18
 go_wp2_with (first | ((with_reducible refine gate_dst (N := 4) rfl ?_); refine box_event ?hg (N := 4) ?hd (cs := #[.slice none 0 0, .int .i64 0]) (t := 37) ?hr ?_; (case hd => rfl); (case hg => rfl); (case hr => first | (go_simp; done) | (go_simp; rfl)); intro gb314 hg w3 hbox hb; have BK314 := Aside0.mk (hbox); have GW314 := Aside0.mk ((by rw [hg]; exact (below_size (wB0 HB.out)) : w.heap.size ≤ gb314)); have GE314 := Aside0.mk ((by rw [hg]; exact (below_size (wB0 HB.out)) : w.heap.size ≤ gb314)); replace HB := Aside0.mk (below_step (wB0 HB.out) hb); clear hb hbox hg))
 go_loopg [5, 6, 7] k (fun kq v5 v6 v7 w' => ∃ (x5_1 : Int) (x6_1 : Int) (x7_1 : Int), v5 = .int .i64 x5_1 ∧ v6 = .int .i64 x6_1 ∧ v7 = .int .i64 x7_1 ∧ Aside0 (wireloomref05_CycleIn.l0 kq a0 l1 x5_1 x6_1 x7_1 = some (r1, r2)) ∧ Aside0 (kq ≤ k) ∧ Aside0 (w'.heap[gb314]? = some (.cells #[(.slice none 0 0), .int .i64 0] 37 (0, 0))) ∧ Aside0 (Below w.heap.size w w'))
 case atStart => exact ⟨(0), ((-1)), (0), rS, rS, rS, H', ⟨Nat.le_refl _⟩, ⟨bA BK314.out⟩, ⟨wB1 HB.out GE314.out⟩⟩
 case round =>
  clear H'
  try clear c1; try clear p2
  obtain ⟨x5_1, x6_1, x7_1, rfl, rfl, rfl, HA, HK1, BK314, HB⟩ := hrel
  cases gk with
  | zero => exact absurd HA.out (by simp [wireloomref05_CycleIn.l0])
  | succ k1 =>
   have H := HA.out
   clear HA
   simp only [wireloomref05_CycleIn.l0] at H
   by_cases c4 : x7_1 < a0
   ·rw [if_pos c4] at H
    have c4b0 : decide (x7_1 < a0) = true := decide_eq_true c4
    clear c4
    replace H := Option.bind_eq_some_iff.mp H
    obtain ⟨t315, A50, H⟩ := H
    replace H : (if t315 > 0 then (if x5_1 = 0 then (wireloomref05_CycleIn.l0 k1 a0 l1 t315 x7_1 (wrap64 (x7_1 + 1))) else (if t315 < x5_1 then (wireloomref05_CycleIn.l0 k1 a0 l1 t315 x7_1 (wrap64 (x7_1 + 1))) else (wireloomref05_CycleIn.l0 k1 a0 l1 x5_1 x6_1 (wrap64 (x7_1 + 1))))) else (wireloomref05_CycleIn.l0 k1 a0 l1 x5_1 x6_1 (wrap64 (x7_1 + 1)))) = some (r1, r2) := H
    have A5 := Aside0.mk A50
    clear A50
    by_cases c6 : t315 > 0
    ·rw [if_pos c6] at H
     have c6b0 : decide (0 < t315) = true := decide_eq_true c6
     clear c6
     by_cases c7 : x5_1 = 0
     ·rw [if_pos c7] at H
      have c7b0 : (x5_1 == 0) = true := beq_iff_eq.mpr c7
      have c7b1 : (x5_1 != 0) = false := bne_eq_false_iff_eq.mpr c7
      clear c7
      have H' := Aside0.mk H
      clear H
      go_wp2_with (first | ((with_reducible refine gate_callee (f := 37) rfl ?_); refine goesL_ (some 20) rfl rfl Try.func37 (by kernel_rfl) rfl #[.int .i64 a0, .slice A1 l1.length c1, .int .i64 x7_1] rfl (by (try simp only [List.map_toArray, List.map_cons, List.map_nil]); first | done | rfl | (simp only [List.length_drop, List.length_take]; rfl)) ?_; (with_reducible refine (wireloomref05_through.calls k1 a0 _ _ l1 x7_1 t315 _ ?side1 ?side2 A5.out).mono ?_); (case side1 => exact cA (Kd.C_below HR1.out HB.out)); (case side2 => exact HC1.out); rintro e w8 ⟨rfl, hb⟩; refine ⟨_, rfl, ?_⟩; replace BK314 := kC BK314 hb; replace HB := Aside0.mk (below_step (wB1 HB.out GE314.out) hb); (try clear hb); (try clear hb2); (try clear hk); (try clear hi)))
      go_roundg k1
      case measure => have := HK1.out; omega
      case rel => exact ⟨(t315), (x7_1), (wrap64 (x7_1 + 1)), rS, rS, rS, H', ⟨by have := HK1.out; omega⟩, ⟨bA BK314.out⟩, ⟨wB1 HB.out GE314.out⟩⟩
     ·rw [if_neg c7] at H
      have c7b0 : (x5_1 == 0) = false := beq_eq_false_iff_ne.mpr c7
      have c7b1 : (x5_1 != 0) = true := bne_iff_ne.mpr c7
      by_cases c9 : t315 < x5_1
      ·rw [if_pos c9] at H
       have c9b0 : decide (t315 < x5_1) = true := decide_eq_true c9
       clear c9
       have H' := Aside0.mk H
       clear H
       go_wp2_with (first | ((with_reducible refine gate_callee (f := 37) rfl ?_); refine goesL_ (some 20) rfl rfl Try.func37 (by kernel_rfl) rfl #[.int .i64 a0, .slice A1 l1.length c1, .int .i64 x7_1] rfl (by (try simp only [List.map_toArray, List.map_cons, List.map_nil]); first | done | rfl | (simp only [List.length_drop, List.length_take]; rfl)) ?_; (with_reducible refine (wireloomref05_through.calls k1 a0 _ _ l1 x7_1 t315 _ ?side1 ?side2 A5.out).mono ?_); (case side1 => exact cA (Kd.C_below HR1.out HB.out)); (case side2 => exact HC1.out); rintro e w10 ⟨rfl, hb⟩; refine ⟨_, rfl, ?_⟩; replace BK314 := kC BK314 hb; replace HB := Aside0.mk (below_step (wB1 HB.out GE314.out) hb); (try clear hb); (try clear hb2); (try clear hk); (try clear hi)))
       go_roundg k1
       case measure => have := HK1.out; omega
       case rel => exact ⟨(t315), (x7_1), (wrap64 (x7_1 + 1)), rS, rS, rS, H', ⟨by have := HK1.out; omega⟩, ⟨bA BK314.out⟩, ⟨wB1 HB.out GE314.out⟩⟩
      ·rw [if_neg c9] at H
       have c9b0 : decide (t315 < x5_1) = false := decide_eq_false c9
       clear c9
       have H' := Aside0.mk H
       clear H
       go_wp2_with (first | ((with_reducible refine gate_callee (f := 37) rfl ?_); refine goesL_ (some 20) rfl rfl Try.func37 (by kernel_rfl) rfl #[.int .i64 a0, .slice A1 l1.length c1, .int .i64 x7_1] rfl (by (try simp only [List.map_toArray, List.map_cons, List.map_nil]); first | done | rfl | (simp only [List.length_drop, List.length_take]; rfl)) ?_; (with_reducible refine (wireloomref05_through.calls k1 a0 _ _ l1 x7_1 t315 _ ?side1 ?side2 A5.out).mono ?_); (case side1 => exact cA (Kd.C_below HR1.out HB.out)); (case side2 => exact HC1.out); rintro e w11 ⟨rfl, hb⟩; refine ⟨_, rfl, ?_⟩; replace BK314 := kC BK314 hb; replace HB := Aside0.mk (below_step (wB1 HB.out GE314.out) hb); (try clear hb); (try clear hb2); (try clear hk); (try clear hi)))
       go_roundg k1
       case measure => have := HK1.out; omega
       case rel => exact ⟨(x5_1), (x6_1), (wrap64 (x7_1 + 1)), rS, rS, rS, H', ⟨by have := HK1.out; omega⟩, ⟨bA BK314.out⟩, ⟨wB1 HB.out GE314.out⟩⟩
    ·rw [if_neg c6] at H
     have c6b0 : decide (0 < t315) = false := decide_eq_false c6
     clear c6
     have H' := Aside0.mk H
     clear H
     go_wp2_with (first | ((with_reducible refine gate_callee (f := 37) rfl ?_); refine goesL_ (some 20) rfl rfl Try.func37 (by kernel_rfl) rfl #[.int .i64 a0, .slice A1 l1.length c1, .int .i64 x7_1] rfl (by (try simp only [List.map_toArray, List.map_cons, List.map_nil]); first | done | rfl | (simp only [List.length_drop, List.length_take]; rfl)) ?_; (with_reducible refine (wireloomref05_through.calls k1 a0 _ _ l1 x7_1 t315 _ ?side1 ?side2 A5.out).mono ?_); (case side1 => exact cA (Kd.C_below HR1.out HB.out)); (case side2 => exact HC1.out); rintro e w12 ⟨rfl, hb⟩; refine ⟨_, rfl, ?_⟩; replace BK314 := kC BK314 hb; replace HB := Aside0.mk (below_step (wB1 HB.out GE314.out) hb); (try clear hb); (try clear hb2); (try clear hk); (try clear hi)))
     go_roundg k1
     case measure => have := HK1.out; omega
     case rel => exact ⟨(x5_1), (x6_1), (wrap64 (x7_1 + 1)), rS, rS, rS, H', ⟨by have := HK1.out; omega⟩, ⟨bA BK314.out⟩, ⟨wB1 HB.out GE314.out⟩⟩
   ·rw [if_neg c4] at H
    have c4b0 : decide (x7_1 < a0) = false := decide_eq_false c4
    clear c4
    by_cases c13 : x6_1 < 0
    ·rw [if_pos c13] at H
     have c13b0 : decide (x6_1 < 0) = true := decide_eq_true c13
     clear c13
     simp only [Option.some.injEq, Prod.mk.injEq] at H
     obtain ⟨rfl, rfl⟩ := H
     have hcz14_0 : wr.cell? ⟨gb314, 0, none⟩ = some (.slice none 0 0) := (blk_cell BK314.out 0).trans rfl
     have hcz14_1 : wr.cell? ⟨gb314, 1, none⟩ = some (.int .i64 0) := (blk_cell BK314.out 1).trans rfl
     have hfz14_0 := blk_frozen BK314.out 0
     have hfz14_1 := blk_frozen BK314.out 1
     go_wp2
     refine bodyPost_ret (results_cell_row rfl _ _ gb314 37 #[.slice none 0 0, .int .i64 4] (0, 0) _ rfl (by (with_reducible repeat (first | refine blk_drewN ?_ _ | refine blk_drew ?_ | refine blk_alloc ?_ _)); refine blk_put (cs := #[.slice none 0 0, .int .i64 0]) ?_ 1 _ rfl; (with_reducible repeat (first | refine blk_drewN ?_ _ | refine blk_drew ?_ | refine blk_alloc ?_ _)); refine blk_put (cs := #[.slice none 0 0, .int .i64 0]) ?_ 0 _ rfl; (with_reducible repeat (first | refine blk_drewN ?_ _ | refine blk_drew ?_ | refine blk_alloc ?_ _)); exact BK314.out) Try.underlying37 rfl (by kernel_rfl)) rfl ?_
     exact ⟨_, eS, by first | exact Kd.R_nil _ _ _ _ _ | exact Kd.N_nil _ _ _ _ _ | exact Kd.V_nil _ _ _ _ _ | exact Kd.Q_nil _ _ _ _ _ | exact Kd.S_nil _ _ _ _ _, by repeat (first | (with_reducible first | exact HB.out | apply below_alloc | apply pw_below_drewN | apply below_drew1 | refine below_set ?_ GE314.out) | exact HB.out)⟩
    ·rw [if_neg c13] at H
     have c13b0 : decide (x6_1 < 0) = false := decide_eq_false c13
     clear c13
     replace H := Option.bind_eq_some_iff.mp H
     obtain ⟨t316, A150, H⟩ := H
     replace H : (wireloomref05_CycleIn.l1 k1 l1 t316 (([x6_1] : List Int)) (wrap64 (x5_1 - 1))) = some (r1, r2) := H
     have A15 := Aside0.mk A150
     clear A150
     obtain ⟨y319, hy319⟩ : ∃ y_ : List Int, y_ = (([x6_1] : List Int)) := ⟨_, rfl⟩
     replace H : (wireloomref05_CycleIn.l1 k1 l1 t316 y319 (wrap64 (x5_1 - 1))) = some (r1, r2) := by first | (rw [hy319]; with_reducible exact H) | (have H2_ := (Option.bind_some _ _).symm.trans H; rw [hy319]; with_reducible exact H2_) | (have H2_ := (Option.bind_some _ _).symm.trans H; with_reducible exact H2_) | with_reducible exact H | (rw [hy319]; exact H) | exact H
     have Ny319 := Aside0.mk hy319
     clear hy319
     have H' := Aside0.mk H
     clear H
     go_wp2_with (first | ((with_reducible refine gate_callee (f := 38) rfl ?_); refine goesL_ (some 40) rfl rfl Try.func38 (by kernel_rfl) rfl #[.int .i64 a0, .slice A1 l1.length c1, .int .i64 x6_1] rfl (by (try simp only [List.map_toArray, List.map_cons, List.map_nil]); first | done | rfl | (simp only [List.length_drop, List.length_take]; rfl)) ?_; (with_reducible refine (wireloomref05_Back.calls k1 a0 _ _ l1 x6_1 t316 _ ?side1 ?side2 A15.out).mono ?_); (case side1 => exact cA (Kd.C_below HR1.out HB.out)); (case side2 => exact HC1.out); rintro e w16 ⟨v317, rfl, ho0, hb⟩; refine ⟨_, rfl, ?_⟩; have HO318 := Aside0.mk (Kd.R_lower ho0 (below_size (wB1 HB.out GE314.out))); replace BK314 := kC BK314 hb; replace HB := Aside0.mk (below_step (wB1 HB.out GE314.out) hb); (try clear hb); (try clear hb2); (try clear hk); (try clear hi); (try clear ho0)) | ((with_reducible refine gate_dst (N := 42) rfl ?_); refine Kd.R_lit (Kd.int .i64) _ 3 ?hg (N := 42) ?hd (xs := ([x6_1] : List Int)) (inner := [.int .i64 x6_1]) (ok := fun _ => True) (okp := fun _ => True) ?hr ?hp (fun _ hk => hk) trivial (Below.refl _ _) (Nat.le_refl _) (by simp) ?_; (case hd => rfl); (case hg => rfl); (case hr => first | (go_simp; done) | (go_simp; rfl)); (case hp => exact (Reps.one (show Kd.M (Kd.int .i64) _ _ _ x6_1 [.int .i64 x6_1] from rfl) (Reps.none _ _))); intro v320 w17 ho18 hb hg_ hnew_; clear hg_ hnew_; (first | rw [← Ny319.out] at ho18 | (simp only [Int.reduceToNat] at ho18; rw [← Ny319.out] at ho18)); have HO321 := Aside0.mk (Kd.R_lower (Kd.R_new' ho18 (Kd.R_lt (rA HO318.out))) (below_size (wB1 HB.out GE314.out))); replace HO318 := Aside0.mk (Kd.R_elder' (rA HO318.out) (Kd.R_base ho18) hb); replace BK314 := kC BK314 hb; replace HB := Aside0.mk (below_step (wB1 HB.out GE314.out) hb); clear hb ho18))
     go_loopg [10, 11] k1 (fun kq v10 v11 w' => ∃ (x10_2 : List Int) (x11_2 : Int), v11 = .int .i64 x11_2 ∧ Aside0 (wireloomref05_CycleIn.l1 kq l1 t316 x10_2 x11_2 = some (r1, r2)) ∧ Aside0 (kq ≤ k1) ∧ Aside0 (Kd.R (Kd.int .i64) 3 w' w.heap.size (fun k_ => some k_ ≠ (v10 : Value).ownBlock) v317 t316) ∧ Aside0 (Kd.R (Kd.int .i64) 3 w' w.heap.size (fun k_ => some k_ ≠ (v317 : Value).ownBlock) v10 x10_2) ∧ Aside0 (w'.heap[gb314]? = some (.cells #[(.slice none 0 0), .int .i64 0] 37 (0, 0))) ∧ Aside0 (Below w.heap.size w w'))
     case atStart => exact ⟨(y319), (wrap64 (x5_1 - 1)), rS, H', ⟨Nat.le_refl _⟩, ⟨by (with_reducible repeat (first | apply Kd.R_alloc | apply Kd.R_drewN | apply Kd.R_drew)); exact Kd.R_mono HO318.out (fun _ hk => hk.2)⟩, ⟨by (with_reducible repeat (first | apply Kd.R_alloc | apply Kd.R_drewN | apply Kd.R_drew)); exact Kd.R_mono HO321.out (fun _ hk => hk.2)⟩, ⟨bA BK314.out⟩, ⟨wB1 HB.out GE314.out⟩⟩
     case round =>
      clear H'
      try clear c1; try clear p2; try clear c3; try clear c4; try clear c4b0; try clear c6; try clear c6b0; try clear p6; try clear c7; try clear c7b0; try clear c7b1; try clear c9; try clear c9b0; try clear c13; try clear c13b0; try clear c18; try clear hcz14_0; try clear hcz14_1; try clear hfz14_0; try clear hfz14_1; try clear p2
      obtain ⟨x10_2, x11_2, rfl, HA, HK2, HO_9, HO_10, BK314, HB⟩ := hrel
      cases gk with
      | zero => exact absurd HA.out (by simp [wireloomref05_CycleIn.l1])
      | succ k2 =>
       have H := HA.out
       clear HA
       simp only [wireloomref05_CycleIn.l1] at H
       by_cases c19 : x11_2 > 0
       ·rw [if_pos c19] at H
        have c19b0 : decide (0 < x11_2) = true := decide_eq_true c19
        clear c19
        obtain ⟨ji20, hji20⟩ : ∃ j_ : Int, (wrap64 ((x10_2.length : Int) - 1)) = j_ := ⟨_, rfl⟩
        replace H : (if 0 ≤ (ji20) then (if (ji20) < (x10_2.length : Int) then ((wireloomref05_least.f k2 l1 t316 (rd x10_2 (ji20)) x11_2).bind fun t323 => (if x10_2.length < 17592186044416 then (wireloomref05_CycleIn.l1 k2 l1 t316 (x10_2 ++ [t323]) (wrap64 (x11_2 - 1))) else (none))) else (none)) else (none)) = some (r1, r2) := by first | (rw [hji20] at H; exact H) | (simp only [hji20] at H ⊢; exact H)
        have hji20w : (IntKind.i64.wrap ((x10_2.length : Int) - 1)) = ji20 := (i64_w _).trans hji20
        by_cases c21 : 0 ≤ (ji20)
        rotate_left
        ·rw [if_neg c21] at H
         exact absurd H (by simp)
        rw [if_pos c21] at H
        have c21b0 : decide (0 ≤ (ji20)) = true := decide_eq_true c21
        clear c21
        by_cases c22 : (ji20) < (x10_2.length : Int)
        rotate_left
        ·rw [if_neg c22] at H
         exact absurd H (by simp)
        rw [if_pos c22] at H
        have c22b0 : decide ((ji20) < (x10_2.length : Int)) = true := decide_eq_true c22
        clear c22
        replace H := Option.bind_eq_some_iff.mp H
        obtain ⟨t323, A230, H⟩ := H
        replace H : (if x10_2.length < 17592186044416 then (wireloomref05_CycleIn.l1 k2 l1 t316 (x10_2 ++ [t323]) (wrap64 (x11_2 - 1))) else (none)) = some (r1, r2) := H
        have A23 := Aside0.mk A230
        clear A230
        by_cases c24 : x10_2.length < 17592186044416
        rotate_left
        ·rw [if_neg c24] at H
         exact absurd H (by simp)
        rw [if_pos c24] at H
        have LMc24 := Aside0.mk c24
        clear c24
        obtain ⟨y324, hy324⟩ : ∃ y_ : List Int, y_ = (x10_2 ++ [t323]) := ⟨_, rfl⟩
        replace H : (wireloomref05_CycleIn.l1 k2 l1 t316 y324 (wrap64 (x11_2 - 1))) = some (r1, r2) := by first | (rw [hy324]; with_reducible exact H) | (have H2_ := (Option.bind_some _ _).symm.trans H; rw [hy324]; with_reducible exact H2_) | (have H2_ := (Option.bind_some _ _).symm.trans H; with_reducible exact H2_) | with_reducible exact H | (rw [hy324]; exact H) | exact H
        have Ny324 := Aside0.mk hy324
        clear hy324
        have H' := Aside0.mk H
        clear H
        obtain ⟨Ao25, co25, eo25⟩ := Kd.R_slice HO_10.out
        subst eo25
        have p322 : 0 ≤ ((ji20) : Int) := oD
        have q322 : (ji20) < (x10_2.length : Int) := oD
        obtain ⟨ad322, e322, hx322_0⟩ := Kd.at_int (Kd.R_reads' HO_10.out).2.2 (ji20) p322 q322
        cases e322
        replace p322 := eq_true p322
        replace q322 := eq_true q322
        obtain ⟨Ao26, co26, eo26⟩ := Kd.R_slice HO_9.out
        subst eo26
        go_wp2_with (first | ((with_reducible refine gate_callee (f := 39) rfl ?_); refine goesL_ (some 60) rfl rfl Try.func39 (by kernel_rfl) rfl #[.slice A1 l1.length c1, .slice Ao26 t316.length co26, .agg #[.int .i64 (rd x10_2 (ji20)), .int .i64 x11_2]] rfl (by (try simp only [List.map_toArray, List.map_cons, List.map_nil]); first | done | (simp only [hji20]; rfl) | rfl | (simp only [List.length_drop, List.length_take]; rfl)) ?_; (with_reducible refine (wireloomref05_least.calls k2 _ _ l1 _ _ t316 (rd x10_2 (ji20)) x11_2 t323 _ ?side1 ?side2 ?side3 ?side4 A23.out).mono ?_); (case side1 => exact cA (Kd.C_below HR1.out HB.out)); (case side2 => exact HC1.out); (case side3 => exact cA (Kd.R_reads' HO_9.out).2.2); (case side4 => exact (Kd.R_reads' HO_9.out).2.1); rintro e w27 ⟨rfl, hb⟩; refine ⟨_, rfl, ?_⟩; replace HO_9 := Aside0.mk (Kd.R_below (rA HO_9.out) hb); replace HO_10 := Aside0.mk (Kd.R_below (rA HO_10.out) hb); replace BK314 := kC BK314 hb; replace HB := Aside0.mk (below_step (wB1 HB.out GE314.out) hb); (try clear hb); (try clear hb2); (try clear hk); (try clear hi)) | ((with_reducible refine gate_builtin (b := .append) (xs := #[.tmp 49, .tmp 61]) rfl ?_); at_builtin; refine Kd.R_append (Kd.int .i64) (w0 := w) w.heap.size rfl (.tmp 49) (.tmp 61) 26 3 (.int .i64 0) 8 rfl Try.underlying26 info3 rfl (by decide) (by omega) (.slice (some ad322) x10_2.length co25) x10_2 t323 [.int .i64 t323] (fun k_ => some k_ ≠ (.slice Ao26 t316.length co26 : Value).ownBlock) (fun _ => False) rfl rfl ?aP (fun _ hk => hk.elim) ?aF ?aO ?aB ?aS ?aL ?_; (case aP => exact rfl); (case aB => exact (wB1 HB.out GE314.out)); (case aF => exact (fun k_ hk => Kd.fresh' (Kd.R_lt (rA HO_9.out)) k_ hk)); (case aO => exact (rA HO_10.out)); (case aS => exact (below_size (wB1 HB.out GE314.out))); (case aL => have := LMc24.out; omega); intro v325 w28 ho hb hg hat; rw [← Ny324.out] at ho; replace HO_9 := Aside0.mk (Kd.R_after (ok := (fun _ => True)) (by (with_reducible repeat (first | apply Kd.R_alloc | apply Kd.R_drewN | apply Kd.R_drew)); exact Kd.R_mono HO_9.out (fun _ hk => ⟨trivial, hk⟩)) hg hat); replace BK314 := Aside0.mk (blk_grown (g := gb314) (o := .cells #[.slice none 0 0, .int .i64 0] 37 (0, 0)) (bA BK314.out) hg (Kd.R_ne HO_10.out BK314.out (by decide))); replace HB := Aside0.mk (hb); have HO326 := Aside0.mk (ho); clear HO_10; clear ho hb hg hat))
        go_roundg k2
        case measure => have := HK1.out; have := HK2.out; omega
        case rel => exact ⟨(y324), (wrap64 (x11_2 - 1)), rS, H', ⟨by have := HK1.out; have := HK2.out; omega⟩, ⟨by (with_reducible repeat (first | apply Kd.R_alloc | apply Kd.R_drewN | apply Kd.R_drew)); exact Kd.R_mono HO_9.out (fun _ hk => hk.2)⟩, ⟨rA HO326.out⟩, ⟨bA BK314.out⟩, ⟨wB1 HB.out GE314.out⟩⟩
       ·rw [if_neg c19] at H
        have c19b0 : decide (0 < x11_2) = false := decide_eq_false c19
        clear c19
        simp only [Option.some.injEq, Prod.mk.injEq] at H
        obtain ⟨rfl, rfl⟩ := H
        obtain ⟨Ao29, co29, eo29⟩ := Kd.R_slice HO_10.out
        subst eo29
        have hcz30_0 : wr.cell? ⟨gb314, 0, none⟩ = some (.slice none 0 0) := (blk_cell BK314.out 0).trans rfl
        have hcz30_1 : wr.cell? ⟨gb314, 1, none⟩ = some (.int .i64 0) := (blk_cell BK314.out 1).trans rfl
        have hfz30_0 := blk_frozen BK314.out 0
        have hfz30_1 := blk_frozen BK314.out 1
        go_wp2
        refine bodyPost_ret (results_cell_row rfl _ _ gb314 37 #[.slice Ao29 x10_2.length co29, .int .i64 0] (0, 0) _ rfl (by (with_reducible repeat (first | refine blk_drewN ?_ _ | refine blk_drew ?_ | refine blk_alloc ?_ _)); refine blk_put (cs := #[.slice Ao29 x10_2.length co29, .int .i64 0]) ?_ 1 _ rfl; (with_reducible repeat (first | refine blk_drewN ?_ _ | refine blk_drew ?_ | refine blk_alloc ?_ _)); refine blk_put (cs := #[.slice none 0 0, .int .i64 0]) ?_ 0 _ rfl; (with_reducible repeat (first | refine blk_drewN ?_ _ | refine blk_drew ?_ | refine blk_alloc ?_ _)); exact BK314.out) Try.underlying37 rfl (by kernel_rfl)) rfl ?_
        exact ⟨_, eS, by (with_reducible repeat (first | apply Kd.R_alloc | apply Kd.R_drewN | apply Kd.R_drew)); exact Kd.R_mono (Kd.R_far (p := ⟨gb314, 1, none⟩) (Kd.R_far (p := ⟨gb314, 0, none⟩) (Kd.R_types HO_10.out BK314.out (by decide)) (fun _ hk => hk.2) (.slice Ao29 x10_2.length co29)) (fun _ hk => hk.2) (.int .i64 0)) (fun _ hk => trivial), by repeat (first | (with_reducible first | exact HB.out | apply below_alloc | apply pw_below_drewN | apply below_drew1 | refine below_set ?_ GE314.out) | exact HB.out)⟩
end Go.Proofs.Ytlldjinejckbaaa.PD

end
section
namespace Go.Proofs.Ytlldjinejckbaaa.PD
open Go.RowKit Go.Proofs.YtlldjinejckbaaaW.PrintWords Go.Proofs.YtlldjinejckbaaaW.PrintLast Go.Proofs.YtlldjinejckbaaaW.PrintMore
attribute [local go_sem] max2_int min2_int max_two min_two max_three min_three max_four min_four
set_option linter.unusedVariables false
set_option linter.unusedSimpArgs false
mutual
def wireloomref05_DepthIn.l0 : Nat → Int → List (S55) → List Int → Int → List Int → Int → Option (List Int × Int)
 | 0, _, _, _, _, _, _ => none
 | k + 1, x0, x1, x6, x7, x333000, x333001 => if x7 < x0 then (if 0 ≤ x7 then (if x7 < (x333000.length : Int) then (wireloomref05_DepthIn.l1 k x0 x1 x6 x7 (rd x333000 x7) 0 x333000 x333001) else (none)) else (none)) else (some (x6, 0))
def wireloomref05_DepthIn.l1 : Nat → Int → List (S55) → List Int → Int → Int → Int → List Int → Int → Option (List Int × Int)
 | 0, _, _, _, _, _, _, _, _ => none
 | k + 1, x0, x1, x6, x7, x8, x9, x333000, x333001 => if x9 < (x1.length : Int) then (if 0 ≤ x9 then (if ((rd_T55 x1 x9).f1) = x8 then (if 0 ≤ x8 then (if x8 < (x6.length : Int) then (if 0 ≤ ((rd_T55 x1 x9).f0) then (if ((rd_T55 x1 x9).f0) < (x6.length : Int) then (wireloomref05_DepthIn.l1 k x0 x1 (x6.set (x8 : Int).toNat (mx (rd x6 x8) (wrap64 ((rd x6 ((rd_T55 x1 x9).f0)) + 1)))) x7 x8 (wrap64 (x9 + 1)) x333000 x333001) else (none)) else (none)) else (none)) else (none)) else (wireloomref05_DepthIn.l1 k x0 x1 x6 x7 x8 (wrap64 (x9 + 1)) x333000 x333001)) else (none)) else (wireloomref05_DepthIn.l0 k x0 x1 x6 (wrap64 (x7 + 1)) x333000 x333001)
end
def wireloomref05_DepthIn.f (k : Nat) (a0 : Int) (l1 : List (S55)) : Option (List Int × Int) := (wireloomref05_OrderIn.f k a0 l1).bind fun bt328 => (if bt328.2 = 0 then (if 0 ≤ a0 then (if (a0 : Int).toNat ≤ 35184372088832 then (wireloomref05_DepthIn.l0 k a0 l1 (List.replicate (a0 : Int).toNat 0) 0 bt328.1 bt328.2) else (none)) else (none)) else (some (([] : List Int), bt328.2)))
def wireloomref05_DepthIn.T13 : Bool × List (List Nat × List Nat) := (true, [([], []), ([], []), ([], []), ([], []), ([2, 3], [2, 3]), ([4], [4]), ([], []), ([], []), ([], []), ([7, 8], [7, 8]), ([9], [9]), ([10], [10]), ([6, 11], [6, 11]), ([12], [12]), ([13], [13]), ([5, 14], [5, 14]), ([0, 1, 0, 1, 2, 3, 4, 5, 6, 7, 8, 9, 10, 11, 12, 13, 14, 15], [0, 1]), ([16, 15, 0, 1, 2, 3, 4, 5, 6, 7, 8, 9, 10, 11, 12, 13, 14, 15], [15, 16])])
def wireloomref05_DepthIn.B13 : List Nat := [0, 0, 0, 0, 12, 28, 0, 0, 0, 384, 896, 1920, 4032, 8128, 16320, 32764, 65535, 131071]
theorem wireloomref05_DepthIn.tab13 : rtab .any (opsOf Try.f20 13) = wireloomref05_DepthIn.T13 := by kernel_rfl
theorem wireloomref05_DepthIn.bits13 : waitsOk wireloomref05_DepthIn.T13.2 wireloomref05_DepthIn.B13 = true := by kernel_rfl
set_option maxHeartbeats 8000000 in
set_option maxRecDepth 100000 in
theorem wireloomref05_DepthIn.calls (k : Nat) (a0 : Int) (A1 : Option Addr) (c1 : Nat) (l1 : List (S55)) (r1 : List Int) (r2 : Int) (w : World) (hr1 : Kd.C k55 w A1 l1.length l1) (hc1 : l1.length ≤ c1) (h : wireloomref05_DepthIn.f k a0 l1 = some (r1, r2)) :
  Calls Try.prog 20 #[.int .i64 a0, .slice A1 l1.length c1] w fun e w' => ∃ v0_ : Value, e = .returned (.agg #[v0_, .int .i64 r2]) ∧ Kd.R (Kd.int .i64) 3 w' w.heap.size (fun _ => True) v0_ r1 ∧ Below w.heap.size w w' := by
 have hu37 := Try.underlying37
 have HR1 := Aside0.mk hr1
 have HC1 := Aside0.mk hc1
 clear hr1 hc1
 have HB := Aside0.mk (Below.refl w.heap.size w)
 have H : ((wireloomref05_OrderIn.f k a0 l1).bind fun bt328 => (if bt328.2 = 0 then (if 0 ≤ a0 then (if (a0 : Int).toNat ≤ 35184372088832 then (wireloomref05_DepthIn.l0 k a0 l1 (List.replicate (a0 : Int).toNat 0) 0 bt328.1 bt328.2) else (none)) else (none)) else (some (([] : List Int), bt328.2)))) = some (r1, r2) := h
 clear h
 replace H := Option.bind_eq_some_iff.mp H
 obtain ⟨⟨t328, t331⟩, A30, H⟩ := H
 replace H : (if t331 = 0 then (if 0 ≤ a0 then (if (a0 : Int).toNat ≤ 35184372088832 then (wireloomref05_DepthIn.l0 k a0 l1 (List.replicate (a0 : Int).toNat 0) 0 t328 t331) else (none)) else (none)) else (some (([] : List Int), t331))) = some (r1, r2) := H
 have A3 := Aside0.mk A30
 clear A30
 by_cases c4 : t331 = 0
 ·rw [if_pos c4] at H
  have c4b0 : (t331 == 0) = true := beq_iff_eq.mpr c4
  have c4b1 : (t331 != 0) = false := bne_eq_false_iff_eq.mpr c4
  clear c4
  by_cases c5 : 0 ≤ a0
  rotate_left
  ·rw [if_neg c5] at H
   exact absurd H (by simp)
  rw [if_pos c5] at H
  have c5b0 := eq_true c5
  have c5b1 : decide (0 ≤ a0) = true := decide_eq_true c5
  clear c5
  by_cases c6 : (a0 : Int).toNat ≤ 35184372088832
  rotate_left
  ·rw [if_neg c6] at H
   exact absurd H (by simp)
  rw [if_pos c6] at H
  have c6b0 := eq_true c6
  have c6b1 : decide ((a0 : Int).toNat ≤ 35184372088832) = true := decide_eq_true c6
  clear c6
  obtain ⟨y333, hy333⟩ : ∃ y_ : List Int, y_ = (List.replicate (a0 : Int).toNat 0) := ⟨_, rfl⟩
  replace H : (wireloomref05_DepthIn.l0 k a0 l1 y333 0 t328 t331) = some (r1, r2) := by first | (rw [hy333]; with_reducible exact H) | (have H2_ := (Option.bind_some _ _).symm.trans H; rw [hy333]; with_reducible exact H2_) | (have H2_ := (Option.bind_some _ _).symm.trans H; with_reducible exact H2_) | with_reducible exact H | (rw [hy333]; exact H) | exact H
  have Ny333 := Aside0.mk hy333
  clear hy333
  have H' := Aside0.mk H
  clear H
  go_enter Try.func20, Try.ntmps20
  go_wp2_with (first | ((with_reducible refine gate_dst (N := 4) rfl ?_); refine box_event ?hg (N := 4) ?hd (cs := #[.slice none 0 0, .int .i64 0]) (t := 37) ?hr ?_; (case hd => rfl); (case hg => rfl); (case hr => first | (go_simp; done) | (go_simp; rfl)); intro gb327 hg w7 hbox hb; have BK327 := Aside0.mk (hbox); have GW327 := Aside0.mk ((by rw [hg]; exact (below_size (wB0 HB.out)) : w.heap.size ≤ gb327)); have GE327 := Aside0.mk ((by rw [hg]; exact (below_size (wB0 HB.out)) : w.heap.size ≤ gb327)); replace HB := Aside0.mk (below_step (wB0 HB.out) hb); clear hb hbox hg) | ((with_reducible refine gate_callee (f := 16) rfl ?_); refine goesL_ (some 12) rfl rfl Try.func16 (by kernel_rfl) rfl #[.int .i64 a0, .slice A1 l1.length c1] rfl (by (try simp only [List.map_toArray, List.map_cons, List.map_nil]); first | done | rfl | (simp only [List.length_drop, List.length_take]; rfl)) ?_; (with_reducible refine (wireloomref05_OrderIn.calls k a0 _ _ l1 t328 t331 _ ?side1 ?side2 A3.out).mono ?_); (case side1 => exact cA (Kd.C_below HR1.out HB.out)); (case side2 => exact HC1.out); rintro e w8 ⟨v329, rfl, ho0, hb⟩; refine ⟨_, rfl, ?_⟩; have HO330 := Aside0.mk (Kd.R_lower ho0 (below_size (wB1 HB.out GE327.out))); replace BK327 := kC BK327 hb; replace HB := Aside0.mk (below_step (wB1 HB.out GE327.out) hb); (try clear hb); (try clear hb2); (try clear hk); (try clear hi); (try clear ho0)) | ((with_reducible refine gate_dst (N := 5) rfl ?_); refine box_event ?hg (N := 5) ?hd (cs := #[.slice none 0 0, .int .i64 0]) (t := 37) ?hr ?_; (case hd => rfl); (case hg => rfl); (case hr => first | (go_simp; done) | (go_simp; rfl)); intro gb332 hg w9 hbox hb; replace HO330 := Aside0.mk (Kd.R_below (rA HO330.out) hb); have BK332 := Aside0.mk (hbox); have GW332 := Aside0.mk ((by rw [hg]; exact (below_size (wB1 HB.out GE327.out)) : w.heap.size ≤ gb332)); have GE332 := Aside0.mk ((by rw [hg]; exact (below_size (wB1 HB.out GE327.out)) : w.heap.size ≤ gb332)); replace HB := Aside0.mk (below_step (wB1 HB.out GE327.out) hb); have NB327_332 := Aside0.mk ((by rw [hg]; exact Nat.ne_of_lt (blk_lt (g := gb327) (o := .cells #[.slice none 0 0, .int .i64 0] 37 (0, 0)) (bA BK327.out)) : gb327 ≠ gb332)); have NB332_327 := Aside0.mk ((by rw [hg]; exact Nat.ne_of_gt (blk_lt (g := gb327) (o := .cells #[.slice none 0 0, .int .i64 0] 37 (0, 0)) (bA BK327.out)) : gb332 ≠ gb327)); replace BK327 := kC BK327 hb; clear hb hbox hg; obtain ⟨Ao10, co10, eo10⟩ := Kd.R_slice HO330.out; subst eo10; have hnb11 := NB332_327.out; have hnc11 := NB327_332.out; have hcz12_0 : w9.cell? ⟨gb332, 0, none⟩ = some (.slice none 0 0) := (blk_cell BK332.out 0).trans rfl; have hcz12_1 : w9.cell? ⟨gb332, 1, none⟩ = some (.int .i64 0) := (blk_cell BK332.out 1).trans rfl; have hfz12_0 := blk_frozen BK332.out 0; have hfz12_1 := blk_frozen BK332.out 1) | ((with_reducible refine gate_dst (N := 20) rfl ?_); refine Kd.R_make (Kd.int .i64) _ 3 rfl (N := 20) rfl 26 _ _ rfl a0 rfl rfl Try.underlying26 (.int .i64 0) 8 info3 rfl (by decide) (by omega) 0 (ok := fun _ => True) (okp := fun _ => True) rfl (fun _ hk => hk) trivial oD (Nat.le_trans (Nat.mul_le_mul_right _ (oD : a0.toNat ≤ 35184372088832)) (by omega)) (Below.refl _ _) (Nat.le_refl _) ?_; intro v334 w13 ho14 hb hg_ hnew_; clear hg_ hnew_; (first | rw [← Ny333.out] at ho14 | (simp only [Int.reduceToNat] at ho14; rw [← Ny333.out] at ho14)); have HO335 := Aside0.mk (Kd.R_lower (Kd.R_new' ho14 (Kd.R_lt (by (with_reducible repeat (first | apply Kd.R_alloc | apply Kd.R_drewN | apply Kd.R_drew)); exact (Kd.R_mono (Kd.R_far (p := ⟨gb332, 1, none⟩) (Kd.R_far (p := ⟨gb332, 0, none⟩) (Kd.R_types HO330.out BK332.out (by decide)) (fun _ hk => hk.2) (.slice Ao10 t328.length co10)) (fun _ hk => hk.2) (.int .i64 t331)) (fun _ h_ => h_.1))))) (below_size (wB2 HB.out GE327.out GE332.out))); replace HO330 := Aside0.mk (Kd.R_elder' (by (with_reducible repeat (first | apply Kd.R_alloc | apply Kd.R_drewN | apply Kd.R_drew)); exact (Kd.R_mono (Kd.R_far (p := ⟨gb332, 1, none⟩) (Kd.R_far (p := ⟨gb332, 0, none⟩) (Kd.R_types HO330.out BK332.out (by decide)) (fun _ hk => hk.2) (.slice Ao10 t328.length co10)) (fun _ hk => hk.2) (.int .i64 t331)) (fun _ h_ => h_.1))) (Kd.R_base ho14) hb); replace BK327 := Aside0.mk (blk_below (g := gb327) (o := .cells #[.slice none 0 0, .int .i64 0] 37 (0, 0)) (by (with_reducible repeat (first | refine blk_drewN ?_ _ | refine blk_drew ?_ | refine blk_alloc ?_ _)); refine blk_far ?_ NB327_332.out _; (with_reducible repeat (first | refine blk_drewN ?_ _ | refine blk_drew ?_ | refine blk_alloc ?_ _)); refine blk_far ?_ NB327_332.out _; (with_reducible repeat (first | refine blk_drewN ?_ _ | refine blk_drew ?_ | refine blk_alloc ?_ _)); exact BK327.out) hb); replace BK332 := Aside0.mk (blk_below (g := gb332) (o := .cells #[.slice Ao10 t328.length co10, .int .i64 t331] 37 (0, 0)) (by (with_reducible repeat (first | refine blk_drewN ?_ _ | refine blk_drew ?_ | refine blk_alloc ?_ _)); refine blk_put (cs := #[.slice Ao10 t328.length co10, .int .i64 0]) ?_ 1 _ rfl; (with_reducible repeat (first | refine blk_drewN ?_ _ | refine blk_drew ?_ | refine blk_alloc ?_ _)); refine blk_put (cs := #[.slice none 0 0, .int .i64 0]) ?_ 0 _ rfl; (with_reducible repeat (first | refine blk_drewN ?_ _ | refine blk_drew ?_ | refine blk_alloc ?_ _)); exact BK332.out) hb); replace HB := Aside0.mk (below_step (wB2 HB.out GE327.out GE332.out) hb); clear hb ho14))
  go_loopg [7] k (fun kq v7 w' => ∃ (x6_1 : List Int) (x7_1 : Int), v7 = .int .i64 x7_1 ∧ Aside0 (wireloomref05_DepthIn.l0 kq a0 l1 x6_1 x7_1 t328 t331 = some (r1, r2)) ∧ Aside0 (kq ≤ k) ∧ Aside0 (Kd.R (Kd.int .i64) 3 w' w.heap.size (fun k_ => some k_ ≠ ((.slice Ao10 t328.length co10) : Value).ownBlock) v334 x6_1) ∧ Aside0 (Kd.R (Kd.int .i64) 3 w' w.heap.size (fun k_ => some k_ ≠ (v334 : Value).ownBlock) (.slice Ao10 t328.length co10) t328) ∧ Aside0 (w'.heap[gb327]? = some (.cells #[(.slice none 0 0), .int .i64 0] 37 (0, 0))) ∧ Aside0 (w'.heap[gb332]? = some (.cells #[(.slice Ao10 t328.length co10), .int .i64 t331] 37 (0, 0))) ∧ Aside0 (Below w.heap.size w w'))
  case atStart => exact ⟨(y333), (0), rS, H', ⟨Nat.le_refl _⟩, ⟨by (with_reducible repeat (first | apply Kd.R_alloc | apply Kd.R_drewN | apply Kd.R_drew)); exact Kd.R_mono HO335.out (fun _ hk => hk.2)⟩, ⟨by (with_reducible repeat (first | apply Kd.R_alloc | apply Kd.R_drewN | apply Kd.R_drew)); exact Kd.R_mono HO330.out (fun _ hk => hk.2)⟩, ⟨bA BK327.out⟩, ⟨bA BK332.out⟩, ⟨wB2 HB.out GE327.out GE332.out⟩⟩
  case round =>
   clear H'
   try clear c1; try clear c2; try clear p2; try clear c4; try clear c4b0; try clear c4b1; try clear c5; try clear c5b0; try clear c5b1; try clear c6; try clear c6b0; try clear c6b1; try clear c11; try clear hcz12_0; try clear hcz12_1; try clear hfz12_0; try clear hfz12_1
   obtain ⟨x6_1, x7_1, rfl, HA, HK1, HO_6, HO_333000, BK327, BK332, HB⟩ := hrel
   cases gk with
   | zero => exact absurd HA.out (by simp [wireloomref05_DepthIn.l0])
   | succ k1 =>
    have H := HA.out
    clear HA
    simp only [wireloomref05_DepthIn.l0] at H
    by_cases c15 : x7_1 < a0
    ·rw [if_pos c15] at H
     have c15b0 : decide (x7_1 < a0) = true := decide_eq_true c15
     clear c15
     by_cases c16 : 0 ≤ x7_1
     rotate_left
     ·rw [if_neg c16] at H
      exact absurd H (by simp)
     rw [if_pos c16] at H
     have c16b0 : decide (0 ≤ x7_1) = true := decide_eq_true c16
     clear c16
     by_cases c17 : x7_1 < (t328.length : Int)
     rotate_left
     ·rw [if_neg c17] at H
      exact absurd H (by simp)
     rw [if_pos c17] at H
     have c17b0 : decide (x7_1 < (t328.length : Int)) = true := decide_eq_true c17
     clear c17
     have H' := Aside0.mk H
     clear H
     have hnb18 := NB332_327.out
     have hnc18 := NB327_332.out
     have hcz19_0 : wr.cell? ⟨gb332, 0, none⟩ = some (.slice Ao10 t328.length co10) := (blk_cell BK332.out 0).trans rfl
     have hcz19_1 : wr.cell? ⟨gb332, 1, none⟩ = some (.int .i64 t331) := (blk_cell BK332.out 1).trans rfl
     have hfz19_0 := blk_frozen BK332.out 0
     have hfz19_1 := blk_frozen BK332.out 1
     have p336 : 0 ≤ (x7_1 : Int) := oD
     have q336 : x7_1 < (t328.length : Int) := oD
     obtain ⟨ad336, e336, hx336_0⟩ := Kd.at_int (Kd.R_reads' HO_333000.out).2.2 x7_1 p336 q336
     cases e336
     replace p336 := eq_true p336
     replace q336 := eq_true q336
     go_wp2
     go_loopg [9] k1 (fun kq v9 w' => ∃ (x6_2 : List Int) (x9_2 : Int), v9 = .int .i64 x9_2 ∧ Aside0 (wireloomref05_DepthIn.l1 kq a0 l1 x6_2 x7_1 (rd t328 x7_1) x9_2 t328 t331 = some (r1, r2)) ∧ Aside0 (kq ≤ k1) ∧ Aside0 (Kd.R (Kd.int .i64) 3 w' w.heap.size (fun k_ => some k_ ≠ ((.slice (some ad336) t328.length co10) : Value).ownBlock) v334 x6_2) ∧ Aside0 (Kd.R (Kd.int .i64) 3 w' w.heap.size (fun k_ => some k_ ≠ (v334 : Value).ownBlock) (.slice (some ad336) t328.length co10) t328) ∧ Aside0 (w'.heap[gb327]? = some (.cells #[(.slice none 0 0), .int .i64 0] 37 (0, 0))) ∧ Aside0 (w'.heap[gb332]? = some (.cells #[(.slice (some ad336) t328.length co10), .int .i64 t331] 37 (0, 0))) ∧ Aside0 (Below w.heap.size w w'))
     case atStart => exact ⟨(x6_1), (0), rS, H', ⟨Nat.le_refl _⟩, ⟨rA HO_6.out⟩, ⟨rA HO_333000.out⟩, ⟨bA BK327.out⟩, ⟨bA BK332.out⟩, ⟨wB2 HB.out GE327.out GE332.out⟩⟩
     case round =>
      clear H'
      try clear c1; try clear c2; try clear p2; try clear p3; try clear q3; try clear hx3; try clear c4; try clear c4b0; try clear c4b1; try clear c5; try clear c5b0; try clear c5b1; try clear c6; try clear c6b0; try clear c6b1; try clear c11; try clear c15; try clear c15b0; try clear c16; try clear c16b0; try clear c17; try clear c17b0; try clear c18; try clear hcz12_0; try clear hcz12_1; try clear hcz19_0; try clear hcz19_1; try clear hfz12_0; try clear hfz12_1; try clear hfz19_0; try clear hfz19_1; try clear hx336_0; try clear p2; try clear p336; try clear q336
      obtain ⟨x6_2, x9_2, rfl, HA, HK2, HO_6, HO_333000, BK327, BK332, HB⟩ := hrel
      cases gk with
      | zero => exact absurd HA.out (by simp [wireloomref05_DepthIn.l1])
      | succ k2 =>
       have H := HA.out
       clear HA
       simp only [wireloomref05_DepthIn.l1] at H
       by_cases c20 : x9_2 < (l1.length : Int)
       ·rw [if_pos c20] at H
        have c20b0 : decide (x9_2 < (l1.length : Int)) = true := decide_eq_true c20
        clear c20
        by_cases c21 : 0 ≤ x9_2
        rotate_left
        ·rw [if_neg c21] at H
         exact absurd H (by simp)
        rw [if_pos c21] at H
        have c21b0 : decide (0 ≤ x9_2) = true := decide_eq_true c21
        clear c21
        by_cases c22 : ((rd_T55 l1 x9_2).f1) = (rd t328 x7_1)
        ·rw [if_pos c22] at H
         have c22b0 : (((rd_T55 l1 x9_2).f1) == (rd t328 x7_1)) = true := beq_iff_eq.mpr c22
         have c22b1 : (((rd_T55 l1 x9_2).f1) != (rd t328 x7_1)) = false := bne_eq_false_iff_eq.mpr c22
         clear c22
         by_cases c23 : 0 ≤ (rd t328 x7_1)
         rotate_left
         ·rw [if_neg c23] at H
          exact absurd H (by simp)
         rw [if_pos c23] at H
         have c23b0 : decide (0 ≤ (rd t328 x7_1)) = true := decide_eq_true c23
         clear c23
         by_cases c24 : (rd t328 x7_1) < (x6_2.length : Int)
         rotate_left
         ·rw [if_neg c24] at H
          exact absurd H (by simp)
         rw [if_pos c24] at H
         have c24b0 : decide ((rd t328 x7_1) < (x6_2.length : Int)) = true := decide_eq_true c24
         clear c24
         by_cases c25 : 0 ≤ ((rd_T55 l1 x9_2).f0)
         rotate_left
         ·rw [if_neg c25] at H
          exact absurd H (by simp)
         rw [if_pos c25] at H
         have c25b0 : decide (0 ≤ ((rd_T55 l1 x9_2).f0)) = true := decide_eq_true c25
         clear c25
         by_cases c26 : ((rd_T55 l1 x9_2).f0) < (x6_2.length : Int)
         rotate_left
         ·rw [if_neg c26] at H
          exact absurd H (by simp)
         rw [if_pos c26] at H
         have c26b0 : decide (((rd_T55 l1 x9_2).f0) < (x6_2.length : Int)) = true := decide_eq_true c26
         clear c26
         obtain ⟨ji27, hji27⟩ : ∃ j_ : Int, (mx (rd x6_2 (rd t328 x7_1)) (wrap64 ((rd x6_2 ((rd_T55 l1 x9_2).f0)) + 1))) = j_ := ⟨_, rfl⟩
         replace H : (wireloomref05_DepthIn.l1 k2 a0 l1 (x6_2.set ((rd t328 x7_1) : Int).toNat (ji27)) x7_1 (rd t328 x7_1) (wrap64 (x9_2 + 1)) t328 t331) = some (r1, r2) := by first | (rw [hji27] at H; exact H) | (simp only [hji27] at H ⊢; exact H)
         have hji27_ : (if (rd x6_2 (rd t328 x7_1)) < (wrap64 ((rd x6_2 ((rd_T55 l1 x9_2).f0)) + 1)) then (wrap64 ((rd x6_2 ((rd_T55 l1 x9_2).f0)) + 1)) else (rd x6_2 (rd t328 x7_1))) = ji27 := hji27
         obtain ⟨y341, hy341⟩ : ∃ y_ : List Int, y_ = (x6_2.set ((rd t328 x7_1) : Int).toNat (ji27)) := ⟨_, rfl⟩
         replace H : (wireloomref05_DepthIn.l1 k2 a0 l1 y341 x7_1 (rd t328 x7_1) (wrap64 (x9_2 + 1)) t328 t331) = some (r1, r2) := by first | (rw [hy341]; with_reducible exact H) | (have H2_ := (Option.bind_some _ _).symm.trans H; rw [hy341]; with_reducible exact H2_) | (have H2_ := (Option.bind_some _ _).symm.trans H; with_reducible exact H2_) | with_reducible exact H | (rw [hy341]; exact H) | exact H
         have Ny341 := Aside0.mk hy341
         clear hy341
         have H' := Aside0.mk H
         clear H
         have p337 : 0 ≤ (x9_2 : Int) := oD
         have q337 : x9_2 < (l1.length : Int) := oD
         obtain ⟨ad337, e337, hx337_0, hx337_1⟩ := at_T55 HR1.out x9_2 p337 q337
         cases e337
         (try (replace hx337_0 := hB HB.out hx337_0))
         (try (replace hx337_1 := hB HB.out hx337_1))
         replace p337 := eq_true p337
         replace q337 := eq_true q337
         try go_wp2
         replace HO_6 := Aside0.mk (Kd.R_drew HO_6.out)
         replace HO_333000 := Aside0.mk (Kd.R_drew HO_333000.out)
         replace BK327 := Aside0.mk (blk_drew BK327.out)
         replace BK332 := Aside0.mk (blk_drew BK332.out)
         replace HB := Aside0.mk (below_drew1 HB.out)
         obtain ⟨Ao30, co30, eo30⟩ := Kd.R_slice HO_6.out
         (first | subst eo30 | (injection eo30 with f1_ f2_ f3_; have f4_ := f1_.symm; have f5_ := f3_.symm; clear f1_ f2_ f3_; subst f4_; subst f5_))
         have p338 : 0 ≤ ((rd t328 x7_1) : Int) := oD
         have q338 : (rd t328 x7_1) < (x6_2.length : Int) := oD
         obtain ⟨ad338, e338, hx338_0⟩ := Kd.at_int (Kd.R_reads' HO_6.out).2.2 (rd t328 x7_1) p338 q338
         cases e338
         replace p338 := eq_true p338
         replace q338 := eq_true q338
         have p339 : 0 ≤ (x9_2 : Int) := oD
         have q339 : x9_2 < (l1.length : Int) := oD
         obtain ⟨ad339, e339, hx339_0, hx339_1⟩ := at_T55 HR1.out x9_2 p339 q339
         have hw339_1 := hx339_1
         have hw339_0 := hx339_0
         obtain rfl : ad337 = ad339 := (by injection e339)
         (try (replace hx339_0 := hB HB.out hx339_0))
         (try (replace hx339_1 := hB HB.out hx339_1))
         replace p339 := eq_true p339
         replace q339 := eq_true q339
         have p340 : 0 ≤ (((rd_T55 l1 x9_2).f0) : Int) := oD
         have q340 : ((rd_T55 l1 x9_2).f0) < (x6_2.length : Int) := oD
         obtain ⟨ad340, e340, hx340_0⟩ := Kd.at_int (Kd.R_reads' HO_6.out).2.2 ((rd_T55 l1 x9_2).f0) p340 q340
         obtain rfl : ad338 = ad340 := (by injection e340)
         replace p340 := eq_true p340
         replace q340 := eq_true q340
         have p28 : 0 ≤ ((rd t328 x7_1) : Int) := oD
         have q28 : ((rd t328 x7_1) : Int) < ((x6_2.length : Int) : Int) := oD
         obtain ⟨go28, co28, eo28, gb28, gl28, cl28, HG28⟩ := Kd.R_form HO_6.out (by omega)
         (first | cases eo28 | (injection eo28 with ea_ en_ ec_; (first | subst ea_ | (injection ea_ with ea_; subst ea_)); subst ec_; clear en_))
         have GB28 := Aside0.mk gb28
         have GG28 := Aside0.mk HG28
         clear gb28 gl28 HG28
         (first | simp only [add_plain] at hx338_0 | skip)
         (first | simp only [add_plain] at hx340_0 | skip)
         obtain ⟨hx28_0, hf28_0⟩ := Kd.R_celln 0 HO_6.out ((rd t328 x7_1) : Int) p28 q28
         replace p28 := eq_true p28
         replace q28 := eq_true q28
         have HP31 := Kd.R_putn HO_6.out ((rd t328 x7_1) : Int) ji27
         rw [← Ny341.out] at HP31
         have HQ31 := Aside0.mk HP31
         clear HP31
         refine start_ (n := 18) (S := fun w' => w'.cell? ⟨go28, ((rd t328 x7_1)).toNat, none⟩ = some (.int .i64 (rd x6_2 (rd t328 x7_1))) ∧ w'.cell? (ad337.add ((x9_2).toNat * 2)) = some (.int .i64 ((rd_T55 l1 x9_2).f0)) ∧ w'.cell? ⟨(ad337.add ((x9_2).toNat * 2)).block, (ad337.add ((x9_2).toNat * 2)).off + 1, none⟩ = some (.int .i64 ((rd_T55 l1 x9_2).f1)) ∧ w'.cell? ⟨go28, (((rd_T55 l1 x9_2).f0)).toNat, none⟩ = some (.int .i64 (rd x6_2 ((rd_T55 l1 x9_2).f0)))) (ds := [17]) #[false, false, false, false, false, false, false, false, false, false, false, false, false, false, false, false, false, false] (by kernel_rfl) rfl rfl ⟨hx338_0, ((HB.out.cell (World.block_lt_of_cell? w _ hw339_0)).trans hw339_0), ((HB.out.cell (World.block_lt_of_cell? w _ hw339_1)).trans hw339_1), hx340_0⟩ (fun hHeld => ?_); refine with_tabW wireloomref05_DepthIn.tab13 wireloomref05_DepthIn.bits13 (fun HT_ HW_ => ?_)
         generalize wr.drew = w29 at HO_6 HO_333000 BK327 BK332 HB GG28 HQ31 hf28_0 hx28_0 hx338_0 hx339_0 hx339_1 hx340_0 hHeld ⊢
         refine pV 0 44 (bz 18 0x1) HT_.out ?_
         refine pV 1 45 (bz 18 0x3) HT_.out ?_
         refine pV 2 46 (bz 18 0x7) HT_.out ?_
         refine pV 3 47 (bz 18 0xf) HT_.out ?_
         refine pV 4 48 (bz 18 0x1f) HT_.out ?_
         refine pV 6 50 (bz 18 0x5f) HT_.out ?_
         refine pV 7 51 (bz 18 0xdf) HT_.out ?_
         refine pV 8 52 (bz 18 0x1df) HT_.out ?_
         refine pV 9 53 (bz 18 0x3df) HT_.out ?_
         refine pV 10 54 (bz 18 0x7df) HT_.out ?_
         refine tV 5 49 (bz 18 0x7ff) HT_.out HW_.out hHeld rfl rfl (by rintro w' ⟨s0, s1, s2, s3⟩; go_simp; with_reducible rfl) ?_
         refine tV 11 55 (bz 18 0xfff) HT_.out HW_.out hHeld rfl rfl (by rintro w' ⟨s0, s1, s2, s3⟩; go_simp; with_reducible rfl) ?_
         refine pV 12 56 (bz 18 0x1fff) HT_.out ?_
         refine tV 13 57 (bz 18 0x3fff) HT_.out HW_.out hHeld rfl rfl (by rintro w' ⟨s0, s1, s2, s3⟩; go_simp; with_reducible rfl) ?_
         refine pV 14 58 (bz 18 0x7fff) HT_.out ?_
         refine pV 15 59 (bz 18 0xffff) HT_.out ?_
         refine pV 16 60 (bz 18 0x1ffff) HT_.out ?_
         refine last_ (i := 17) (N := none) (bz 18 0x3ffff) rfl rfl (one_of HT_.out (by kernel_rfl)) (by decide) (fun K hK => ?_)
         refine skip_ (w1 := ?_) (by rfl) rfl ?_ ?_
         rotate_left
         ·go_simp
          rfl
         refine hK.out _ _ ?_
         clear hK K
         refine done_ (done_of HT_.out (by kernel_rfl)) ?_
         try go_wp2
         go_roundg k2
         case measure => have := HK1.out; have := HK2.out; omega
         case rel => exact ⟨(y341), (wrap64 (x9_2 + 1)), rS, H', ⟨by have := HK1.out; have := HK2.out; omega⟩, ⟨rA HQ31.out⟩, ⟨by (with_reducible repeat (first | apply Kd.R_alloc | apply Kd.R_drewN | apply Kd.R_drew)); exact Kd.R_mono (Kd.R_far (p := ⟨go28, ((rd t328 x7_1) : Int).toNat, none⟩) (Kd.R_mono HO_333000.out (fun k_ hk => (⟨hk, fun e_ => hk (by rw [e_]; rfl)⟩ : _ ∧ k_ ≠ go28))) (fun _ hk => hk.2) (.int .i64 ji27)) (fun _ hk => hk.1)⟩, ⟨by (with_reducible repeat (first | refine blk_drewN ?_ _ | refine blk_drew ?_ | refine blk_alloc ?_ _)); refine blk_far ?_ (by have h_ := Kd.R_ne HO_6.out BK327.out (by decide); intro e_; exact h_ (by rw [e_]; rfl)) _; (with_reducible repeat (first | refine blk_drewN ?_ _ | refine blk_drew ?_ | refine blk_alloc ?_ _)); exact BK327.out⟩, ⟨by (with_reducible repeat (first | refine blk_drewN ?_ _ | refine blk_drew ?_ | refine blk_alloc ?_ _)); refine blk_far ?_ (by have h_ := Kd.R_ne HO_6.out BK332.out (by decide); intro e_; exact h_ (by rw [e_]; rfl)) _; (with_reducible repeat (first | refine blk_drewN ?_ _ | refine blk_drew ?_ | refine blk_alloc ?_ _)); exact BK332.out⟩, ⟨by repeat (first | (with_reducible first | exact HB.out | apply below_alloc | apply pw_below_drewN | apply below_drew1 | refine below_set ?_ GB28.out | refine below_set ?_ GE327.out | refine below_set ?_ GE332.out) | exact HB.out)⟩⟩
        ·rw [if_neg c22] at H
         have c22b0 : (((rd_T55 l1 x9_2).f1) == (rd t328 x7_1)) = false := beq_eq_false_iff_ne.mpr c22
         have c22b1 : (((rd_T55 l1 x9_2).f1) != (rd t328 x7_1)) = true := bne_iff_ne.mpr c22
         have H' := Aside0.mk H
         clear H
         have p337 : 0 ≤ (x9_2 : Int) := oD
         have q337 : x9_2 < (l1.length : Int) := oD
         obtain ⟨ad337, e337, hx337_0, hx337_1⟩ := at_T55 HR1.out x9_2 p337 q337
         cases e337
         (try (replace hx337_0 := hB HB.out hx337_0))
         (try (replace hx337_1 := hB HB.out hx337_1))
         replace p337 := eq_true p337
         replace q337 := eq_true q337
         go_wp2
         go_roundg k2
         case measure => have := HK1.out; have := HK2.out; omega
         case rel => exact ⟨(x6_2), (wrap64 (x9_2 + 1)), rS, H', ⟨by have := HK1.out; have := HK2.out; omega⟩, ⟨rA HO_6.out⟩, ⟨rA HO_333000.out⟩, ⟨bA BK327.out⟩, ⟨bA BK332.out⟩, ⟨wB2 HB.out GE327.out GE332.out⟩⟩
       ·rw [if_neg c20] at H
        have c20b0 : decide (x9_2 < (l1.length : Int)) = false := decide_eq_false c20
        clear c20
        have H' := Aside0.mk H
        clear H
        go_wp2
        go_roundg k2
        case measure => have := HK1.out; have := HK2.out; omega
        case rel => exact ⟨(x6_2), (wrap64 (x7_1 + 1)), rS, H', ⟨by have := HK1.out; have := HK2.out; omega⟩, ⟨rA HO_6.out⟩, ⟨rA HO_333000.out⟩, ⟨bA BK327.out⟩, ⟨bA BK332.out⟩, ⟨wB2 HB.out GE327.out GE332.out⟩⟩
    ·rw [if_neg c15] at H
     have c15b0 : decide (x7_1 < a0) = false := decide_eq_false c15
     clear c15
     simp only [Option.some.injEq, Prod.mk.injEq] at H
     obtain ⟨rfl, rfl⟩ := H
     obtain ⟨Ao32, co32, eo32⟩ := Kd.R_slice HO_6.out
     subst eo32
     have hnb33 := NB327_332.out
     have hnc33 := NB332_327.out
     have hcz34_0 : wr.cell? ⟨gb327, 0, none⟩ = some (.slice none 0 0) := (blk_cell BK327.out 0).trans rfl
     have hcz34_1 : wr.cell? ⟨gb327, 1, none⟩ = some (.int .i64 0) := (blk_cell BK327.out 1).trans rfl
     have hfz34_0 := blk_frozen BK327.out 0
     have hfz34_1 := blk_frozen BK327.out 1
     go_wp2
     refine bodyPost_ret (results_cell_row rfl _ _ gb327 37 #[.slice Ao32 x6_1.length co32, .int .i64 0] (0, 0) _ rfl (by (with_reducible repeat (first | refine blk_drewN ?_ _ | refine blk_drew ?_ | refine blk_alloc ?_ _)); refine blk_put (cs := #[.slice Ao32 x6_1.length co32, .int .i64 0]) ?_ 1 _ rfl; (with_reducible repeat (first | refine blk_drewN ?_ _ | refine blk_drew ?_ | refine blk_alloc ?_ _)); refine blk_put (cs := #[.slice none 0 0, .int .i64 0]) ?_ 0 _ rfl; (with_reducible repeat (first | refine blk_drewN ?_ _ | refine blk_drew ?_ | refine blk_alloc ?_ _)); exact BK327.out) Try.underlying37 rfl (by kernel_rfl)) rfl ?_
     exact ⟨_, eS, by (with_reducible repeat (first | apply Kd.R_alloc | apply Kd.R_drewN | apply Kd.R_drew)); exact Kd.R_mono (Kd.R_far (p := ⟨gb327, 1, none⟩) (Kd.R_far (p := ⟨gb327, 0, none⟩) (Kd.R_types HO_6.out BK327.out (by decide)) (fun _ hk => hk.2) (.slice Ao32 x6_1.length co32)) (fun _ hk => hk.2) (.int .i64 0)) (fun _ hk => trivial), by repeat (first | (with_reducible first | exact HB.out | apply below_alloc | apply pw_below_drewN | apply below_drew1 | refine below_set ?_ GE327.out | refine below_set ?_ GE332.out) | exact HB.out)⟩
 ·rw [if_neg c4] at H
  have c4b0 : (t331 == 0) = false := beq_eq_false_iff_ne.mpr c4
  have c4b1 : (t331 != 0) = true := bne_iff_ne.mpr c4
  simp only [Option.some.injEq, Prod.mk.injEq] at H
  obtain ⟨rfl, rfl⟩ := H
  go_enter Try.func20, Try.ntmps20
  go_wp2_with (first | ((with_reducible refine gate_dst (N := 4) rfl ?_); refine box_event ?hg (N := 4) ?hd (cs := #[.slice none 0 0, .int .i64 0]) (t := 37) ?hr ?_; (case hd => rfl); (case hg => rfl); (case hr => first | (go_simp; done) | (go_simp; rfl)); intro gb327 hg w35 hbox hb; have BK327 := Aside0.mk (hbox); have GW327 := Aside0.mk ((by rw [hg]; exact (below_size (wB0 HB.out)) : w.heap.size ≤ gb327)); have GE327 := Aside0.mk ((by rw [hg]; exact (below_size (wB0 HB.out)) : w.heap.size ≤ gb327)); replace HB := Aside0.mk (below_step (wB0 HB.out) hb); clear hb hbox hg) | ((with_reducible refine gate_callee (f := 16) rfl ?_); refine goesL_ (some 12) rfl rfl Try.func16 (by kernel_rfl) rfl #[.int .i64 a0, .slice A1 l1.length c1] rfl (by (try simp only [List.map_toArray, List.map_cons, List.map_nil]); first | done | rfl | (simp only [List.length_drop, List.length_take]; rfl)) ?_; (with_reducible refine (wireloomref05_OrderIn.calls k a0 _ _ l1 t328 t331 _ ?side1 ?side2 A3.out).mono ?_); (case side1 => exact cA (Kd.C_below HR1.out HB.out)); (case side2 => exact HC1.out); rintro e w36 ⟨v329, rfl, ho0, hb⟩; refine ⟨_, rfl, ?_⟩; have HO330 := Aside0.mk (Kd.R_lower ho0 (below_size (wB1 HB.out GE327.out))); replace BK327 := kC BK327 hb; replace HB := Aside0.mk (below_step (wB1 HB.out GE327.out) hb); (try clear hb); (try clear hb2); (try clear hk); (try clear hi); (try clear ho0)) | ((with_reducible refine gate_dst (N := 5) rfl ?_); refine box_event ?hg (N := 5) ?hd (cs := #[.slice none 0 0, .int .i64 0]) (t := 37) ?hr ?_; (case hd => rfl); (case hg => rfl); (case hr => first | (go_simp; done) | (go_simp; rfl)); intro gb332 hg w37 hbox hb; replace HO330 := Aside0.mk (Kd.R_below (rA HO330.out) hb); have BK332 := Aside0.mk (hbox); have GW332 := Aside0.mk ((by rw [hg]; exact (below_size (wB1 HB.out GE327.out)) : w.heap.size ≤ gb332)); have GE332 := Aside0.mk ((by rw [hg]; exact (below_size (wB1 HB.out GE327.out)) : w.heap.size ≤ gb332)); replace HB := Aside0.mk (below_step (wB1 HB.out GE327.out) hb); have NB327_332 := Aside0.mk ((by rw [hg]; exact Nat.ne_of_lt (blk_lt (g := gb327) (o := .cells #[.slice none 0 0, .int .i64 0] 37 (0, 0)) (bA BK327.out)) : gb327 ≠ gb332)); have NB332_327 := Aside0.mk ((by rw [hg]; exact Nat.ne_of_gt (blk_lt (g := gb327) (o := .cells #[.slice none 0 0, .int .i64 0] 37 (0, 0)) (bA BK327.out)) : gb332 ≠ gb327)); replace BK327 := kC BK327 hb; clear hb hbox hg; obtain ⟨Ao38, co38, eo38⟩ := Kd.R_slice HO330.out; subst eo38; have hnb39 := NB332_327.out; have hnc39 := NB327_332.out; have hcz40_0 : w37.cell? ⟨gb332, 0, none⟩ = some (.slice none 0 0) := (blk_cell BK332.out 0).trans rfl; have hcz40_1 : w37.cell? ⟨gb332, 1, none⟩ = some (.int .i64 0) := (blk_cell BK332.out 1).trans rfl; have hfz40_0 := blk_frozen BK332.out 0; have hfz40_1 := blk_frozen BK332.out 1; have hcz41_0 : w37.cell? ⟨gb327, 0, none⟩ = some (.slice none 0 0) := (blk_cell BK327.out 0).trans rfl; have hcz41_1 : w37.cell? ⟨gb327, 1, none⟩ = some (.int .i64 0) := (blk_cell BK327.out 1).trans rfl; have hfz41_0 := blk_frozen BK327.out 0; have hfz41_1 := blk_frozen BK327.out 1))
  refine bodyPost_ret (results_cell_row rfl _ _ gb327 37 #[.slice none 0 0, .int .i64 t331] (0, 0) _ rfl (by (with_reducible repeat (first | refine blk_drewN ?_ _ | refine blk_drew ?_ | refine blk_alloc ?_ _)); refine blk_put (cs := #[.slice none 0 0, .int .i64 0]) ?_ 1 _ rfl; (with_reducible repeat (first | refine blk_drewN ?_ _ | refine blk_drew ?_ | refine blk_alloc ?_ _)); refine blk_put (cs := #[.slice none 0 0, .int .i64 0]) ?_ 0 _ rfl; (with_reducible repeat (first | refine blk_drewN ?_ _ | refine blk_drew ?_ | refine blk_alloc ?_ _)); refine blk_far ?_ NB327_332.out _; (with_reducible repeat (first | refine blk_drewN ?_ _ | refine blk_drew ?_ | refine blk_alloc ?_ _)); refine blk_far ?_ NB327_332.out _; (with_reducible repeat (first | refine blk_drewN ?_ _ | refine blk_drew ?_ | refine blk_alloc ?_ _)); exact BK327.out) Try.underlying37 rfl (by kernel_rfl)) rfl ?_
  exact ⟨_, eS, by first | exact Kd.R_nil _ _ _ _ _ | exact Kd.N_nil _ _ _ _ _ | exact Kd.V_nil _ _ _ _ _ | exact Kd.Q_nil _ _ _ _ _ | exact Kd.S_nil _ _ _ _ _, by repeat (first | (with_reducible first | exact HB.out | apply below_alloc | apply pw_below_drewN | apply below_drew1 | refine below_set ?_ GE327.out | refine below_set ?_ GE332.out) | exact HB.out)⟩
end Go.Proofs.Ytlldjinejckbaaa.PD

end
section
namespace Go.Proofs.Ytlldjinejckbaaa.PD
open Go.RowKit Go.Proofs.YtlldjinejckbaaaW.PrintWords Go.Proofs.YtlldjinejckbaaaW.PrintLast Go.Proofs.YtlldjinejckbaaaW.PrintMore
attribute [local go_sem] max2_int min2_int max_two min_two max_three min_three max_four min_four
set_option linter.unusedVariables false
set_option linter.unusedSimpArgs false
mutual
def wireloomref05_Check.l0 : Nat → Int → List (S55) → List Int → List Int → Int → Option (Int)
 | 0, _, _, _, _, _ => none
 | k + 1, x0, x1, x2, x7, x8 => if x8 < x0 then (if 0 ≤ x8 then (if x8 < (x2.length : Int) then (if (rd x2 x8) < 0 then (some 6) else (if (rd x2 x8) ≥ x0 then (some 6) else (if 0 ≤ (rd x2 x8) then (if (rd x2 x8) < (x7.length : Int) then (if (rd x7 (rd x2 x8)) > 0 then (some 6) else (wireloomref05_Check.l0 k x0 x1 x2 (x7.set ((rd x2 x8) : Int).toNat (wrap64 (x8 + 1))) (wrap64 (x8 + 1)))) else (none)) else (none)))) else (none)) else (none)) else (wireloomref05_Check.l1 k x1 x7 0)
def wireloomref05_Check.l1 : Nat → List (S55) → List Int → Int → Option (Int)
 | 0, _, _, _ => none
 | k + 1, x1, x7, x9 => if x9 < (x1.length : Int) then (if 0 ≤ x9 then (if 0 ≤ ((rd_T55 x1 x9).f0) then (if ((rd_T55 x1 x9).f0) < (x7.length : Int) then (if 0 ≤ ((rd_T55 x1 x9).f1) then (if ((rd_T55 x1 x9).f1) < (x7.length : Int) then (if (rd x7 ((rd_T55 x1 x9).f0)) ≥ (rd x7 ((rd_T55 x1 x9).f1)) then (some 6) else (wireloomref05_Check.l1 k x1 x7 (wrap64 (x9 + 1)))) else (none)) else (none)) else (none)) else (none)) else (none)) else (some 0)
end
def wireloomref05_Check.f (k : Nat) (a0 : Int) (l1 : List (S55)) (l2 : List Int) : Option (Int) := if (l2.length : Int) = a0 then (if 0 ≤ a0 then (if (a0 : Int).toNat ≤ 35184372088832 then (wireloomref05_Check.l0 k a0 l1 l2 (List.replicate (a0 : Int).toNat 0) 0) else (none)) else (none)) else (some 6)
set_option maxHeartbeats 8000000 in
set_option maxRecDepth 100000 in
theorem wireloomref05_Check.calls (k : Nat) (a0 : Int) (A1 : Option Addr) (c1 : Nat) (l1 : List (S55)) (A2 : Option Addr) (c2 : Nat) (l2 : List Int) (r : Int) (w : World) (hr1 : Kd.C k55 w A1 l1.length l1) (hc1 : l1.length ≤ c1) (hr2 : Kd.C (Kd.int .i64) w A2 l2.length l2) (hc2 : l2.length ≤ c2) (h : wireloomref05_Check.f k a0 l1 l2 = some r) :
  Calls Try.prog 22 #[.int .i64 a0, .slice A1 l1.length c1, .slice A2 l2.length c2] w fun e w' => e = .returned (.int .i64 r) ∧ Below w.heap.size w w' := by
 have HR1 := Aside0.mk hr1
 have HC1 := Aside0.mk hc1
 clear hr1 hc1
 have HR2 := Aside0.mk hr2
 have HC2 := Aside0.mk hc2
 clear hr2 hc2
 have HB := Aside0.mk (Below.refl w.heap.size w)
 have H : (if (l2.length : Int) = a0 then (if 0 ≤ a0 then (if (a0 : Int).toNat ≤ 35184372088832 then (wireloomref05_Check.l0 k a0 l1 l2 (List.replicate (a0 : Int).toNat 0) 0) else (none)) else (none)) else (some 6)) = some r := h
 clear h
 by_cases c4 : (l2.length : Int) = a0
 ·rw [if_pos c4] at H
  have c4b0 : ((l2.length : Int) == a0) = true := beq_iff_eq.mpr c4
  have c4b1 : ((l2.length : Int) != a0) = false := bne_eq_false_iff_eq.mpr c4
  clear c4
  by_cases c5 : 0 ≤ a0
  rotate_left
  ·rw [if_neg c5] at H
   exact absurd H (by simp)
  rw [if_pos c5] at H
  have c5b0 := eq_true c5
  have c5b1 : decide (0 ≤ a0) = true := decide_eq_true c5
  clear c5
  by_cases c6 : (a0 : Int).toNat ≤ 35184372088832
  rotate_left
  ·rw [if_neg c6] at H
   exact absurd H (by simp)
  rw [if_pos c6] at H
  have c6b0 := eq_true c6
  have c6b1 : decide ((a0 : Int).toNat ≤ 35184372088832) = true := decide_eq_true c6
  clear c6
  obtain ⟨y342, hy342⟩ : ∃ y_ : List Int, y_ = (List.replicate (a0 : Int).toNat 0) := ⟨_, rfl⟩
  replace H : (wireloomref05_Check.l0 k a0 l1 l2 y342 0) = some r := by first | (rw [hy342]; with_reducible exact H) | (have H2_ := (Option.bind_some _ _).symm.trans H; rw [hy342]; with_reducible exact H2_) | (have H2_ := (Option.bind_some _ _).symm.trans H; with_reducible exact H2_) | with_reducible exact H | (rw [hy342]; exact H) | exact H
  have Ny342 := Aside0.mk hy342
  clear hy342
  have H' := Aside0.mk H
  clear H
  go_enter Try.func22, Try.ntmps22
  go_wp2_with (first | ((with_reducible refine gate_dst (N := 15) rfl ?_); refine Kd.R_make (Kd.int .i64) _ 3 rfl (N := 15) rfl 26 _ _ rfl a0 rfl rfl Try.underlying26 (.int .i64 0) 8 info3 rfl (by decide) (by omega) 0 (ok := fun _ => True) (okp := fun _ => True) rfl (fun _ hk => hk) trivial oD (Nat.le_trans (Nat.mul_le_mul_right _ (oD : a0.toNat ≤ 35184372088832)) (by omega)) (Below.refl _ _) (Nat.le_refl _) ?_; intro v343 w7 ho8 hb hg_ hnew_; clear hg_ hnew_; (first | rw [← Ny342.out] at ho8 | (simp only [Int.reduceToNat] at ho8; rw [← Ny342.out] at ho8)); have HO344 := Aside0.mk (Kd.R_lower ho8 (below_size (wB0 HB.out))); replace HB := Aside0.mk (below_step (wB0 HB.out) hb); clear hb ho8))
  repeat (go_quiet (first | ((with_reducible refine gate_dst (N := 15) rfl ?_); refine Kd.R_make (Kd.int .i64) _ 3 rfl (N := 15) rfl 26 _ _ rfl a0 rfl rfl Try.underlying26 (.int .i64 0) 8 info3 rfl (by decide) (by omega) 0 (ok := fun _ => True) (okp := fun _ => True) rfl (fun _ hk => hk) trivial oD (Nat.le_trans (Nat.mul_le_mul_right _ (oD : a0.toNat ≤ 35184372088832)) (by omega)) (Below.refl _ _) (Nat.le_refl _) ?_; intro v343 w7 ho8 hb hg_ hnew_; clear hg_ hnew_; (first | rw [← Ny342.out] at ho8 | (simp only [Int.reduceToNat] at ho8; rw [← Ny342.out] at ho8)); have HO344 := Aside0.mk (Kd.R_lower ho8 (below_size (wB0 HB.out))); replace HB := Aside0.mk (below_step (wB0 HB.out) hb); clear hb ho8)); try go_wp2_with (first | ((with_reducible refine gate_dst (N := 15) rfl ?_); refine Kd.R_make (Kd.int .i64) _ 3 rfl (N := 15) rfl 26 _ _ rfl a0 rfl rfl Try.underlying26 (.int .i64 0) 8 info3 rfl (by decide) (by omega) 0 (ok := fun _ => True) (okp := fun _ => True) rfl (fun _ hk => hk) trivial oD (Nat.le_trans (Nat.mul_le_mul_right _ (oD : a0.toNat ≤ 35184372088832)) (by omega)) (Below.refl _ _) (Nat.le_refl _) ?_; intro v343 w7 ho8 hb hg_ hnew_; clear hg_ hnew_; (first | rw [← Ny342.out] at ho8 | (simp only [Int.reduceToNat] at ho8; rw [← Ny342.out] at ho8)); have HO344 := Aside0.mk (Kd.R_lower ho8 (below_size (wB0 HB.out))); replace HB := Aside0.mk (below_step (wB0 HB.out) hb); clear hb ho8)))
  go_loopg [8] k (fun kq v8 w' => ∃ (x7_1 : List Int) (x8_1 : Int), v8 = .int .i64 x8_1 ∧ Aside0 (wireloomref05_Check.l0 kq a0 l1 l2 x7_1 x8_1 = some r) ∧ Aside0 (kq ≤ k) ∧ Aside0 (Kd.R (Kd.int .i64) 3 w' w.heap.size (fun _ => True) v343 x7_1) ∧ Aside0 (Below w.heap.size w w'))
  case atStart => exact ⟨(y342), (0), rS, H', ⟨Nat.le_refl _⟩, ⟨rA HO344.out⟩, ⟨wB0 HB.out⟩⟩
  case round =>
   clear H'
   try clear c1; try clear c2; try clear p2; try clear c4; try clear c4b0; try clear c4b1; try clear c5; try clear c5b0; try clear c5b1; try clear c6; try clear c6b0; try clear c6b1
   obtain ⟨x7_1, x8_1, rfl, HA, HK1, HO_7, HB⟩ := hrel
   cases gk with
   | zero => exact absurd HA.out (by simp [wireloomref05_Check.l0])
   | succ k1 =>
    have H := HA.out
    clear HA
    simp only [wireloomref05_Check.l0] at H
    by_cases c9 : x8_1 < a0
    ·rw [if_pos c9] at H
     have c9b0 : decide (x8_1 < a0) = true := decide_eq_true c9
     clear c9
     by_cases c10 : 0 ≤ x8_1
     rotate_left
     ·rw [if_neg c10] at H
      exact absurd H (by simp)
     rw [if_pos c10] at H
     have c10b0 : decide (0 ≤ x8_1) = true := decide_eq_true c10
     clear c10
     by_cases c11 : x8_1 < (l2.length : Int)
     rotate_left
     ·rw [if_neg c11] at H
      exact absurd H (by simp)
     rw [if_pos c11] at H
     have c11b0 : decide (x8_1 < (l2.length : Int)) = true := decide_eq_true c11
     clear c11
     by_cases c12 : (rd l2 x8_1) < 0
     ·rw [if_pos c12] at H
      have c12b0 : decide ((rd l2 x8_1) < 0) = true := decide_eq_true c12
      clear c12
      obtain rfl := Option.some.inj H
      have p345 : 0 ≤ (x8_1 : Int) := oD
      have q345 : x8_1 < (l2.length : Int) := oD
      obtain ⟨ad345, e345, hx345_0⟩ := Kd.at_int HR2.out x8_1 p345 q345
      cases e345
      (try (replace hx345_0 := hB HB.out hx345_0))
      replace p345 := eq_true p345
      replace q345 := eq_true q345
      go_wp2
      repeat (go_quiet (fail); try go_wp2)
      go_ret
      exact ⟨eS, by repeat (first | (with_reducible first | exact HB.out | apply below_alloc | apply pw_below_drewN | apply below_drew1) | exact HB.out)⟩
     ·rw [if_neg c12] at H
      have c12b0 : decide ((rd l2 x8_1) < 0) = false := decide_eq_false c12
      clear c12
      by_cases c13 : (rd l2 x8_1) ≥ a0
      ·rw [if_pos c13] at H
       have c13b0 : decide (a0 ≤ (rd l2 x8_1)) = true := decide_eq_true c13
       clear c13
       obtain rfl := Option.some.inj H
       have p345 : 0 ≤ (x8_1 : Int) := oD
       have q345 : x8_1 < (l2.length : Int) := oD
       obtain ⟨ad345, e345, hx345_0⟩ := Kd.at_int HR2.out x8_1 p345 q345
       cases e345
       (try (replace hx345_0 := hB HB.out hx345_0))
       replace p345 := eq_true p345
       replace q345 := eq_true q345
       have p346 : 0 ≤ (x8_1 : Int) := oD
       have q346 : x8_1 < (l2.length : Int) := oD
       obtain ⟨ad346, e346, hx346_0⟩ := Kd.at_int HR2.out x8_1 p346 q346
       obtain rfl : ad345 = ad346 := (by injection e346)
       (try (replace hx346_0 := hB HB.out hx346_0))
       replace p346 := eq_true p346
       replace q346 := eq_true q346
       go_wp2
       repeat (go_quiet (fail); try go_wp2)
       go_ret
       exact ⟨eS, by repeat (first | (with_reducible first | exact HB.out | apply below_alloc | apply pw_below_drewN | apply below_drew1) | exact HB.out)⟩
      ·rw [if_neg c13] at H
       have c13b0 : decide (a0 ≤ (rd l2 x8_1)) = false := decide_eq_false c13
       clear c13
       by_cases c14 : 0 ≤ (rd l2 x8_1)
       rotate_left
       ·rw [if_neg c14] at H
        exact absurd H (by simp)
       rw [if_pos c14] at H
       have c14b0 : decide (0 ≤ (rd l2 x8_1)) = true := decide_eq_true c14
       clear c14
       by_cases c15 : (rd l2 x8_1) < (x7_1.length : Int)
       rotate_left
       ·rw [if_neg c15] at H
        exact absurd H (by simp)
       rw [if_pos c15] at H
       have c15b0 : decide ((rd l2 x8_1) < (x7_1.length : Int)) = true := decide_eq_true c15
       clear c15
       by_cases c16 : (rd x7_1 (rd l2 x8_1)) > 0
       ·rw [if_pos c16] at H
        have c16b0 : decide (0 < (rd x7_1 (rd l2 x8_1))) = true := decide_eq_true c16
        clear c16
        obtain rfl := Option.some.inj H
        have p345 : 0 ≤ (x8_1 : Int) := oD
        have q345 : x8_1 < (l2.length : Int) := oD
        obtain ⟨ad345, e345, hx345_0⟩ := Kd.at_int HR2.out x8_1 p345 q345
        cases e345
        (try (replace hx345_0 := hB HB.out hx345_0))
        replace p345 := eq_true p345
        replace q345 := eq_true q345
        have p346 : 0 ≤ (x8_1 : Int) := oD
        have q346 : x8_1 < (l2.length : Int) := oD
        obtain ⟨ad346, e346, hx346_0⟩ := Kd.at_int HR2.out x8_1 p346 q346
        obtain rfl : ad345 = ad346 := (by injection e346)
        (try (replace hx346_0 := hB HB.out hx346_0))
        replace p346 := eq_true p346
        replace q346 := eq_true q346
        have p347 : 0 ≤ (x8_1 : Int) := oD
        have q347 : x8_1 < (l2.length : Int) := oD
        obtain ⟨ad347, e347, hx347_0⟩ := Kd.at_int HR2.out x8_1 p347 q347
        obtain rfl : ad345 = ad347 := (by injection e347)
        (try (replace hx347_0 := hB HB.out hx347_0))
        replace p347 := eq_true p347
        replace q347 := eq_true q347
        obtain ⟨Ao17, co17, eo17⟩ := Kd.R_slice HO_7.out
        subst eo17
        have p348 : 0 ≤ ((rd l2 x8_1) : Int) := oD
        have q348 : (rd l2 x8_1) < (x7_1.length : Int) := oD
        obtain ⟨ad348, e348, hx348_0⟩ := Kd.at_int (Kd.R_reads' HO_7.out).2.2 (rd l2 x8_1) p348 q348
        cases e348
        replace p348 := eq_true p348
        replace q348 := eq_true q348
        go_wp2
        repeat (go_quiet (fail); try go_wp2)
        go_ret
        exact ⟨eS, by repeat (first | (with_reducible first | exact HB.out | apply below_alloc | apply pw_below_drewN | apply below_drew1) | exact HB.out)⟩
       ·rw [if_neg c16] at H
        have c16b0 : decide (0 < (rd x7_1 (rd l2 x8_1))) = false := decide_eq_false c16
        clear c16
        obtain ⟨y350, hy350⟩ : ∃ y_ : List Int, y_ = (x7_1.set ((rd l2 x8_1) : Int).toNat (wrap64 (x8_1 + 1))) := ⟨_, rfl⟩
        replace H : (wireloomref05_Check.l0 k1 a0 l1 l2 y350 (wrap64 (x8_1 + 1))) = some r := by first | (rw [hy350]; with_reducible exact H) | (have H2_ := (Option.bind_some _ _).symm.trans H; rw [hy350]; with_reducible exact H2_) | (have H2_ := (Option.bind_some _ _).symm.trans H; with_reducible exact H2_) | with_reducible exact H | (rw [hy350]; exact H) | exact H
        have Ny350 := Aside0.mk hy350
        clear hy350
        have H' := Aside0.mk H
        clear H
        have p345 : 0 ≤ (x8_1 : Int) := oD
        have q345 : x8_1 < (l2.length : Int) := oD
        obtain ⟨ad345, e345, hx345_0⟩ := Kd.at_int HR2.out x8_1 p345 q345
        cases e345
        (try (replace hx345_0 := hB HB.out hx345_0))
        replace p345 := eq_true p345
        replace q345 := eq_true q345
        have p346 : 0 ≤ (x8_1 : Int) := oD
        have q346 : x8_1 < (l2.length : Int) := oD
        obtain ⟨ad346, e346, hx346_0⟩ := Kd.at_int HR2.out x8_1 p346 q346
        obtain rfl : ad345 = ad346 := (by injection e346)
        (try (replace hx346_0 := hB HB.out hx346_0))
        replace p346 := eq_true p346
        replace q346 := eq_true q346
        have p347 : 0 ≤ (x8_1 : Int) := oD
        have q347 : x8_1 < (l2.length : Int) := oD
        obtain ⟨ad347, e347, hx347_0⟩ := Kd.at_int HR2.out x8_1 p347 q347
        obtain rfl : ad345 = ad347 := (by injection e347)
        (try (replace hx347_0 := hB HB.out hx347_0))
        replace p347 := eq_true p347
        replace q347 := eq_true q347
        obtain ⟨Ao19, co19, eo19⟩ := Kd.R_slice HO_7.out
        subst eo19
        have p348 : 0 ≤ ((rd l2 x8_1) : Int) := oD
        have q348 : (rd l2 x8_1) < (x7_1.length : Int) := oD
        obtain ⟨ad348, e348, hx348_0⟩ := Kd.at_int (Kd.R_reads' HO_7.out).2.2 (rd l2 x8_1) p348 q348
        cases e348
        replace p348 := eq_true p348
        replace q348 := eq_true q348
        have p349 : 0 ≤ (x8_1 : Int) := oD
        have q349 : x8_1 < (l2.length : Int) := oD
        obtain ⟨ad349, e349, hx349_0⟩ := Kd.at_int HR2.out x8_1 p349 q349
        obtain rfl : ad345 = ad349 := (by injection e349)
        (try (replace hx349_0 := hB HB.out hx349_0))
        replace p349 := eq_true p349
        replace q349 := eq_true q349
        have p18 : 0 ≤ ((rd l2 x8_1) : Int) := oD
        have q18 : ((rd l2 x8_1) : Int) < ((x7_1.length : Int) : Int) := oD
        obtain ⟨go18, co18, eo18, gb18, gl18, cl18, HG18⟩ := Kd.R_form HO_7.out (by omega)
        (first | cases eo18 | (injection eo18 with ea_ en_ ec_; (first | subst ea_ | (injection ea_ with ea_; subst ea_)); subst ec_; clear en_))
        have GB18 := Aside0.mk gb18
        have GG18 := Aside0.mk HG18
        clear gb18 gl18 HG18
        (first | simp only [add_plain] at hx348_0 | skip)
        obtain ⟨hx18_0, hf18_0⟩ := Kd.R_celln 0 HO_7.out ((rd l2 x8_1) : Int) p18 q18
        replace p18 := eq_true p18
        replace q18 := eq_true q18
        have HP20 := Kd.R_putg HO_7.out ((rd l2 x8_1) : Int) (wrap64 (x8_1 + 1))
        go_wp2_with (first | ((with_reducible refine gate_store (t := 3) (p := 51) rfl ?_); (try (rw [drewN_self wr]; generalize hq_ : World.drewN wr _ = wr; have n0_ := Aside0.mk (Kd.R_at hq_ HO_7.out); have n1_ := Aside0.mk (below_at hq_ HB.out); clear hq_ HO_7 HB; have HO_7 := n0_; have HB := n1_; clear n0_ n1_; (try (have HP20 := Kd.R_putg HO_7.out ((rd l2 x8_1) : Int) (wrap64 (x8_1 + 1)))))); refine store_event (t := 3) (p := 51) (v := ?vo_w21) (w1 := (wr.setCell ⟨go18, ((rd l2 x8_1) : Int).toNat, none⟩ (.int .i64 (wrap64 (x8_1 + 1))))) ?hg ?ho ?hn ?hr ?_; (case ho => rfl); (case hg => rfl); (case hn => rfl); (case hr => first | (go_simp; done) | (go_simp; rfl)); intro w21 hw; have hg : wr.grownBy w21 (some go18) := (by rw [hw]; exact HP20.2); have hp_ : Kd.R (Kd.int .i64) 3 w21 w.heap.size (fun _ => True) (.slice (some ⟨go18, 0, none⟩) x7_1.length co19) y350 := (by rw [hw, Ny350.out]; exact HP20.1); clear HP20; replace HO_7 := Aside0.mk (hp_); replace HB := Aside0.mk ((by rw [hw]; exact below_set (HB.out) GB18.out : Below w.heap.size w w21)); clear hg hw hp_))
        repeat (go_quiet (first | ((with_reducible refine gate_store (t := 3) (p := 51) rfl ?_); (try (rw [drewN_self wr]; generalize hq_ : World.drewN wr _ = wr; have n0_ := Aside0.mk (Kd.R_at hq_ HO_7.out); have n1_ := Aside0.mk (below_at hq_ HB.out); clear hq_ HO_7 HB; have HO_7 := n0_; have HB := n1_; clear n0_ n1_; (try (have HP20 := Kd.R_putg HO_7.out ((rd l2 x8_1) : Int) (wrap64 (x8_1 + 1)))))); refine store_event (t := 3) (p := 51) (v := ?vo_w21) (w1 := (wr.setCell ⟨go18, ((rd l2 x8_1) : Int).toNat, none⟩ (.int .i64 (wrap64 (x8_1 + 1))))) ?hg ?ho ?hn ?hr ?_; (case ho => rfl); (case hg => rfl); (case hn => rfl); (case hr => first | (go_simp; done) | (go_simp; rfl)); intro w21 hw; have hg : wr.grownBy w21 (some go18) := (by rw [hw]; exact HP20.2); have hp_ : Kd.R (Kd.int .i64) 3 w21 w.heap.size (fun _ => True) (.slice (some ⟨go18, 0, none⟩) x7_1.length co19) y350 := (by rw [hw, Ny350.out]; exact HP20.1); clear HP20; replace HO_7 := Aside0.mk (hp_); replace HB := Aside0.mk ((by rw [hw]; exact below_set (HB.out) GB18.out : Below w.heap.size w w21)); clear hg hw hp_)); try go_wp2_with (first | ((with_reducible refine gate_store (t := 3) (p := 51) rfl ?_); (try (rw [drewN_self wr]; generalize hq_ : World.drewN wr _ = wr; have n0_ := Aside0.mk (Kd.R_at hq_ HO_7.out); have n1_ := Aside0.mk (below_at hq_ HB.out); clear hq_ HO_7 HB; have HO_7 := n0_; have HB := n1_; clear n0_ n1_; (try (have HP20 := Kd.R_putg HO_7.out ((rd l2 x8_1) : Int) (wrap64 (x8_1 + 1)))))); refine store_event (t := 3) (p := 51) (v := ?vo_w21) (w1 := (wr.setCell ⟨go18, ((rd l2 x8_1) : Int).toNat, none⟩ (.int .i64 (wrap64 (x8_1 + 1))))) ?hg ?ho ?hn ?hr ?_; (case ho => rfl); (case hg => rfl); (case hn => rfl); (case hr => first | (go_simp; done) | (go_simp; rfl)); intro w21 hw; have hg : wr.grownBy w21 (some go18) := (by rw [hw]; exact HP20.2); have hp_ : Kd.R (Kd.int .i64) 3 w21 w.heap.size (fun _ => True) (.slice (some ⟨go18, 0, none⟩) x7_1.length co19) y350 := (by rw [hw, Ny350.out]; exact HP20.1); clear HP20; replace HO_7 := Aside0.mk (hp_); replace HB := Aside0.mk ((by rw [hw]; exact below_set (HB.out) GB18.out : Below w.heap.size w w21)); clear hg hw hp_)))
        go_roundg k1
        case measure => have := HK1.out; omega
        case rel => exact ⟨(y350), (wrap64 (x8_1 + 1)), rS, H', ⟨by have := HK1.out; omega⟩, ⟨rA HO_7.out⟩, ⟨wB0 HB.out⟩⟩
    ·rw [if_neg c9] at H
     have c9b0 : decide (x8_1 < a0) = false := decide_eq_false c9
     clear c9
     have H' := Aside0.mk H
     clear H
     go_wp2
     repeat (go_quiet (fail); try go_wp2)
     go_loopg [9] k1 (fun kq v9 w' => ∃ (x9_2 : Int), v9 = .int .i64 x9_2 ∧ Aside0 (wireloomref05_Check.l1 kq l1 x7_1 x9_2 = some r) ∧ Aside0 (kq ≤ k1) ∧ Aside0 (Kd.R (Kd.int .i64) 3 w' w.heap.size (fun _ => True) v343 x7_1) ∧ Aside0 (Below w.heap.size w w'))
     case atStart => exact ⟨(0), rS, H', ⟨Nat.le_refl _⟩, ⟨rA HO_7.out⟩, ⟨wB0 HB.out⟩⟩
     case round =>
      clear H'
      try clear c1; try clear p1; try clear q1; try clear hx1; try clear c2; try clear p2; try clear p3; try clear q3; try clear hx3; try clear c4; try clear c4b0; try clear c4b1; try clear c5; try clear c5b0; try clear c5b1; try clear c6; try clear c6b0; try clear c6b1; try clear p6; try clear c9; try clear c9b0; try clear c10; try clear c10b0; try clear c11; try clear c11b0; try clear c12; try clear c12b0; try clear c13; try clear c13b0; try clear c14; try clear c14b0; try clear c15; try clear c15b0; try clear c16; try clear c16b0; try clear p18; try clear q18; try clear hx18; try clear hf18; try clear hx18_0
      try clear hx345_0; try clear hx346_0; try clear hx347_0; try clear hx348_0; try clear hx349_0; try clear p18; try clear p2; try clear p345; try clear p346; try clear p347; try clear p348; try clear p349; try clear q18; try clear q345; try clear q346; try clear q347; try clear q348; try clear q349
      obtain ⟨x9_2, rfl, HA, HK2, HO_7, HB⟩ := hrel
      cases gk with
      | zero => exact absurd HA.out (by simp [wireloomref05_Check.l1])
      | succ k2 =>
       have H := HA.out
       clear HA
       simp only [wireloomref05_Check.l1] at H
       by_cases c22 : x9_2 < (l1.length : Int)
       ·rw [if_pos c22] at H
        have c22b0 : decide (x9_2 < (l1.length : Int)) = true := decide_eq_true c22
        clear c22
        by_cases c23 : 0 ≤ x9_2
        rotate_left
        ·rw [if_neg c23] at H
         exact absurd H (by simp)
        rw [if_pos c23] at H
        have c23b0 : decide (0 ≤ x9_2) = true := decide_eq_true c23
        clear c23
        by_cases c24 : 0 ≤ ((rd_T55 l1 x9_2).f0)
        rotate_left
        ·rw [if_neg c24] at H
         exact absurd H (by simp)
        rw [if_pos c24] at H
        have c24b0 : decide (0 ≤ ((rd_T55 l1 x9_2).f0)) = true := decide_eq_true c24
        clear c24
        by_cases c25 : ((rd_T55 l1 x9_2).f0) < (x7_1.length : Int)
        rotate_left
        ·rw [if_neg c25] at H
         exact absurd H (by simp)
        rw [if_pos c25] at H
        have c25b0 : decide (((rd_T55 l1 x9_2).f0) < (x7_1.length : Int)) = true := decide_eq_true c25
        clear c25
        by_cases c26 : 0 ≤ ((rd_T55 l1 x9_2).f1)
        rotate_left
        ·rw [if_neg c26] at H
         exact absurd H (by simp)
        rw [if_pos c26] at H
        have c26b0 : decide (0 ≤ ((rd_T55 l1 x9_2).f1)) = true := decide_eq_true c26
        clear c26
        by_cases c27 : ((rd_T55 l1 x9_2).f1) < (x7_1.length : Int)
        rotate_left
        ·rw [if_neg c27] at H
         exact absurd H (by simp)
        rw [if_pos c27] at H
        have c27b0 : decide (((rd_T55 l1 x9_2).f1) < (x7_1.length : Int)) = true := decide_eq_true c27
        clear c27
        by_cases c28 : (rd x7_1 ((rd_T55 l1 x9_2).f0)) ≥ (rd x7_1 ((rd_T55 l1 x9_2).f1))
        ·rw [if_pos c28] at H
         have c28b0 : decide ((rd x7_1 ((rd_T55 l1 x9_2).f1)) ≤ (rd x7_1 ((rd_T55 l1 x9_2).f0))) = true := decide_eq_true c28
         clear c28
         obtain rfl := Option.some.inj H
         have p351 : 0 ≤ (x9_2 : Int) := oD
         have q351 : x9_2 < (l1.length : Int) := oD
         obtain ⟨ad351, e351, hx351_0, hx351_1⟩ := at_T55 HR1.out x9_2 p351 q351
         cases e351
         (try (replace hx351_0 := hB HB.out hx351_0))
         (try (replace hx351_1 := hB HB.out hx351_1))
         replace p351 := eq_true p351
         replace q351 := eq_true q351
         obtain ⟨Ao29, co29, eo29⟩ := Kd.R_slice HO_7.out
         subst eo29
         have p352 : 0 ≤ (((rd_T55 l1 x9_2).f0) : Int) := oD
         have q352 : ((rd_T55 l1 x9_2).f0) < (x7_1.length : Int) := oD
         obtain ⟨ad352, e352, hx352_0⟩ := Kd.at_int (Kd.R_reads' HO_7.out).2.2 ((rd_T55 l1 x9_2).f0) p352 q352
         cases e352
         replace p352 := eq_true p352
         replace q352 := eq_true q352
         have p353 : 0 ≤ (x9_2 : Int) := oD
         have q353 : x9_2 < (l1.length : Int) := oD
         obtain ⟨ad353, e353, hx353_0, hx353_1⟩ := at_T55 HR1.out x9_2 p353 q353
         obtain rfl : ad351 = ad353 := (by injection e353)
         (try (replace hx353_0 := hB HB.out hx353_0))
         (try (replace hx353_1 := hB HB.out hx353_1))
         replace p353 := eq_true p353
         replace q353 := eq_true q353
         have p354 : 0 ≤ (((rd_T55 l1 x9_2).f1) : Int) := oD
         have q354 : ((rd_T55 l1 x9_2).f1) < (x7_1.length : Int) := oD
         obtain ⟨ad354, e354, hx354_0⟩ := Kd.at_int (Kd.R_reads' HO_7.out).2.2 ((rd_T55 l1 x9_2).f1) p354 q354
         obtain rfl : ad352 = ad354 := (by injection e354)
         replace p354 := eq_true p354
         replace q354 := eq_true q354
         go_wp2
         repeat (go_quiet (fail); try go_wp2)
         go_ret
         exact ⟨eS, by repeat (first | (with_reducible first | exact HB.out | apply below_alloc | apply pw_below_drewN | apply below_drew1) | exact HB.out)⟩
        ·rw [if_neg c28] at H
         have c28b0 : decide ((rd x7_1 ((rd_T55 l1 x9_2).f1)) ≤ (rd x7_1 ((rd_T55 l1 x9_2).f0))) = false := decide_eq_false c28
         clear c28
         have H' := Aside0.mk H
         clear H
         have p351 : 0 ≤ (x9_2 : Int) := oD
         have q351 : x9_2 < (l1.length : Int) := oD
         obtain ⟨ad351, e351, hx351_0, hx351_1⟩ := at_T55 HR1.out x9_2 p351 q351
         cases e351
         (try (replace hx351_0 := hB HB.out hx351_0))
         (try (replace hx351_1 := hB HB.out hx351_1))
         replace p351 := eq_true p351
         replace q351 := eq_true q351
         obtain ⟨Ao30, co30, eo30⟩ := Kd.R_slice HO_7.out
         subst eo30
         have p352 : 0 ≤ (((rd_T55 l1 x9_2).f0) : Int) := oD
         have q352 : ((rd_T55 l1 x9_2).f0) < (x7_1.length : Int) := oD
         obtain ⟨ad352, e352, hx352_0⟩ := Kd.at_int (Kd.R_reads' HO_7.out).2.2 ((rd_T55 l1 x9_2).f0) p352 q352
         cases e352
         replace p352 := eq_true p352
         replace q352 := eq_true q352
         have p353 : 0 ≤ (x9_2 : Int) := oD
         have q353 : x9_2 < (l1.length : Int) := oD
         obtain ⟨ad353, e353, hx353_0, hx353_1⟩ := at_T55 HR1.out x9_2 p353 q353
         obtain rfl : ad351 = ad353 := (by injection e353)
         (try (replace hx353_0 := hB HB.out hx353_0))
         (try (replace hx353_1 := hB HB.out hx353_1))
         replace p353 := eq_true p353
         replace q353 := eq_true q353
         have p354 : 0 ≤ (((rd_T55 l1 x9_2).f1) : Int) := oD
         have q354 : ((rd_T55 l1 x9_2).f1) < (x7_1.length : Int) := oD
         obtain ⟨ad354, e354, hx354_0⟩ := Kd.at_int (Kd.R_reads' HO_7.out).2.2 ((rd_T55 l1 x9_2).f1) p354 q354
         obtain rfl : ad352 = ad354 := (by injection e354)
         replace p354 := eq_true p354
         replace q354 := eq_true q354
         go_wp2
         repeat (go_quiet (fail); try go_wp2)
         go_roundg k2
         case measure => have := HK1.out; have := HK2.out; omega
         case rel => exact ⟨(wrap64 (x9_2 + 1)), rS, H', ⟨by have := HK1.out; have := HK2.out; omega⟩, ⟨rA HO_7.out⟩, ⟨wB0 HB.out⟩⟩
       ·rw [if_neg c22] at H
        have c22b0 : decide (x9_2 < (l1.length : Int)) = false := decide_eq_false c22
        clear c22
        obtain rfl := Option.some.inj H
        go_wp2
        repeat (go_quiet (fail); try go_wp2)
        go_ret
        exact ⟨eS, by repeat (first | (with_reducible first | exact HB.out | apply below_alloc | apply pw_below_drewN | apply below_drew1) | exact HB.out)⟩
 ·rw [if_neg c4] at H
  have c4b0 : ((l2.length : Int) == a0) = false := beq_eq_false_iff_ne.mpr c4
  have c4b1 : ((l2.length : Int) != a0) = true := bne_iff_ne.mpr c4
  obtain rfl := Option.some.inj H
  go_enter Try.func22, Try.ntmps22
  go_wp2
  repeat (go_quiet (fail); try go_wp2)
  go_ret
  exact ⟨eS, by repeat (first | (with_reducible first | exact HB.out | apply below_alloc | apply pw_below_drewN | apply below_drew1) | exact HB.out)⟩
end Go.Proofs.Ytlldjinejckbaaa.PD

end
section
namespace Go.Proofs.Ytlldjinejckbaaa.PD
open Go.RowKit Go.Proofs.YtlldjinejckbaaaW.PrintWords Go.Proofs.YtlldjinejckbaaaW.PrintLast Go.Proofs.YtlldjinejckbaaaW.PrintMore
attribute [local go_sem] max2_int min2_int max_two min_two max_three min_three max_four min_four
set_option linter.unusedVariables false
set_option linter.unusedSimpArgs false
mutual
def wireloomref05_Reach.j0 : Nat → Int → List (S55) → Int → Bool → Option (List Int)
 | 0, _, _, _, _ => none
 | k + 1, x0, x1, x2, x18 => if x18 = true then (some ([] : List Int)) else (if 0 ≤ x0 then (if (x0 : Int).toNat ≤ 281474976710656 then ((some (List.replicate (x0 : Int).toNat false : List Bool)).bind fun y355 => (if 0 ≤ x2 then (if x2 < (y355.length : Int) then (wireloomref05_Reach.l0 k x0 x1 (y355.set (x2 : Int).toNat true) 0) else (none)) else (none))) else (none)) else (none))
def wireloomref05_Reach.l0 : Nat → Int → List (S55) → List Bool → Int → Option (List Int)
 | 0, _, _, _, _ => none
 | k + 1, x0, x1, x7, x8 => if x8 < x0 then (wireloomref05_Reach.l1 k x0 x1 x7 x8 0) else (wireloomref05_Reach.l2 k x0 x7 (([] : List Int)) 0)
def wireloomref05_Reach.l1 : Nat → Int → List (S55) → List Bool → Int → Int → Option (List Int)
 | 0, _, _, _, _, _ => none
 | k + 1, x0, x1, x7, x8, x9 => if x9 < (x1.length : Int) then (if 0 ≤ x9 then (if 0 ≤ ((rd_T55 x1 x9).f0) then (if ((rd_T55 x1 x9).f0) < (x7.length : Int) then (if rdOf false x7 ((rd_T55 x1 x9).f0) = true then (if 0 ≤ ((rd_T55 x1 x9).f1) then (if ((rd_T55 x1 x9).f1) < (x7.length : Int) then (wireloomref05_Reach.l1 k x0 x1 (x7.set (((rd_T55 x1 x9).f1) : Int).toNat true) x8 (wrap64 (x9 + 1))) else (none)) else (none)) else (wireloomref05_Reach.l1 k x0 x1 x7 x8 (wrap64 (x9 + 1)))) else (none)) else (none)) else (none)) else (wireloomref05_Reach.l0 k x0 x1 x7 (wrap64 (x8 + 1)))
def wireloomref05_Reach.l2 : Nat → Int → List Bool → List Int → Int → Option (List Int)
 | 0, _, _, _, _ => none
 | k + 1, x0, x7, x10, x11 => if x11 < x0 then (if 0 ≤ x11 then (if x11 < (x7.length : Int) then (if rdOf false x7 x11 = true then (if x10.length < 17592186044416 then (wireloomref05_Reach.l2 k x0 x7 (x10 ++ [x11]) (wrap64 (x11 + 1))) else (none)) else (wireloomref05_Reach.l2 k x0 x7 x10 (wrap64 (x11 + 1)))) else (none)) else (none)) else (some x10)
end
def wireloomref05_Reach.f (k : Nat) (a0 : Int) (l1 : List (S55)) (a2 : Int) : Option (List Int) := if a2 < 0 then (wireloomref05_Reach.j0 k a0 l1 a2 true) else (wireloomref05_Reach.j0 k a0 l1 a2 (decide (a2 ≥ a0)))
set_option maxHeartbeats 8000000 in
set_option maxRecDepth 100000 in
theorem wireloomref05_Reach.calls (k : Nat) (a0 : Int) (A1 : Option Addr) (c1 : Nat) (l1 : List (S55)) (a2 : Int) (r : List Int) (w : World) (hr1 : Kd.C k55 w A1 l1.length l1) (hc1 : l1.length ≤ c1) (h : wireloomref05_Reach.f k a0 l1 a2 = some r) :
  Calls Try.prog 25 #[.int .i64 a0, .slice A1 l1.length c1, .int .i64 a2] w fun e w' => ∃ v0_ : Value, e = .returned (v0_) ∧ Kd.R (Kd.int .i64) 3 w' w.heap.size (fun _ => True) v0_ r ∧ Below w.heap.size w w' := by
 have HR1 := Aside0.mk hr1
 have HC1 := Aside0.mk hc1
 clear hr1 hc1
 have HB := Aside0.mk (Below.refl w.heap.size w)
 have H : (if a2 < 0 then (wireloomref05_Reach.j0 k a0 l1 a2 true) else (wireloomref05_Reach.j0 k a0 l1 a2 (decide (a2 ≥ a0)))) = some r := h
 clear h
 have HC4 := Aside0.mk H
 clear H
 go_enter Try.func25, Try.ntmps25
 go_upto_region 1 with (fail)
 go_cut [18] (fun v18 wc => ∃ (kq : Nat) (x18_3 : Bool), v18 = .bool x18_3 ∧ Aside0 (wireloomref05_Reach.j0 kq a0 l1 a2 x18_3 = some r) ∧ Aside0 (kq ≤ k) ∧ Aside0 (Below w.heap.size w wc))
 case first =>
  have H := HC4.out
  clear HC4
  by_cases c5 : a2 < 0
  ·rw [if_pos c5] at H
   have c5b0 : decide (a2 < 0) = true := decide_eq_true c5
   clear c5
   (first | rw [c5b0] | (simp only [i64_w, i32_w]; rw [c5b0]) | skip)
   have H' := Aside0.mk H
   clear H
   go_wp2
   go_meet
   case rel => exact ⟨_, (true), rS, H', ⟨by first | omega | exact Nat.le_refl _⟩, ⟨wB0 HB.out⟩⟩
  ·rw [if_neg c5] at H
   have c5b0 : decide (a2 < 0) = false := decide_eq_false c5
   clear c5
   (first | rw [c5b0] | (simp only [i64_w, i32_w]; rw [c5b0]) | skip)
   have H' := Aside0.mk H
   clear H
   go_wp2
   go_meet
   case rel => exact ⟨_, (decide (a2 ≥ a0)), rS, H', ⟨by first | omega | exact Nat.le_refl _⟩, ⟨wB0 HB.out⟩⟩
 case rest =>
  clear HC4
  try clear c1; try clear c2; try clear p2; try clear c5; try clear c5b0
  obtain ⟨kq, x18_3, rfl, HA, HJ3, HB⟩ := hcut
  cases kq with
  | zero => exact absurd HA.out (by simp [wireloomref05_Reach.j0])
  | succ kj3 =>
   have H := HA.out
   clear HA
   simp only [wireloomref05_Reach.j0] at H
   by_cases c6 : x18_3 = true
   ·subst c6
    have H1 : (some ([] : List Int)) = some r := by rw [if_pos rfl] at H; exact H
    clear H
    have H := H1
    clear H1
    obtain rfl := Option.some.inj H
    go_wp2
    go_ret
    exact ⟨_, eS, by first | exact Kd.R_nil _ _ _ _ _ | exact Kd.N_nil _ _ _ _ _ | exact Kd.V_nil _ _ _ _ _ | exact Kd.Q_nil _ _ _ _ _ | exact Kd.S_nil _ _ _ _ _, by repeat (first | (with_reducible first | exact HB.out | apply below_alloc | apply pw_below_drewN | apply below_drew1) | exact HB.out)⟩
   ·replace c6 := Bool.eq_false_iff.mpr c6
    subst c6
    have H1 : (if 0 ≤ a0 then (if (a0 : Int).toNat ≤ 281474976710656 then ((some (List.replicate (a0 : Int).toNat false : List Bool)).bind fun y355 => (if 0 ≤ a2 then (if a2 < (y355.length : Int) then (wireloomref05_Reach.l0 kj3 a0 l1 (y355.set (a2 : Int).toNat true) 0) else (none)) else (none))) else (none)) else (none)) = some r := by rw [if_neg (show ¬ (false = true) by decide)] at H; exact H
    clear H
    have H := H1
    clear H1
    by_cases c7 : 0 ≤ a0
    rotate_left
    ·rw [if_neg c7] at H
     exact absurd H (by simp)
    rw [if_pos c7] at H
    have c7b0 := eq_true c7
    have c7b1 : decide (0 ≤ a0) = true := decide_eq_true c7
    clear c7
    by_cases c8 : (a0 : Int).toNat ≤ 281474976710656
    rotate_left
    ·rw [if_neg c8] at H
     exact absurd H (by simp)
    rw [if_pos c8] at H
    have c8b0 := eq_true c8
    have c8b1 : decide ((a0 : Int).toNat ≤ 281474976710656) = true := decide_eq_true c8
    clear c8
    obtain ⟨y355, hy355⟩ : ∃ y_ : List Bool, y_ = (List.replicate (a0 : Int).toNat false) := ⟨_, rfl⟩
    replace H : (if 0 ≤ a2 then (if a2 < (y355.length : Int) then (wireloomref05_Reach.l0 kj3 a0 l1 (y355.set (a2 : Int).toNat true) 0) else (none)) else (none)) = some r := by first | (rw [hy355]; with_reducible exact H) | (have H2_ := (Option.bind_some _ _).symm.trans H; rw [hy355]; with_reducible exact H2_) | (have H2_ := (Option.bind_some _ _).symm.trans H; with_reducible exact H2_) | with_reducible exact H | (rw [hy355]; exact H) | exact H
    have Ny355 := Aside0.mk hy355
    clear hy355
    by_cases c9 : 0 ≤ a2
    rotate_left
    ·rw [if_neg c9] at H
     exact absurd H (by simp)
    rw [if_pos c9] at H
    have c9b0 : decide (0 ≤ a2) = true := decide_eq_true c9
    clear c9
    by_cases c10 : a2 < (y355.length : Int)
    rotate_left
    ·rw [if_neg c10] at H
     exact absurd H (by simp)
    rw [if_pos c10] at H
    have c10b0 : decide (a2 < (y355.length : Int)) = true := decide_eq_true c10
    clear c10
    obtain ⟨y358, hy358⟩ : ∃ y_ : List Bool, y_ = (y355.set (a2 : Int).toNat true) := ⟨_, rfl⟩
    replace H : (wireloomref05_Reach.l0 kj3 a0 l1 y358 0) = some r := by first | (rw [hy358]; with_reducible exact H) | (have H2_ := (Option.bind_some _ _).symm.trans H; rw [hy358]; with_reducible exact H2_) | (have H2_ := (Option.bind_some _ _).symm.trans H; with_reducible exact H2_) | with_reducible exact H | (rw [hy358]; exact H) | exact H
    have Ny358 := Aside0.mk hy358
    clear hy358
    have H' := Aside0.mk H
    clear H
    go_wp2_with (first | ((with_reducible refine gate_dst (N := 20) rfl ?_); refine Kd.R_make Kd.bool _ 4 rfl (N := 20) rfl 49 _ _ rfl a0 rfl rfl Try.underlying49 (.bool false) 1 info4 rfl (by decide) (by omega) false (ok := fun _ => True) (okp := fun _ => True) rfl (fun _ hk => hk) trivial oD (Nat.le_trans (Nat.mul_le_mul_right _ (oD : a0.toNat ≤ 281474976710656)) (by omega)) (Below.refl _ _) (Nat.le_refl _) ?_; intro v356 w12 ho13 hb hg_ hnew_; clear hg_ hnew_; (first | rw [← Ny355.out] at ho13 | (simp only [Int.reduceToNat] at ho13; rw [← Ny355.out] at ho13)); have HO357 := Aside0.mk (Kd.R_lower ho13 (below_size (wB0 HB.out))); replace HB := Aside0.mk (below_step (wB0 HB.out) hb); clear hb ho13; have p11 : 0 ≤ (a2 : Int) := oD; have q11 : (a2 : Int) < ((y355.length : Int) : Int) := oD; obtain ⟨go11, co11, eo11, gb11, gl11, cl11, HG11⟩ := Kd.R_form HO357.out (by omega); (first | cases eo11 | (injection eo11 with ea_ en_ ec_; (first | subst ea_ | (injection ea_ with ea_; subst ea_)); subst ec_; clear en_)); have GB11 := Aside0.mk gb11; have GG11 := Aside0.mk HG11; clear gb11 gl11 HG11; obtain ⟨hx11_0, hf11_0⟩ := Kd.R_celln false HO357.out (a2 : Int) p11 q11; replace p11 := eq_true p11; replace q11 := eq_true q11; obtain ⟨hy14_, hz14_⟩ := Kd.R_celln false HO357.out (a2 : Int) oD oD; have HP14 := Kd.R_putg HO357.out (a2 : Int) true) | ((with_reducible refine gate_store (t := 4) (p := 23) rfl ?_); refine store_event (t := 4) (p := 23) (v := ?vo_w15) (w1 := (w12.setCell ⟨go11, (a2 : Int).toNat, none⟩ (.bool true))) ?hg ?ho ?hn ?hr ?_; (case ho => rfl); (case hg => rfl); (case hn => rfl); (case hr => first | (go_simp; done) | (go_simp; rfl)); intro w15 hw; have hg : w12.grownBy w15 (some go11) := (by rw [hw]; exact HP14.2); have hp_ : Kd.R Kd.bool 4 w15 w.heap.size (fun _ => True) (.slice (some ⟨go11, 0, none⟩) y355.length co11) y358 := (by rw [hw, Ny358.out]; exact HP14.1); clear HP14; replace HO357 := Aside0.mk (hp_); replace HB := Aside0.mk ((by rw [hw]; exact below_set (HB.out) GB11.out : Below w.heap.size w w15)); clear hg hw hp_))
    go_loopg [8] kj3 (fun kq v8 w' => ∃ (x7_2 : List Bool) (x8_2 : Int), v8 = .int .i64 x8_2 ∧ Aside0 (wireloomref05_Reach.l0 kq a0 l1 x7_2 x8_2 = some r) ∧ Aside0 (kq ≤ kj3) ∧ Aside0 (Kd.R Kd.bool 4 w' w.heap.size (fun _ => True) (.slice (some ⟨go11, 0, none⟩) y355.length co11) x7_2) ∧ Aside0 (Below w.heap.size w w'))
    case atStart => exact ⟨(y358), (0), rS, H', ⟨Nat.le_refl _⟩, ⟨rA HO357.out⟩, ⟨wB0 HB.out⟩⟩
    case round =>
     clear H'
     try clear c1; try clear p1; try clear q1; try clear hx1; try clear c2; try clear p2; try clear c5; try clear c5b0; try clear c6; try clear c7; try clear c7b0; try clear c7b1; try clear c8; try clear c8b0; try clear c8b1; try clear c9; try clear c9b0; try clear c10; try clear c10b0; try clear p11; try clear q11; try clear hx11; try clear hf11; try clear hx11_0; try clear p11; try clear p2; try clear q11
     obtain ⟨x7_2, x8_2, rfl, HA, HK2, HO_7, HB⟩ := hrel
     have hl7_2 := (Kd.R_reads' HO_7.out).1
     rw [hl7_2] at HO_7
     (try simp only [hl7_2])
     cases gk with
     | zero => exact absurd HA.out (by simp [wireloomref05_Reach.l0])
     | succ k2 =>
      have H := HA.out
      clear HA
      simp only [wireloomref05_Reach.l0] at H
      by_cases c16 : x8_2 < a0
      ·rw [if_pos c16] at H
       have c16b0 : decide (x8_2 < a0) = true := decide_eq_true c16
       clear c16
       have H' := Aside0.mk H
       clear H
       go_wp2
       go_loopg [9] k2 (fun kq v9 w' => ∃ (x7_3 : List Bool) (x9_3 : Int), v9 = .int .i64 x9_3 ∧ Aside0 (wireloomref05_Reach.l1 kq a0 l1 x7_3 x8_2 x9_3 = some r) ∧ Aside0 (kq ≤ k2) ∧ Aside0 (Kd.R Kd.bool 4 w' w.heap.size (fun _ => True) (.slice (some ⟨go11, 0, none⟩) x7_2.length co11) x7_3) ∧ Aside0 (Below w.heap.size w w'))
       case atStart => exact ⟨(x7_2), (0), rS, H', ⟨Nat.le_refl _⟩, ⟨by (try simp only [hl7_2]); (with_reducible repeat (first | apply Kd.R_alloc | apply Kd.R_drewN | apply Kd.R_drew)); exact HO_7.out⟩, ⟨wB0 HB.out⟩⟩
       case round =>
        clear H'
        try clear c1; try clear p1; try clear q1; try clear hx1; try clear c2; try clear p2; try clear c5; try clear c5b0; try clear c6; try clear c7; try clear c7b0; try clear c7b1; try clear c8; try clear c8b0; try clear c8b1; try clear c9; try clear c9b0; try clear c10; try clear c10b0; try clear p11; try clear q11; try clear hx11; try clear hf11; try clear c16; try clear c16b0; try clear hx11_0; try clear p1; try clear p11; try clear p2; try clear q1; try clear q11
        obtain ⟨x7_3, x9_3, rfl, HA, HK3, HO_7, HB⟩ := hrel
        have hl7_3 := (Kd.R_reads' HO_7.out).1
        rw [hl7_3] at HO_7
        (try simp only [hl7_3])
        cases gk with
        | zero => exact absurd HA.out (by simp [wireloomref05_Reach.l1])
        | succ k3 =>
         have H := HA.out
         clear HA
         simp only [wireloomref05_Reach.l1] at H
         by_cases c17 : x9_3 < (l1.length : Int)
         ·rw [if_pos c17] at H
          have c17b0 : decide (x9_3 < (l1.length : Int)) = true := decide_eq_true c17
          clear c17
          by_cases c18 : 0 ≤ x9_3
          rotate_left
          ·rw [if_neg c18] at H
           exact absurd H (by simp)
          rw [if_pos c18] at H
          have c18b0 : decide (0 ≤ x9_3) = true := decide_eq_true c18
          clear c18
          by_cases c19 : 0 ≤ ((rd_T55 l1 x9_3).f0)
          rotate_left
          ·rw [if_neg c19] at H
           exact absurd H (by simp)
          rw [if_pos c19] at H
          have c19b0 : decide (0 ≤ ((rd_T55 l1 x9_3).f0)) = true := decide_eq_true c19
          clear c19
          by_cases c20 : ((rd_T55 l1 x9_3).f0) < (x7_3.length : Int)
          rotate_left
          ·rw [if_neg c20] at H
           exact absurd H (by simp)
          rw [if_pos c20] at H
          have c20b0 : decide (((rd_T55 l1 x9_3).f0) < (x7_3.length : Int)) = true := decide_eq_true c20
          clear c20
          obtain ⟨bq21, hbq21⟩ : ∃ b_ : Bool, b_ = (rdOf false x7_3 ((rd_T55 l1 x9_3).f0)) := ⟨_, rfl⟩
          replace H : (if bq21 = true then (if 0 ≤ ((rd_T55 l1 x9_3).f1) then (if ((rd_T55 l1 x9_3).f1) < (x7_3.length : Int) then (wireloomref05_Reach.l1 k3 a0 l1 (x7_3.set (((rd_T55 l1 x9_3).f1) : Int).toNat true) x8_2 (wrap64 (x9_3 + 1))) else (none)) else (none)) else (wireloomref05_Reach.l1 k3 a0 l1 x7_3 x8_2 (wrap64 (x9_3 + 1)))) = some r := by rw [← hbq21] at H; exact H
          have Nbq21 := Aside0.mk hbq21
          clear hbq21
          by_cases c22 : bq21 = true
          ·subst c22
           have H1 : (if 0 ≤ ((rd_T55 l1 x9_3).f1) then (if ((rd_T55 l1 x9_3).f1) < (x7_3.length : Int) then (wireloomref05_Reach.l1 k3 a0 l1 (x7_3.set (((rd_T55 l1 x9_3).f1) : Int).toNat true) x8_2 (wrap64 (x9_3 + 1))) else (none)) else (none)) = some r := by rw [if_pos rfl] at H; exact H
           clear H
           have H := H1
           clear H1
           by_cases c23 : 0 ≤ ((rd_T55 l1 x9_3).f1)
           rotate_left
           ·rw [if_neg c23] at H
            exact absurd H (by simp)
           rw [if_pos c23] at H
           have c23b0 : decide (0 ≤ ((rd_T55 l1 x9_3).f1)) = true := decide_eq_true c23
           clear c23
           by_cases c24 : ((rd_T55 l1 x9_3).f1) < (x7_3.length : Int)
           rotate_left
           ·rw [if_neg c24] at H
            exact absurd H (by simp)
           rw [if_pos c24] at H
           have c24b0 : decide (((rd_T55 l1 x9_3).f1) < (x7_3.length : Int)) = true := decide_eq_true c24
           clear c24
           obtain ⟨y362, hy362⟩ : ∃ y_ : List Bool, y_ = (x7_3.set (((rd_T55 l1 x9_3).f1) : Int).toNat true) := ⟨_, rfl⟩
           replace H : (wireloomref05_Reach.l1 k3 a0 l1 y362 x8_2 (wrap64 (x9_3 + 1))) = some r := by first | (rw [hy362]; with_reducible exact H) | (have H2_ := (Option.bind_some _ _).symm.trans H; rw [hy362]; with_reducible exact H2_) | (have H2_ := (Option.bind_some _ _).symm.trans H; with_reducible exact H2_) | with_reducible exact H | (rw [hy362]; exact H) | exact H
           have Ny362 := Aside0.mk hy362
           clear hy362
           have H' := Aside0.mk H
           clear H
           have p359 : 0 ≤ (x9_3 : Int) := oD
           have q359 : x9_3 < (l1.length : Int) := oD
           obtain ⟨ad359, e359, hx359_0, hx359_1⟩ := at_T55 HR1.out x9_3 p359 q359
           cases e359
           (try (replace hx359_0 := hB HB.out hx359_0))
           (try (replace hx359_1 := hB HB.out hx359_1))
           replace p359 := eq_true p359
           replace q359 := eq_true q359
           have p360 : 0 ≤ (((rd_T55 l1 x9_3).f0) : Int) := oD
           have q360 : ((rd_T55 l1 x9_3).f0) < (x7_3.length : Int) := oD
           obtain ⟨ad360, e360, hx360_0⟩ := Kd.at_bool (Kd.R_reads' HO_7.out).2.2 ((rd_T55 l1 x9_3).f0) p360 q360
           (try rw [← Nbq21.out] at hx360_0)
           obtain rfl : (⟨go11, 0, none⟩ : Addr) = ad360 := (by injection e360)
           (first | simp only [add_plain] at hx360_0 | simp only [add_at] at hx360_0 | simp only [Addr.add, Nat.zero_add] at hx360_0 | skip)
           replace p360 := eq_true p360
           replace q360 := eq_true q360
           have p361 : 0 ≤ (x9_3 : Int) := oD
           have q361 : x9_3 < (l1.length : Int) := oD
           obtain ⟨ad361, e361, hx361_0, hx361_1⟩ := at_T55 HR1.out x9_3 p361 q361
           obtain rfl : ad359 = ad361 := (by injection e361)
           (try (replace hx361_0 := hB HB.out hx361_0))
           (try (replace hx361_1 := hB HB.out hx361_1))
           replace p361 := eq_true p361
           replace q361 := eq_true q361
           have p25 : 0 ≤ (((rd_T55 l1 x9_3).f1) : Int) := oD
           have q25 : (((rd_T55 l1 x9_3).f1) : Int) < ((x7_3.length : Int) : Int) := oD
           obtain ⟨hx25_0, hf25_0⟩ := Kd.R_celln false HO_7.out (((rd_T55 l1 x9_3).f1) : Int) p25 q25
           replace p25 := eq_true p25
           replace q25 := eq_true q25
           have HP26 := Kd.R_putg HO_7.out (((rd_T55 l1 x9_3).f1) : Int) true
           go_wp2_with (first | ((with_reducible refine gate_store (t := 4) (p := 49) rfl ?_); refine store_event (t := 4) (p := 49) (v := ?vo_w27) (w1 := (wr.setCell ⟨go11, (((rd_T55 l1 x9_3).f1) : Int).toNat, none⟩ (.bool true))) ?hg ?ho ?hn ?hr ?_; (case ho => rfl); (case hg => rfl); (case hn => rfl); (case hr => first | (go_simp; done) | (go_simp; rfl)); intro w27 hw; have hg : wr.grownBy w27 (some go11) := (by rw [hw]; exact HP26.2); have hp_ : Kd.R Kd.bool 4 w27 w.heap.size (fun _ => True) (.slice (some ⟨go11, 0, none⟩) x7_3.length co11) y362 := (by rw [hw, Ny362.out]; exact HP26.1); clear HP26; replace HO_7 := Aside0.mk (hp_); replace HB := Aside0.mk ((by rw [hw]; exact below_set (HB.out) GB11.out : Below w.heap.size w w27)); clear hg hw hp_))
           (try simp only [← hl7_3])
           go_roundg k3
           case measure => have := HJ3.out; have := HK2.out; have := HK3.out; omega
           case rel => exact ⟨(y362), (wrap64 (x9_3 + 1)), rS, H', ⟨by have := HJ3.out; have := HK2.out; have := HK3.out; omega⟩, ⟨by (try simp only [hl7_2]); (try simp only [hl7_3]); (with_reducible repeat (first | apply Kd.R_alloc | apply Kd.R_drewN | apply Kd.R_drew)); exact HO_7.out⟩, ⟨wB0 HB.out⟩⟩
          ·replace c22 := Bool.eq_false_iff.mpr c22
           subst c22
           have H1 : (wireloomref05_Reach.l1 k3 a0 l1 x7_3 x8_2 (wrap64 (x9_3 + 1))) = some r := by rw [if_neg (show ¬ (false = true) by decide)] at H; exact H
           clear H
           have H := H1
           clear H1
           have H' := Aside0.mk H
           clear H
           have p359 : 0 ≤ (x9_3 : Int) := oD
           have q359 : x9_3 < (l1.length : Int) := oD
           obtain ⟨ad359, e359, hx359_0, hx359_1⟩ := at_T55 HR1.out x9_3 p359 q359
           cases e359
           (try (replace hx359_0 := hB HB.out hx359_0))
           (try (replace hx359_1 := hB HB.out hx359_1))
           replace p359 := eq_true p359
           replace q359 := eq_true q359
           have p360 : 0 ≤ (((rd_T55 l1 x9_3).f0) : Int) := oD
           have q360 : ((rd_T55 l1 x9_3).f0) < (x7_3.length : Int) := oD
           obtain ⟨ad360, e360, hx360_0⟩ := Kd.at_bool (Kd.R_reads' HO_7.out).2.2 ((rd_T55 l1 x9_3).f0) p360 q360
           (try rw [← Nbq21.out] at hx360_0)
           obtain rfl : (⟨go11, 0, none⟩ : Addr) = ad360 := (by injection e360)
           (first | simp only [add_plain] at hx360_0 | simp only [add_at] at hx360_0 | simp only [Addr.add, Nat.zero_add] at hx360_0 | skip)
           replace p360 := eq_true p360
           replace q360 := eq_true q360
           go_wp2
           (try simp only [← hl7_3])
           go_roundg k3
           case measure => have := HJ3.out; have := HK2.out; have := HK3.out; omega
           case rel => exact ⟨(x7_3), (wrap64 (x9_3 + 1)), rS, H', ⟨by have := HJ3.out; have := HK2.out; have := HK3.out; omega⟩, ⟨by (try simp only [hl7_2]); (try simp only [hl7_3]); (with_reducible repeat (first | apply Kd.R_alloc | apply Kd.R_drewN | apply Kd.R_drew)); exact HO_7.out⟩, ⟨wB0 HB.out⟩⟩
         ·rw [if_neg c17] at H
          have c17b0 : decide (x9_3 < (l1.length : Int)) = false := decide_eq_false c17
          clear c17
          have H' := Aside0.mk H
          clear H
          go_wp2
          (try simp only [← hl7_2, ← hl7_3])
          go_roundg k3
          case measure => have := HJ3.out; have := HK2.out; have := HK3.out; omega
          case rel => exact ⟨(x7_3), (wrap64 (x8_2 + 1)), rS, H', ⟨by have := HJ3.out; have := HK2.out; have := HK3.out; omega⟩, ⟨by (try simp only [hl7_2]); (try simp only [hl7_3]); (with_reducible repeat (first | apply Kd.R_alloc | apply Kd.R_drewN | apply Kd.R_drew)); exact HO_7.out⟩, ⟨wB0 HB.out⟩⟩
      ·rw [if_neg c16] at H
       have c16b0 : decide (x8_2 < a0) = false := decide_eq_false c16
       clear c16
       obtain ⟨y363, hy363⟩ : ∃ y_ : List Int, y_ = (([] : List Int)) := ⟨_, rfl⟩
       replace H : (wireloomref05_Reach.l2 k2 a0 x7_2 y363 0) = some r := by first | (rw [hy363]; with_reducible exact H) | (have H2_ := (Option.bind_some _ _).symm.trans H; rw [hy363]; with_reducible exact H2_) | (have H2_ := (Option.bind_some _ _).symm.trans H; with_reducible exact H2_) | with_reducible exact H | (rw [hy363]; exact H) | exact H
       have Ny363 := Aside0.mk hy363
       clear hy363
       have H' := Aside0.mk H
       clear H
       go_wp2_with (first | ((with_reducible refine gate_dst (N := 50) rfl ?_); refine Kd.R_lit (Kd.int .i64) _ 3 ?hg (N := 50) ?hd (xs := ([] : List Int)) (inner := []) (ok := fun _ => True) (okp := fun _ => True) ?hr ?hp (fun _ hk => hk) trivial (Below.refl _ _) (Nat.le_refl _) (by simp) ?_; (case hd => rfl); (case hg => rfl); (case hr => first | (go_simp; done) | (go_simp; rfl)); (case hp => exact (Reps.none _ _)); intro v364 w28 ho29 hb hg_ hnew_; clear hg_ hnew_; (first | rw [← Ny363.out] at ho29 | (simp only [Int.reduceToNat] at ho29; rw [← Ny363.out] at ho29)); replace HO_7 := Aside0.mk (Kd.R_below (rA HO_7.out) hb); have HO365 := Aside0.mk (Kd.R_lower ho29 (below_size (wB0 HB.out))); replace HB := Aside0.mk (below_step (wB0 HB.out) hb); clear hb ho29))
       go_loopg [10, 11] k2 (fun kq v10 v11 w' => ∃ (x10_3 : List Int) (x11_3 : Int), v11 = .int .i64 x11_3 ∧ Aside0 (wireloomref05_Reach.l2 kq a0 x7_2 x10_3 x11_3 = some r) ∧ Aside0 (kq ≤ k2) ∧ Aside0 (Kd.R Kd.bool 4 w' w.heap.size (fun _ => True) (.slice (some ⟨go11, 0, none⟩) x7_2.length co11) x7_2) ∧ Aside0 (Kd.R (Kd.int .i64) 3 w' w.heap.size (fun _ => True) v10 x10_3) ∧ Aside0 (Below w.heap.size w w'))
       case atStart => exact ⟨(y363), (0), rS, H', ⟨Nat.le_refl _⟩, ⟨by (try simp only [hl7_2]); (with_reducible repeat (first | apply Kd.R_alloc | apply Kd.R_drewN | apply Kd.R_drew)); exact HO_7.out⟩, ⟨by (try simp only [hl7_2]); (with_reducible repeat (first | apply Kd.R_alloc | apply Kd.R_drewN | apply Kd.R_drew)); exact HO365.out⟩, ⟨wB0 HB.out⟩⟩
       case round =>
        clear H'
        try clear c1; try clear p1; try clear q1; try clear hx1; try clear c2; try clear p2; try clear q2; try clear hx2; try clear p3; try clear q3; try clear hx3; try clear c5; try clear c5b0; try clear c6; try clear p6; try clear c7; try clear c7b0; try clear c7b1; try clear c8; try clear c8b0; try clear c8b1; try clear c9; try clear c9b0; try clear c10; try clear c10b0; try clear p11; try clear q11; try clear hx11; try clear hf11; try clear c16; try clear c16b0; try clear c17; try clear c17b0; try clear c18; try clear c18b0; try clear c19; try clear c19b0; try clear c20; try clear c20b0; try clear q21
        try clear c22; try clear c23; try clear c23b0; try clear c24; try clear c24b0; try clear c25; try clear p25; try clear q25; try clear hx25; try clear hf25; try clear hx11_0; try clear hx25_0; try clear hx359_0; try clear hx359_1; try clear hx360_0; try clear hx361_0; try clear hx361_1; try clear p1; try clear p11; try clear p2; try clear p25; try clear p359; try clear p360; try clear p361; try clear q1; try clear q11; try clear q25; try clear q359; try clear q360; try clear q361
        obtain ⟨x10_3, x11_3, rfl, HA, HK3, HO_7, HO_10, HB⟩ := hrel
        cases gk with
        | zero => exact absurd HA.out (by simp [wireloomref05_Reach.l2])
        | succ k3 =>
         have H := HA.out
         clear HA
         simp only [wireloomref05_Reach.l2] at H
         by_cases c30 : x11_3 < a0
         ·rw [if_pos c30] at H
          have c30b0 : decide (x11_3 < a0) = true := decide_eq_true c30
          clear c30
          by_cases c31 : 0 ≤ x11_3
          rotate_left
          ·rw [if_neg c31] at H
           exact absurd H (by simp)
          rw [if_pos c31] at H
          have c31b0 : decide (0 ≤ x11_3) = true := decide_eq_true c31
          clear c31
          by_cases c32 : x11_3 < (x7_2.length : Int)
          rotate_left
          ·rw [if_neg c32] at H
           exact absurd H (by simp)
          rw [if_pos c32] at H
          have c32b0 : decide (x11_3 < (x7_2.length : Int)) = true := decide_eq_true c32
          clear c32
          obtain ⟨bq33, hbq33⟩ : ∃ b_ : Bool, b_ = (rdOf false x7_2 x11_3) := ⟨_, rfl⟩
          replace H : (if bq33 = true then (if x10_3.length < 17592186044416 then (wireloomref05_Reach.l2 k3 a0 x7_2 (x10_3 ++ [x11_3]) (wrap64 (x11_3 + 1))) else (none)) else (wireloomref05_Reach.l2 k3 a0 x7_2 x10_3 (wrap64 (x11_3 + 1)))) = some r := by rw [← hbq33] at H; exact H
          have Nbq33 := Aside0.mk hbq33
          clear hbq33
          by_cases c34 : bq33 = true
          ·subst c34
           have H1 : (if x10_3.length < 17592186044416 then (wireloomref05_Reach.l2 k3 a0 x7_2 (x10_3 ++ [x11_3]) (wrap64 (x11_3 + 1))) else (none)) = some r := by rw [if_pos rfl] at H; exact H
           clear H
           have H := H1
           clear H1
           by_cases c35 : x10_3.length < 17592186044416
           rotate_left
           ·rw [if_neg c35] at H
            exact absurd H (by simp)
           rw [if_pos c35] at H
           have LMc35 := Aside0.mk c35
           clear c35
           obtain ⟨y367, hy367⟩ : ∃ y_ : List Int, y_ = (x10_3 ++ [x11_3]) := ⟨_, rfl⟩
           replace H : (wireloomref05_Reach.l2 k3 a0 x7_2 y367 (wrap64 (x11_3 + 1))) = some r := by first | (rw [hy367]; with_reducible exact H) | (have H2_ := (Option.bind_some _ _).symm.trans H; rw [hy367]; with_reducible exact H2_) | (have H2_ := (Option.bind_some _ _).symm.trans H; with_reducible exact H2_) | with_reducible exact H | (rw [hy367]; exact H) | exact H
           have Ny367 := Aside0.mk hy367
           clear hy367
           have H' := Aside0.mk H
           clear H
           have p366 : 0 ≤ (x11_3 : Int) := oD
           have q366 : x11_3 < (x7_2.length : Int) := oD
           obtain ⟨ad366, e366, hx366_0⟩ := Kd.at_bool (Kd.R_reads' HO_7.out).2.2 x11_3 p366 q366
           (try rw [← Nbq33.out] at hx366_0)
           obtain rfl : (⟨go11, 0, none⟩ : Addr) = ad366 := (by injection e366)
           (first | simp only [add_plain] at hx366_0 | simp only [add_at] at hx366_0 | simp only [Addr.add, Nat.zero_add] at hx366_0 | skip)
           replace p366 := eq_true p366
           replace q366 := eq_true q366
           go_wp2_with (first | ((with_reducible refine gate_builtin (b := .append) (xs := #[.tmp 60, .tmp 62]) rfl ?_); at_builtin; refine Kd.R_append (Kd.int .i64) (w0 := w) w.heap.size rfl (.tmp 60) (.tmp 62) 26 3 (.int .i64 0) 8 rfl Try.underlying26 info3 rfl (by decide) (by omega) u10 x10_3 x11_3 [.int .i64 x11_3] (fun _ => True) (fun _ => False) rfl rfl ?aP (fun _ hk => hk.elim) ?aF ?aO ?aB ?aS ?aL ?_; (case aP => exact rfl); (case aB => exact (wB0 HB.out)); (case aF => exact (fun _ _ => trivial)); (case aO => exact (rA HO_10.out)); (case aS => exact (below_size (wB0 HB.out))); (case aL => have := LMc35.out; omega); intro v368 w36 ho hb hg hat; rw [← Ny367.out] at ho; replace HO_7 := Aside0.mk (Kd.R_over' (rA HO_7.out) (Kd.R_typed (rA HO_10.out)) (by decide) hg); replace HB := Aside0.mk (hb); have HO369 := Aside0.mk (ho); clear HO_10; clear ho hb hg hat))
           go_roundg k3
           case measure => have := HJ3.out; have := HK2.out; have := HK3.out; omega
           case rel => exact ⟨(y367), (wrap64 (x11_3 + 1)), rS, H', ⟨by have := HJ3.out; have := HK2.out; have := HK3.out; omega⟩, ⟨by (try simp only [hl7_2]); (with_reducible repeat (first | apply Kd.R_alloc | apply Kd.R_drewN | apply Kd.R_drew)); exact HO_7.out⟩, ⟨by (try simp only [hl7_2]); (with_reducible repeat (first | apply Kd.R_alloc | apply Kd.R_drewN | apply Kd.R_drew)); exact HO369.out⟩, ⟨wB0 HB.out⟩⟩
          ·replace c34 := Bool.eq_false_iff.mpr c34
           subst c34
           have H1 : (wireloomref05_Reach.l2 k3 a0 x7_2 x10_3 (wrap64 (x11_3 + 1))) = some r := by rw [if_neg (show ¬ (false = true) by decide)] at H; exact H
           clear H
           have H := H1
           clear H1
           have H' := Aside0.mk H
           clear H
           have p366 : 0 ≤ (x11_3 : Int) := oD
           have q366 : x11_3 < (x7_2.length : Int) := oD
           obtain ⟨ad366, e366, hx366_0⟩ := Kd.at_bool (Kd.R_reads' HO_7.out).2.2 x11_3 p366 q366
           (try rw [← Nbq33.out] at hx366_0)
           obtain rfl : (⟨go11, 0, none⟩ : Addr) = ad366 := (by injection e366)
           (first | simp only [add_plain] at hx366_0 | simp only [add_at] at hx366_0 | simp only [Addr.add, Nat.zero_add] at hx366_0 | skip)
           replace p366 := eq_true p366
           replace q366 := eq_true q366
           go_wp2
           go_roundg k3
           case measure => have := HJ3.out; have := HK2.out; have := HK3.out; omega
           case rel => exact ⟨(x10_3), (wrap64 (x11_3 + 1)), rS, H', ⟨by have := HJ3.out; have := HK2.out; have := HK3.out; omega⟩, ⟨by (try simp only [hl7_2]); (with_reducible repeat (first | apply Kd.R_alloc | apply Kd.R_drewN | apply Kd.R_drew)); exact HO_7.out⟩, ⟨by (try simp only [hl7_2]); (with_reducible repeat (first | apply Kd.R_alloc | apply Kd.R_drewN | apply Kd.R_drew)); exact HO_10.out⟩, ⟨wB0 HB.out⟩⟩
         ·rw [if_neg c30] at H
          have c30b0 : decide (x11_3 < a0) = false := decide_eq_false c30
          clear c30
          obtain rfl := Option.some.inj H
          go_wp2
          go_ret
          exact ⟨_, eS, by (with_reducible repeat (first | apply Kd.R_alloc | apply Kd.R_drewN | apply Kd.R_drew)); exact HO_10.out, by repeat (first | (with_reducible first | exact HB.out | apply below_alloc | apply pw_below_drewN | apply below_drew1) | exact HB.out)⟩
end Go.Proofs.Ytlldjinejckbaaa.PD

end
section
namespace Go.Proofs.Ytlldjinejckbaaa.PD
open Go.RowKit Go.Proofs.YtlldjinejckbaaaW.PrintWords Go.Proofs.YtlldjinejckbaaaW.PrintLast Go.Proofs.YtlldjinejckbaaaW.PrintMore
attribute [local go_sem] max2_int min2_int max_two min_two max_three min_three max_four min_four
set_option linter.unusedVariables false
set_option linter.unusedSimpArgs false
def wireloomref05_In.l0 : Nat → List Int → Int → Int → Option (Bool)
 | 0, _, _, _ => none
 | k + 1, x0, x1, x5 => if x5 < (x0.length : Int) then (if 0 ≤ x5 then (if (rd x0 x5) = x1 then (some true) else (wireloomref05_In.l0 k x0 x1 (wrap64 (x5 + 1)))) else (none)) else (some false)
def wireloomref05_In.f (k : Nat) (l0 : List Int) (a1 : Int) : Option (Bool) := wireloomref05_In.l0 k l0 a1 0
set_option maxHeartbeats 8000000 in
set_option maxRecDepth 100000 in
theorem wireloomref05_In.calls (k : Nat) (A0 : Option Addr) (c0 : Nat) (l0 : List Int) (a1 : Int) (r : Bool) (w : World) (hr0 : Kd.C (Kd.int .i64) w A0 l0.length l0) (hc0 : l0.length ≤ c0) (h : wireloomref05_In.f k l0 a1 = some r) :
  Calls Try.prog 31 #[.slice A0 l0.length c0, .int .i64 a1] w fun e w' => e = .returned (.bool r) ∧ Drawn0 w w' := by
 have HR0 := Aside0.mk hr0
 have HC0 := Aside0.mk hc0
 clear hr0 hc0
 have H : (wireloomref05_In.l0 k l0 a1 0) = some r := h
 clear h
 have H' := Aside0.mk H
 clear H
 go_enter Try.func31, Try.ntmps31
 go_wp2
 go_loopg [5] k (fun kq v5 w' => ∃ (x5_1 : Int), v5 = .int .i64 x5_1 ∧ Aside0 (wireloomref05_In.l0 kq l0 a1 x5_1 = some r) ∧ Aside0 (kq ≤ k) ∧ Drawn0 w w')
 case atStart => exact ⟨(0), rS, H', ⟨Nat.le_refl _⟩, by repeat (first | exact Drawn0.refl _ | apply Drawn0.step)⟩
 case round =>
  clear H'
  try clear p2
  obtain ⟨x5_1, rfl, HA, HK1, ⟨m1, rfl⟩⟩ := hrel
  cases gk with
  | zero => exact absurd HA.out (by simp [wireloomref05_In.l0])
  | succ k1 =>
   have H := HA.out
   clear HA
   simp only [wireloomref05_In.l0] at H
   by_cases c3 : x5_1 < (l0.length : Int)
   ·rw [if_pos c3] at H
    have c3b0 : decide (x5_1 < (l0.length : Int)) = true := decide_eq_true c3
    clear c3
    by_cases c4 : 0 ≤ x5_1
    rotate_left
    ·rw [if_neg c4] at H
     exact absurd H (by simp)
    rw [if_pos c4] at H
    have c4b0 : decide (0 ≤ x5_1) = true := decide_eq_true c4
    clear c4
    by_cases c5 : (rd l0 x5_1) = a1
    ·rw [if_pos c5] at H
     have c5b0 : ((rd l0 x5_1) == a1) = true := beq_iff_eq.mpr c5
     have c5b1 : ((rd l0 x5_1) != a1) = false := bne_eq_false_iff_eq.mpr c5
     clear c5
     obtain rfl := Option.some.inj H
     have p370 : 0 ≤ (x5_1 : Int) := oD
     have q370 : x5_1 < (l0.length : Int) := oD
     obtain ⟨ad370, e370, hx370_0⟩ := Kd.at_int HR0.out x5_1 p370 q370
     cases e370
     replace p370 := eq_true p370
     replace q370 := eq_true q370
     go_wp2
     go_ret
     exact ⟨by first | rfl | (simp; done) | (simp [*]; done), by repeat (first | exact Drawn0.refl _ | apply Drawn0.step)⟩
    ·rw [if_neg c5] at H
     have c5b0 : ((rd l0 x5_1) == a1) = false := beq_eq_false_iff_ne.mpr c5
     have c5b1 : ((rd l0 x5_1) != a1) = true := bne_iff_ne.mpr c5
     have H' := Aside0.mk H
     clear H
     have p370 : 0 ≤ (x5_1 : Int) := oD
     have q370 : x5_1 < (l0.length : Int) := oD
     obtain ⟨ad370, e370, hx370_0⟩ := Kd.at_int HR0.out x5_1 p370 q370
     cases e370
     replace p370 := eq_true p370
     replace q370 := eq_true q370
     go_wp2
     go_roundg k1
     case measure => have := HK1.out; omega
     case rel => exact ⟨(wrap64 (x5_1 + 1)), rS, H', ⟨by have := HK1.out; omega⟩, by repeat (first | exact Drawn0.refl _ | apply Drawn0.step)⟩
   ·rw [if_neg c3] at H
    have c3b0 : decide (x5_1 < (l0.length : Int)) = false := decide_eq_false c3
    clear c3
    obtain rfl := Option.some.inj H
    go_wp2
    go_ret
    exact ⟨by first | rfl | (simp; done) | (simp [*]; done), by repeat (first | exact Drawn0.refl _ | apply Drawn0.step)⟩
end Go.Proofs.Ytlldjinejckbaaa.PD

end
