/- The law DigraphOrders of package digraph holds for every input: what it is called with is opened, the printed text of the law and its plain proof are joined. (Part 5 of 5 of its proof.) -/
import Derived.Lib.SmallJoins
import Derived.Deep.Slices
import Derived.OpenShut
import Derived.WideKeyArr2
import Derived.Test.YtlldjinejckbaaaRows
import Derived.WalkKit
import Derived.ProofKit
import Derived.ShutString
import Derived.ChangeOld
import Derived.Below
import Derived.SizedLaws
import Derived.Test.YtlldjinejckbaaaZ03
set_option linter.unusedVariables false
set_option linter.unusedSimpArgs false
section
namespace Go.Proofs.Ytlldjinejckbaaa.PD
open Go Go.RowKit Go.Proofs.YtlldjinejckbaaaW.PrintWords Go.Proofs.YtlldjinejckbaaaW.PrintLast Go.Proofs.YtlldjinejckbaaaW.PrintMore
open Go.Proofs.Ytlldjinejckbaaa.Pg Go.Proofs.Ytlldjinejckbaaa.Pe
theorem ex_order1 : wireloomlaw05_order.f 4 g1 = some ([1, 2, 0, 3], 0) := by unfold wireloomlaw05_order.f digraph_Order.f; rw [if_pos (by decide), show (4 : Int).toNat = 4 from rfl, o1]; rfl
theorem ex_order2 : wireloomlaw05_order.f 4 g2 = some ([], 50) := by unfold wireloomlaw05_order.f digraph_Order.f; rw [if_pos (by decide), show (4 : Int).toNat = 4 from rfl, o2]; rfl
theorem ex_order0 : wireloomlaw05_order.f 0 [] = some ([], 0) := by unfold wireloomlaw05_order.f digraph_Order.f; rw [if_pos (by decide), show (0 : Int).toNat = 0 from rfl, o0]; rfl
theorem ex_depth1 : wireloomlaw05_depth.f 4 g1 = some ([1, 0, 0, 2], 0) := by unfold wireloomlaw05_depth.f digraph_Depth.f; rw [if_pos (by decide), show (4 : Int).toNat = 4 from rfl, d1]; rfl
theorem ex_depth2 : wireloomlaw05_depth.f 4 g2 = some ([], 50) := by unfold wireloomlaw05_depth.f digraph_Depth.f; rw [if_pos (by decide), show (4 : Int).toNat = 4 from rfl, d2]; rfl
theorem ex_cycle1 : wireloomlaw05_cycle.f 4 g1 = some ([], 4) := by unfold wireloomlaw05_cycle.f digraph_Cycle.f; rw [if_pos (by decide), show (4 : Int).toNat = 4 from rfl, c1]; rfl
theorem ex_cycle2 : wireloomlaw05_cycle.f 4 g2 = some ([0, 3, 2], 0) := by unfold wireloomlaw05_cycle.f digraph_Cycle.f; rw [if_pos (by decide), show (4 : Int).toNat = 4 from rfl, c2]; rfl
theorem ex_cycle3 : wireloomlaw05_cycle.f 4 g3 = some ([1], 0) := by unfold wireloomlaw05_cycle.f digraph_Cycle.f; rw [if_pos (by decide), show (4 : Int).toNat = 4 from rfl, c3]; rfl
theorem ex_reach1 : digraph_Reach.f 4 g1 2 = some [0, 2, 3] := by unfold digraph_Reach.f; rw [if_pos (by decide), show (4 : Int).toNat = 4 from rfl, r1]
theorem ex_reach2 : digraph_Reach.f 4 g1 4 = some [] := by unfold digraph_Reach.f; rw [if_pos (by decide), show (4 : Int).toNat = 4 from rfl, r2]
theorem ex_comps : digraph_Components.f 4 g2 = some [[0, 2, 3], [1]] := by unfold digraph_Components.f; rw [if_pos (by decide), show (4 : Int).toNat = 4 from rfl, k1]
theorem ex_check1 : digraph_Check.f 4 g1 [2, 0, 1, 3] = some 0 := by unfold digraph_Check.f; rw [if_pos (by decide), show (4 : Int).toNat = 4 from rfl, ch1]
theorem ex_check2 : digraph_Check.f 4 g1 [0, 1, 2, 3] = some 6 := by unfold digraph_Check.f; rw [if_pos (by decide), show (4 : Int).toNat = 4 from rfl, ch2]
theorem ex_with1 : wireloomref05_With.f 4 g1 3 2 = some (4, g2) := by kernel_rfl
theorem ex_with2 : wireloomref05_With.f 4 g1 1 1 = some (4, g3) := by kernel_rfl
theorem ex_valid1 : digraph_Valid.f 20 4 g1 = some true := by kernel_rfl
theorem ex_valid2 : digraph_Valid.f 20 3 g1 = some false := by kernel_rfl
theorem examples_at : wireloomlaw05_examples.f 22 = some true := by
 unfold wireloomlaw05_examples.f
 simp only [Option.bind_some]
 rw [ex_with1, Option.bind_some, ex_with2, Option.bind_some, ex_order1, Option.bind_some]
 rw [show wireloomref05_Alike.f 22 [1, 2, 0, 3] 0 [1, 2, 0, 3] 0 = some true from by kernel_rfl, Option.bind_some, if_pos rfl, ex_depth1, Option.bind_some]
 rw [show wireloomref05_Alike.f 22 [1, 0, 0, 2] 0 [1, 0, 0, 2] 0 = some true from by kernel_rfl, Option.bind_some, if_pos rfl, ex_reach1, Option.bind_some]
 rw [show wireloomref05_Same.f 22 [0, 2, 3] [0, 2, 3] = some true from by kernel_rfl, Option.bind_some, if_pos rfl, ex_cycle1, Option.bind_some]
 show wireloomlaw05_examples.j0 (21 + 1) false 4 g1 4 g2 4 g3 = some true
 simp only [wireloomlaw05_examples.j0]
 rw [if_neg (by decide), ex_order2, Option.bind_some, if_pos rfl, ex_depth2, Option.bind_some, if_pos rfl, ex_cycle2, Option.bind_some]
 rw [show wireloomref05_Alike.f 21 [0, 3, 2] 0 [0, 3, 2] 0 = some true from by kernel_rfl, Option.bind_some, if_pos rfl, ex_cycle3, Option.bind_some]
 rw [show wireloomref05_Alike.f 21 [1] 0 [1] 0 = some true from by kernel_rfl, Option.bind_some, if_pos rfl, ex_comps, Option.bind_some]
 rw [show wireloomref05_SameLists.f 21 [[0, 2, 3], [1]] [[0, 2, 3], [1]] = some true from by kernel_rfl, Option.bind_some]
 show wireloomlaw05_examples.j1 (20 + 1) false 4 g1 = some true
 simp only [wireloomlaw05_examples.j1]
 rw [if_neg (by decide), ex_valid1, Option.bind_some, if_pos rfl, ex_valid2, Option.bind_some, if_neg (by decide), ex_check1, Option.bind_some, if_pos rfl, ex_check2, Option.bind_some, if_pos rfl, ex_order0, Option.bind_some, if_pos rfl, ex_reach2, Option.bind_some]
 rfl
theorem examples_ev : Ev (fun k => wireloomlaw05_examples.f k) true := Ev.of wireloomlaw05_examples.mono examples_at
theorem wrap_ok {x : Int} (h0 : -1000000 ≤ x) (h1 : x ≤ 1000000) : wrap64 x = x := by unfold wrap64; omega
theorem rd_bound {B : List Int} (hB : ∀ x ∈ B, 0 ≤ x ∧ x ≤ 255) {i : Int} (h0 : 0 ≤ i) (h1 : i < (B.length : Int)) : 0 ≤ rd B i ∧ rd B i ≤ 255 := by
 apply hB
 unfold rd
 rw [List.getD_eq_getElem?_getD, List.getElem?_eq_getElem (by omega)]
 exact List.getElem_mem _
theorem ok_add {n : Nat} {l : List S55} (h : Ok n l) {u v : Int} (h0 : 0 ≤ u) (h1 : u < n) (h2 : 0 ≤ v) (h3 : v < n) : Ok n (l ++ [⟨u, v⟩]) := fun e he => by
 rcases List.mem_append.1 he with he | he
 ·exact h e he
 ·rw [List.mem_singleton] at he; subst he; exact ⟨h0, h1, h2, h3⟩
theorem made_loop {n : Nat} (hn : n ≤ 12) (a b : Int) (hb0 : 0 ≤ b) {B : List Int} (hB : ∀ x ∈ B, 0 ≤ x ∧ x ≤ 255) : ∀ (d j : Nat) (l : List S55), j + d = 30 → l.length ≤ j → Ok n l →
  ∃ lf, Ev (fun k => wireloomref05_Made.l0 k n (2 * (j : Int)) a b B n l) ((n : Int), lf) ∧ Ok n lf ∧ lf.length ≤ 30 := by
 intro d
 induction d with
 | zero =>
  intro j l hj hl hok
  refine ⟨l, ?_, hok, by omega⟩
  obtain rfl : j = 30 := by omega
  have hend : Ev (fun k => wireloomref05_Made.j1 k n (2 * ((30 : Nat) : Int)) false a b B n l) ((n : Int), l) := Ev.step (f := fun _ => some ((n : Int), l)) (fun k => by simp only [wireloomref05_Made.j1]; rw [if_neg (by decide)]) (Ev.now _)
  refine Ev.step (f := fun k => wireloomref05_Made.j1 k n (2 * ((30 : Nat) : Int)) false a b B n l) (fun k => ?_) hend
  simp only [wireloomref05_Made.l0]
  split
  ·rw [if_neg (by omega)]
  ·rfl
 | succ d ih =>
  intro j l hj hl hok
  have hi : (0 : Int) ≤ 2 * (j : Int) ∧ 2 * (j : Int) ≤ 58 := by omega
  have w1 : wrap64 (2 * (j : Int) + 1) = 2 * (j : Int) + 1 := wrap_ok (by omega) (by omega)
  have w2 : wrap64 (2 * (j : Int) + 2) = 2 * ((j + 1 : Nat) : Int) := by rw [wrap_ok (by omega) (by omega)]; omega
  have hend : Ev (fun k => wireloomref05_Made.j1 k n (2 * (j : Int)) false a b B n l) ((n : Int), l) := Ev.step (f := fun _ => some ((n : Int), l)) (fun k => by simp only [wireloomref05_Made.j1]; rw [if_neg (by decide)]) (Ev.now _)
  by_cases hc : 2 * (j : Int) + 1 < (B.length : Int) ∧ 0 < n
  ·obtain ⟨hc1, hc2⟩ := hc
   obtain ⟨r0, r1⟩ := rd_bound hB (i := 2 * (j : Int)) (by omega) (by omega)
   obtain ⟨s0, s1⟩ := rd_bound hB (i := 2 * (j : Int) + 1) (by omega) (by omega)
   have wr : wrap64 (rd B (2 * (j : Int))) = rd B (2 * (j : Int)) := wrap_ok (by omega) (by omega)
   have ws : wrap64 (rd B (2 * (j : Int) + 1)) = rd B (2 * (j : Int) + 1) := wrap_ok (by omega) (by omega)
   obtain ⟨v, hv⟩ : ∃ v, v = Int.tmod (rd B (2 * (j : Int))) n := ⟨_, rfl⟩
   obtain ⟨u, hu⟩ : ∃ u, u = Int.tmod (rd B (2 * (j : Int) + 1)) n := ⟨_, rfl⟩
   have v0 : 0 ≤ v := by rw [hv]; exact Int.tmod_nonneg _ r0
   have v1 : v < n := by rw [hv]; exact Int.tmod_lt_of_pos _ (by omega)
   have u0 : 0 ≤ u := by rw [hu]; exact Int.tmod_nonneg _ s0
   have u1 : u < n := by rw [hu]; exact Int.tmod_lt_of_pos _ (by omega)
   have hlt : l.length < 8796093022208 := by omega
   have next : ∀ l', l'.length ≤ j + 1 → Ok n l' → ∃ lf, Ev (fun k => wireloomref05_Made.l0 k n (wrap64 (2 * (j : Int) + 2)) a b B n l') ((n : Int), lf) ∧ Ok n lf ∧ lf.length ≤ 30 := fun l' h1 h2 => by
    rw [w2]; exact ih (j + 1) l' (by omega) h1 h2
   have swapped : ∀ x y : Int, 0 ≤ x → x < n → 0 ≤ y → y < n → ∃ lf, Ev (fun k => wireloomref05_Made.j2 k n (2 * (j : Int)) x y a b B n l) ((n : Int), lf) ∧ Ok n lf ∧ lf.length ≤ 30 := fun x y x0 x1 y0 y1 => by
    by_cases h4 : Int.tmod b 4 = 2
    ·by_cases h5 : Int.tmod (n : Int) 5 = 0
     ·obtain ⟨lf, e, o, q⟩ := next l (by omega) hok
      refine ⟨lf, Ev.step (fun k => ?_) e, o, q⟩
      simp only [wireloomref05_Made.j2]
      rw [if_pos h4, if_neg (by omega), if_pos h5]
     ·have wx : wrap64 (wrap64 (5 * x) + 3) = 5 * x + 3 := by rw [wrap_ok (x := 5 * x) (by omega) (by omega), wrap_ok (by omega) (by omega)]
      have wy : wrap64 (wrap64 (5 * y) + 3) = 5 * y + 3 := by rw [wrap_ok (x := 5 * y) (by omega) (by omega), wrap_ok (by omega) (by omega)]
      obtain ⟨lf, e, o, q⟩ := next (l ++ [⟨Int.tmod (5 * x + 3) n, Int.tmod (5 * y + 3) n⟩]) (by simp; omega) (ok_add hok (Int.tmod_nonneg _ (by omega)) (Int.tmod_lt_of_pos _ (by omega)) (Int.tmod_nonneg _ (by omega)) (Int.tmod_lt_of_pos _ (by omega)))
      refine ⟨lf, Ev.step (fun k => ?_) e, o, q⟩
      simp only [wireloomref05_Made.j2]
      rw [if_pos h4, if_neg (by omega), if_neg h5, if_pos hlt, wx, wy]
    ·obtain ⟨lf, e, o, q⟩ := next (l ++ [⟨x, y⟩]) (by simp; omega) (ok_add hok x0 x1 y0 y1)
     refine ⟨lf, Ev.step (fun k => ?_) e, o, q⟩
     simp only [wireloomref05_Made.j2]
     rw [if_neg h4]
     split <;> first | rfl | rw [if_pos hlt]
   have body : ∃ lf, Ev (fun k => wireloomref05_Made.j1 k n (2 * (j : Int)) true a b B n l) ((n : Int), lf) ∧ Ok n lf ∧ lf.length ≤ 30 := by
    have e0 : ∀ k, wireloomref05_Made.j1 (k + 1) n (2 * (j : Int)) true a b B n l = (if (Int.tmod b 2) = 0 then (if v = u then (wireloomref05_Made.l0 k n (wrap64 (2 * (j : Int) + 2)) a b B n l) else (if v > u then (wireloomref05_Made.j2 k n (2 * (j : Int)) u v a b B n l) else (wireloomref05_Made.j2 k n (2 * (j : Int)) v u a b B n l))) else (wireloomref05_Made.l0 k n (wrap64 (2 * (j : Int) + 2)) a b B n (l ++ [⟨v, u⟩]))) := fun k => by
     simp only [wireloomref05_Made.j1]
     rw [if_pos (by first | rfl | trivial), if_pos (by omega), if_pos (by omega), if_neg (by omega), w1, if_pos (by omega), if_pos (by omega), if_pos hlt, wr, ws, ← hv, ← hu]
    by_cases h2 : Int.tmod b 2 = 0
    ·by_cases hvu : v = u
     ·obtain ⟨lf, e, o, q⟩ := next l (by omega) hok
      exact ⟨lf, Ev.step (fun k => by rw [e0, if_pos h2, if_pos hvu]) e, o, q⟩
     ·by_cases hgt : v > u
      ·obtain ⟨lf, e, o, q⟩ := swapped u v u0 u1 v0 v1
       exact ⟨lf, Ev.step (fun k => by rw [e0, if_pos h2, if_neg hvu, if_pos hgt]) e, o, q⟩
      ·obtain ⟨lf, e, o, q⟩ := swapped v u v0 v1 u0 u1
       exact ⟨lf, Ev.step (fun k => by rw [e0, if_pos h2, if_neg hvu, if_neg hgt]) e, o, q⟩
    ·obtain ⟨lf, e, o, q⟩ := next (l ++ [⟨v, u⟩]) (by simp; omega) (ok_add hok v0 v1 u0 u1)
     exact ⟨lf, Ev.step (fun k => by rw [e0, if_neg h2]) e, o, q⟩
   obtain ⟨lf, e, o, q⟩ := body
   refine ⟨lf, Ev.step (fun k => ?_) e, o, q⟩
   simp only [wireloomref05_Made.l0]
   rw [w1, if_pos hc1, if_pos (by omega), decide_eq_true (by omega)]
  ·refine ⟨l, Ev.step (fun k => ?_) hend, hok, by omega⟩
   simp only [wireloomref05_Made.l0]
   rw [w1]
   by_cases h1 : 2 * (j : Int) + 1 < (B.length : Int)
   ·rw [if_pos h1, if_pos (by omega), decide_eq_false (by omega)]
   ·rw [if_neg h1]
theorem made_spec (a b : Int) (ha : 0 ≤ a) (hb : 0 ≤ b) {B : List Int} (hB : ∀ x ∈ B, 0 ≤ x ∧ x ≤ 255) : ∃ (n : Nat) (l : List S55), Ev (fun k => wireloomref05_Made.f k a b B) ((n : Int), l) ∧ n ≤ 12 ∧ Ok n l ∧ l.length ≤ 30 := by
 obtain ⟨n, hn⟩ : ∃ n : Nat, Int.tmod a 13 = n := ⟨(Int.tmod a 13).toNat, by have := Int.tmod_nonneg 13 ha; omega⟩
 have hn2 : n ≤ 12 := by have := Int.tmod_lt_of_pos a (b := 13) (by omega); omega
 have w : wrap64 (Int.tmod a 13) = n := by rw [hn]; exact wrap_ok (by omega) (by omega)
 obtain ⟨lf, e, o, q⟩ := made_loop hn2 a b hb hB 30 0 [] (by omega) (by simp) (fun e he => by simp at he)
 refine ⟨n, lf, Ev.congr (fun k => ?_) e, hn2, o, q⟩
 unfold wireloomref05_Made.f
 rw [w]
 rfl
end Go.Proofs.Ytlldjinejckbaaa.PD

end
section
namespace Go.Proofs.Ytlldjinejckbaaa.PD
open Go.RowKit Go.Proofs.YtlldjinejckbaaaW.PrintWords Go.Proofs.YtlldjinejckbaaaW.PrintLast Go.Proofs.YtlldjinejckbaaaW.PrintMore
attribute [local go_sem] max2_int min2_int max_two min_two max_three min_three max_four min_four
set_option linter.unusedVariables false
set_option linter.unusedSimpArgs false
end Go.Proofs.Ytlldjinejckbaaa.PD

end
section
namespace Go.Proofs.Ytlldjinejckbaaa.PD
open Go Go.RowKit Go.Proofs.YtlldjinejckbaaaW.PrintWords Go.Proofs.YtlldjinejckbaaaW.PrintLast Go.Proofs.YtlldjinejckbaaaW.PrintMore
open Go.Proofs.Ytlldjinejckbaaa.Pg Go.Proofs.Ytlldjinejckbaaa.Pb
theorem ok_condW {n : Nat} (hn : n ≤ 12) {l : List S55} (hl : Ok n l) (hlen : l.length ≤ 1000) : 0 ≤ (n : Int) ∧ (n : Int) ≤ 1000 ∧ l.length ≤ 10000 ∧ ∀ e ∈ l, 0 ≤ e.f0 ∧ e.f0 < (n : Int) ∧ 0 ≤ e.f1 ∧ e.f1 < (n : Int) := ⟨by omega, by omega, by omega, hl⟩
theorem rdT_getW {l : List S55} {i : Nat} (h : i < l.length) : rd_T55 l (i : Int) = l[i] := by
 unfold rd_T55
 rw [Int.toNat_natCast, List.getD_eq_getElem?_getD, List.getElem?_eq_getElem h]
 rfl
theorem wrap_nextW {i : Nat} (h : i ≤ 100000) : wrap64 ((i : Int) + 1) = ((i + 1 : Nat) : Int) := by rw [wrap_ok (by omega) (by omega)]; omega
theorem edge_go {l : List S55} (hlen : l.length ≤ 1000) (u v : Int) : ∀ (d i : Nat), i + d = l.length → ∀ r : Bool, (r = true ↔ E (l.drop i) u v) → Ev (fun k => wireloomlaw05_edge.l0 k l u v i) r := by
 intro d
 induction d with
 | zero =>
  intro i hi r hr
  obtain rfl : i = l.length := by omega
  rw [List.drop_length] at hr
  have : r = false := by
   cases r
   ·rfl
   ·obtain ⟨e, he, _⟩ := hr.1 rfl
    simp at he
  subst this
  refine Ev.step (f := fun _ => some false) (fun k => ?_) (Ev.now _)
  simp only [wireloomlaw05_edge.l0]
  rw [if_neg (by omega)]
 | succ d ih =>
  intro i hi r hr
  have hil : i < l.length := by omega
  have e : l.drop i = l[i] :: l.drop (i + 1) := List.drop_eq_getElem_cons hil
  by_cases hc : l[i].f0 = u ∧ l[i].f1 = v
  ·have : r = true := hr.2 ⟨l[i], by rw [e]; exact List.mem_cons_self, hc⟩
   subst this
   refine Ev.step (f := fun _ => some true) (fun k => ?_) (Ev.now _)
   simp only [wireloomlaw05_edge.l0]
   rw [if_pos (Int.ofNat_lt.2 hil), if_pos (Int.natCast_nonneg i), rdT_getW hil, if_pos hc.1, if_pos hc.2]
  ·refine Ev.step (fun k => ?_) (ih (i + 1) (by omega) r (by
    rw [hr, e]
    constructor
    ·rintro ⟨x, hx, hx2⟩
     rcases List.mem_cons.1 hx with hx | hx
     ·subst hx; exact absurd hx2 hc
     ·exact ⟨x, hx, hx2⟩
    ·rintro ⟨x, hx, hx2⟩; exact ⟨x, List.mem_cons_of_mem _ hx, hx2⟩))
   simp only [wireloomlaw05_edge.l0]
   rw [if_pos (Int.ofNat_lt.2 hil), if_pos (Int.natCast_nonneg i), rdT_getW hil, wrap_nextW (by omega)]
   by_cases h0 : l[i].f0 = u
   ·rw [if_pos h0, if_neg (fun h1 => hc ⟨h0, h1⟩)]
   ·rw [if_neg h0]
theorem edge_ev {l : List S55} (hlen : l.length ≤ 1000) (u v : Int) {r : Bool} (hr : r = true ↔ E l u v) : Ev (fun k => wireloomlaw05_edge.f k l u v) r := edge_go hlen u v l.length 0 (by omega) r (by simpa using hr)
theorem cycle_atW {n : Nat} (hn : n ≤ 12) {l : List S55} (hl : Ok n l) (hlen : l.length ≤ 1000) : wireloomlaw05_cycle.f n l = Cy.cycleOf n l := by
 unfold wireloomlaw05_cycle.f digraph_Cycle.f
 rw [if_pos (ok_condW hn hl hlen), Int.toNat_natCast]
 cases Cy.cycleOf n l <;> rfl
end Go.Proofs.Ytlldjinejckbaaa.PD

end
section
namespace Go.Proofs.Ytlldjinejckbaaa.PD
open Go.RowKit Go.Proofs.YtlldjinejckbaaaW.PrintWords Go.Proofs.YtlldjinejckbaaaW.PrintLast Go.Proofs.YtlldjinejckbaaaW.PrintMore
attribute [local go_sem] max2_int min2_int max_two min_two max_three min_three max_four min_four
set_option linter.unusedVariables false
set_option linter.unusedSimpArgs false
end Go.Proofs.Ytlldjinejckbaaa.PD

end
section
namespace Go.Proofs.Ytlldjinejckbaaa.PD
open Go Go.RowKit Go.Proofs.YtlldjinejckbaaaW.PrintWords Go.Proofs.YtlldjinejckbaaaW.PrintLast Go.Proofs.YtlldjinejckbaaaW.PrintMore
open Go.Proofs.Ytlldjinejckbaaa.Pg Go.Proofs.Ytlldjinejckbaaa.Pb Go.Proofs.Ytlldjinejckbaaa.Pf
structure ReachS (n : Nat) (l : List S55) (s : Int) (L : List Int) : Prop where
 lt : L.Pairwise (· < ·)
 mem : ∀ v, v ∈ L ↔ ∃ k, Pa (E l) k s v
 rng : ∀ v ∈ L, 0 ≤ v ∧ v < (n : Int)
 len : L.length ≤ n
end Go.Proofs.Ytlldjinejckbaaa.PD

end
section
namespace Go.Proofs.Ytlldjinejckbaaa.PD
open Go Go.RowKit Go.Proofs.YtlldjinejckbaaaW.PrintWords Go.Proofs.YtlldjinejckbaaaW.PrintLast Go.Proofs.YtlldjinejckbaaaW.PrintMore
open Go.Proofs.Ytlldjinejckbaaa.Pg Go.Proofs.Ytlldjinejckbaaa.Pb Go.Proofs.Ytlldjinejckbaaa.Po Go.Proofs.Ytlldjinejckbaaa.Ph Go.Proofs.Ytlldjinejckbaaa.Pc
theorem order_atH {n : Nat} (hn : n ≤ 12) {l : List S55} (hl : Ok n l) (hlen : l.length ≤ 1000) : wireloomlaw05_order.f n l = Od.orderOf n l := by
 unfold wireloomlaw05_order.f digraph_Order.f
 rw [if_pos (ok_condW hn hl hlen), Int.toNat_natCast]
 cases Od.orderOf n l <;> rfl
theorem check_atH {n : Nat} (hn : n ≤ 12) {l : List S55} (hl : Ok n l) (hlen : l.length ≤ 1000) {s : List Int} (hs : s.length ≤ 1000) : digraph_Check.f n l s = some (Ck.checkOf n l s) := by
 unfold digraph_Check.f
 rw [if_pos ⟨ok_condW hn hl hlen, by omega⟩, Int.toNat_natCast]
theorem ord_l2 {n : Nat} (hn : n ≤ 12) {l : List S55} (hlen : l.length ≤ 30) {o : List Int} (hol : o.length = n) (z : Int) (i j : Nat) (hj : j < n) (h : Ev (fun k => wireloomlaw05_DigraphOrders.l1 k z true i ((j + 1 : Nat) : Int) n l o 0) true) :
  ∀ (d m : Nat) (b : Bool), m + d = n → (b = true ∨ ∃ m', m ≤ m' ∧ m' < n ∧ E l (rd o (m' : Int)) (rd o (j : Int))) → Ev (fun k => wireloomlaw05_DigraphOrders.l2 k z true i j b m n l o 0) true := by
 intro d
 induction d with
 | zero =>
  intro m b hm hb
  have hb : b = true := hb.resolve_right (fun ⟨m', h1, h2, _⟩ => by omega)
  subst hb
  refine Ev.step (fun k => ?_) h
  simp only [wireloomlaw05_DigraphOrders.l2]
  rw [if_neg (by omega), if_pos trivial, wrap_nextW (by omega)]
 | succ d ih =>
  intro m b hm hb
  cases b with
  | true =>
   refine Ev.step (fun k => ?_) (ih (m + 1) true (by omega) (.inl rfl))
   simp only [wireloomlaw05_DigraphOrders.l2]
   rw [if_pos (by omega), if_pos trivial, wrap_nextW (by omega)]
  | false =>
   have hb := hb.resolve_left (by simp)
   have hdec : ∃ r : Bool, (r = true ↔ E l (rd o (m : Int)) (rd o (j : Int))) := by
    by_cases hc : E l (rd o (m : Int)) (rd o (j : Int))
    ·exact ⟨true, fun _ => hc, fun _ => rfl⟩
    ·exact ⟨false, fun h => by simp at h, fun h => absurd h hc⟩
   obtain ⟨r, hr⟩ := hdec
   have hnext : r = true ∨ ∃ m', m + 1 ≤ m' ∧ m' < n ∧ E l (rd o (m' : Int)) (rd o (j : Int)) := by
    obtain ⟨m', h1, h2, h3⟩ := hb
    by_cases e : m' = m
    ·subst e; exact .inl (hr.2 h3)
    ·exact .inr ⟨m', by omega, h2, h3⟩
   refine Ev.step (f := fun k => (wireloomlaw05_edge.f k l (rd o m) (rd o j)).bind fun t479 => wireloomlaw05_DigraphOrders.l2 k z true i j t479 ((m + 1 : Nat) : Int) n l o 0) (fun k => ?_) (Ev.bind (edge_ev (by omega) _ _ hr) (ih (m + 1) r (by omega) hnext))
   simp only [wireloomlaw05_DigraphOrders.l2]
   rw [if_pos (by omega), if_neg (by decide), if_pos (by omega), if_pos (by omega), if_pos (by omega), if_pos (by omega), wrap_nextW (by omega)]
theorem ord_l1 {n : Nat} (hn : n ≤ 12) {l : List S55} (hl : Ok n l) (hlen : l.length ≤ 30) {o : List Int} (hg : Greedy n l o) (hol : o.length = n) (z : Int) (i : Nat) (hi : i < n) (h : Ev (fun k => wireloomlaw05_DigraphOrders.l0 k z true ((i + 1 : Nat) : Int) n l o 0) true) :
  ∀ (d j : Nat), j + d = n → i < j → Ev (fun k => wireloomlaw05_DigraphOrders.l1 k z true i j n l o 0) true := by
 intro d
 induction d with
 | zero =>
  intro j hj hij
  refine Ev.step (fun k => ?_) h
  simp only [wireloomlaw05_DigraphOrders.l1]
  rw [if_neg (by omega), wrap_nextW (by omega)]
 | succ d ih =>
  intro j hj hij
  have h1 := ih (j + 1) (by omega) (by omega)
  by_cases hc : rd o (j : Int) > rd o (i : Int)
  ·refine Ev.step (fun k => ?_) h1
   simp only [wireloomlaw05_DigraphOrders.l1]
   rw [if_pos (by omega), if_pos (by omega), if_pos (by omega), if_pos (by omega), if_pos (by omega), if_pos hc, wrap_nextW (by omega)]
  ·have hne : rd o (j : Int) ≠ rd o (i : Int) := fun e => by
    rw [rd_get (by omega), rd_get (by omega)] at e
    exact List.pairwise_iff_getElem.1 (List.nodup_iff_pairwise_ne.1 hg.nodup) i j (by omega) (by omega) hij e.symm
   have hex : ∃ m', i ≤ m' ∧ m' < n ∧ E l (rd o (m' : Int)) (rd o (j : Int)) := Classical.byContradiction fun hno => by
    have hm := rd_mem (l := o) (k := j) (by omega)
    obtain ⟨r0, r1⟩ := hg.range _ hm
    have hav : Avail n l (o.take i) (rd o (j : Int)) := by
     refine ⟨r0, r1, fun hin => ?_, fun u hu => Classical.byContradiction fun hnu => ?_⟩
     ·rw [List.mem_iff_getElem] at hin
      obtain ⟨k, hk, e⟩ := hin
      rw [List.length_take] at hk
      rw [List.getElem_take, rd_get (by omega)] at e
      exact List.pairwise_iff_getElem.1 (List.nodup_iff_pairwise_ne.1 hg.nodup) k j (by omega) (by omega) (by omega) e
     ·obtain ⟨m', hm', rfl⟩ := full_mem hg hol (hu.ok hl).1 (hu.ok hl).2.1
      refine hno ⟨m', ?_, by omega, hu⟩
      refine Classical.byContradiction fun hlt => hnu ?_
      rw [rd_get hm']
      exact List.mem_iff_getElem.2 ⟨m', by rw [List.length_take]; omega, by rw [List.getElem_take]⟩
    have := (hg i (by omega)).2 _ hav
    omega
   refine Ev.step (fun k => ?_) (ord_l2 hn hlen hol z i j (by omega) h1 (n - i) i false (by omega) (.inr hex))
   simp only [wireloomlaw05_DigraphOrders.l1]
   rw [if_pos (by omega), if_pos (by omega), if_pos (by omega), if_pos (by omega), if_pos (by omega), if_neg hc]
theorem swap_rd {o : List Int} {a : Nat} (ha : a + 1 < o.length) (i : Nat) : rd ((o.set a (rd o ((a + 1 : Nat) : Int))).set (a + 1) (rd o (a : Int))) (i : Int) = rd o ((if i = a then a + 1 else if i = a + 1 then a else i : Nat) : Int) := by
 unfold rd
 rw [List.getD_eq_getElem?_getD, List.getD_eq_getElem?_getD]
 simp only [Int.toNat_natCast, List.getElem?_set, List.length_set]
 by_cases h1 : i = a + 1
 ·subst h1
  rw [if_pos rfl, if_pos ha, if_neg (by omega), if_pos rfl, List.getD_eq_getElem?_getD, List.getElem?_eq_getElem (by omega)]; rfl
 ·rw [if_neg (by omega)]
  by_cases h2 : i = a
  ·subst h2
   rw [if_pos rfl, if_pos (by omega), if_pos rfl, List.getD_eq_getElem?_getD, List.getElem?_eq_getElem ha]; rfl
  ·rw [if_neg (by omega), if_neg h2, if_neg h1, List.getD_eq_getElem?_getD]
theorem check_swap {n : Nat} (hn : n ≤ 12) {l : List S55} (hl : Ok n l) {o : List Int} (hg : Greedy n l o) (hol : o.length = n) {a : Nat} (ha : a + 1 < n) :
  Ck.checkOf n l ((o.set a (rd o ((a + 1 : Nat) : Int))).set (a + 1) (rd o (a : Int))) = 0 ↔ ¬ E l (rd o (a : Int)) (rd o ((a + 1 : Nat) : Int)) := by
 obtain ⟨s, hs⟩ : ∃ s, s = (o.set a (rd o ((a + 1 : Nat) : Int))).set (a + 1) (rd o (a : Int)) := ⟨_, rfl⟩
 have hrd : ∀ i : Nat, rd s (i : Int) = rd o ((if i = a then a + 1 else if i = a + 1 then a else i : Nat) : Int) := fun i => by rw [hs]; exact swap_rd (by omega) i
 have hsl : s.length = n := by rw [hs, List.length_set, List.length_set, hol]
 have hsig : ∀ i, i < n → (if i = a then a + 1 else if i = a + 1 then a else i) < n := fun i hi => by split <;> (try split) <;> omega
 have hinj : ∀ i j : Nat, i < n → j < n → i < j → rd s (i : Int) ≠ rd s (j : Int) := fun i j hi hj hij e => by
  rw [hrd, hrd, rd_get (by rw [hol]; exact hsig i hi), rd_get (by rw [hol]; exact hsig j hj)] at e
  have hp := List.pairwise_iff_getElem.1 (List.nodup_iff_pairwise_ne.1 hg.nodup)
  have hne : (if i = a then a + 1 else if i = a + 1 then a else i) ≠ (if j = a then a + 1 else if j = a + 1 then a else j) := by (repeat' split) <;> omega
  rcases Nat.lt_or_gt_of_ne hne with h | h
  ·exact hp _ _ (by rw [hol]; exact hsig i hi) (by rw [hol]; exact hsig j hj) h e
  ·exact hp _ _ (by rw [hol]; exact hsig j hj) (by rw [hol]; exact hsig i hi) h e.symm
 have hnd : s.Nodup := by
  rw [List.nodup_iff_pairwise_ne, List.pairwise_iff_getElem]
  intro i j hi hj hij e
  rw [← rd_get hi, ← rd_get hj] at e
  exact hinj i j (by omega) (by omega) hij e
 have hrg : ∀ v ∈ s, 0 ≤ v ∧ v < (n : Int) := fun v hv => by
  obtain ⟨i, hi, e⟩ := List.getElem_of_mem hv
  rw [← rd_get hi, hrd] at e
  rw [← e]
  exact hg.range _ (rd_mem (by rw [hol]; exact hsig i (by omega)))
 obtain ⟨_, _, _, hiff⟩ := check_spec (n := n) (by omega) hl hnd hrg hsl
 rw [← hs, hiff]
 constructor
 ·intro h he
  have := h (a + 1) a ha (by omega) (by rw [hrd, hrd, if_neg (by omega), if_pos rfl, if_pos rfl]; exact he)
  omega
 ·intro hne i j hi hj he
  rw [hrd, hrd] at he
  have h1 := pos_lt hg (by rw [hol]; exact hsig i hi) (by rw [hol]; exact hsig j hj) he
  refine Classical.byContradiction fun hij => ?_
  have : i = a + 1 ∧ j = a := by
   revert h1
   (repeat' split) <;> omega
  obtain ⟨rfl, rfl⟩ := this
  rw [if_neg (by omega), if_pos rfl, if_pos rfl] at he
  exact hne he
theorem check_drop {n : Nat} (hn : n ≤ 12) (l : List S55) {o : List Int} (hol : o.length = n) (hpos : 0 < n) : Ck.checkOf n l (o.drop 1) = 6 := by
 unfold Ck.checkOf
 split
 ·rfl
 ·rw [if_pos (by rw [List.length_drop]; omega)]
theorem ord_l0 {n : Nat} (hn : n ≤ 12) {l : List S55} (hl : Ok n l) (hlen : l.length ≤ 30) {o : List Int} (hg : Greedy n l o) (hol : o.length = n) {z : Int} (hz : 0 ≤ z ∧ z ≤ 255) :
  ∀ (d i : Nat), i + d = n → Ev (fun k => wireloomlaw05_DigraphOrders.l0 k z true i n l o 0) true := by
 intro d
 induction d with
 | zero =>
  intro i hi
  obtain rfl : i = n := by omega
  by_cases h2 : i < 2
  ·refine Ev.step (f := fun _ => some true) (fun k => ?_) (Ev.now _)
   simp only [wireloomlaw05_DigraphOrders.l0]
   rw [if_neg (by omega), if_pos (by omega)]
  ·obtain ⟨a, ha⟩ : ∃ a : Nat, Int.tmod (wrap64 z) (wrap64 ((i : Int) - 1)) = (a : Int) ∧ a + 1 < i := by
    rw [wrap_ok (x := z) (by omega) (by omega), wrap_ok (x := (i : Int) - 1) (by omega) (by omega), Int.tmod_eq_emod_of_nonneg hz.1]
    have h3 := Int.emod_nonneg z (b := (i : Int) - 1) (by omega)
    have h4 := Int.emod_lt_of_pos z (b := (i : Int) - 1) (by omega)
    exact ⟨(z % ((i : Int) - 1)).toNat, by omega, by omega⟩
   have hw : wrap64 ((i : Int) - 1) = (i : Int) - 1 := wrap_ok (by omega) (by omega)
   have hwa : wrap64 ((a : Int) + 1) = ((a + 1 : Nat) : Int) := wrap_nextW (by omega)
   have hsw := check_swap hn hl hg hol ha.2
   obtain ⟨r, hr⟩ : ∃ r : Bool, (r = true ↔ E l (rd o (a : Int)) (rd o ((a + 1 : Nat) : Int))) := by
    by_cases hc : E l (rd o (a : Int)) (rd o ((a + 1 : Nat) : Int))
    ·exact ⟨true, fun _ => hc, fun _ => rfl⟩
    ·exact ⟨false, fun h => by simp at h, fun h => absurd h hc⟩
   have hcond : ((Ck.checkOf i l ((o.set a (rd o ((a + 1 : Nat) : Int))).set (a + 1) (rd o (a : Int))) == 0) == !r) = true := by
    generalize Ck.checkOf i l ((o.set a (rd o ((a + 1 : Nat) : Int))).set (a + 1) (rd o (a : Int))) = q at hsw ⊢
    cases r with
    | true =>
     have : ¬ q = 0 := mt hsw.1 (fun h => h (hr.1 rfl))
     simp [this]
    | false =>
     have : q = 0 := hsw.2 (fun h => by have := hr.2 h; simp at this)
     simp [this]
   refine Ev.step (f := fun k => (wireloomlaw05_edge.f k l (rd o a) (rd o ((a + 1 : Nat) : Int))).bind fun t493 => if ((Ck.checkOf i l ((o.set a (rd o ((a + 1 : Nat) : Int))).set (a + 1) (rd o (a : Int))) == 0) == !t493) = true then some true else none) (fun k => ?_) (Ev.bind (edge_ev (by omega) _ _ hr) (Ev.congr (fun k => if_pos hcond) (Ev.now true)))
   simp only [wireloomlaw05_DigraphOrders.l0]
   rw [if_neg (by omega), if_neg (by omega), ha.1, hwa, if_neg (by omega), Option.bind_some, List.nil_append, if_pos (by simp only [List.length_nil]; omega), Option.bind_some, if_pos (by omega), if_pos (by omega), if_pos (by omega), if_pos (by omega), Int.toNat_natCast, Int.toNat_natCast, check_atH hn hl (by omega) (by rw [List.length_set, List.length_set]; omega), Option.bind_some, if_pos (by omega), if_pos (by omega),
    if_pos (by omega), check_atH hn hl (by omega) (by rw [List.length_drop]; omega), Option.bind_some, check_drop hn l hol (by omega), if_pos rfl]
 | succ d ih =>
  intro i hi
  refine Ev.step (fun k => ?_) (ord_l1 hn hl hlen hg hol z i (by omega) (ih (i + 1) (by omega)) (n - (i + 1)) (i + 1) (by omega) (by omega))
  simp only [wireloomlaw05_DigraphOrders.l0]
  rw [if_pos (by omega), wrap_nextW (by omega)]
theorem check_order {n : Nat} (hn : n ≤ 12) {l : List S55} (hl : Ok n l) {o : List Int} (hg : Greedy n l o) (hol : o.length = n) : Ck.checkOf n l o = 0 := by
 obtain ⟨_, _, _, hiff⟩ := check_spec (n := n) (by omega) hl hg.nodup hg.range hol
 rw [hiff]
 intro i j hi hj he
 exact pos_lt hg (by omega) (by omega) he
theorem orders_pure (a b : Int) (ha : 0 ≤ a) (hb : 0 ≤ b) (B : List Int) (hB : ∀ x ∈ B, 0 ≤ x ∧ x ≤ 255) (z : Int) (hz : 0 ≤ z ∧ z ≤ 255) : ∃ k, wireloomlaw05_DigraphOrders.f k a b B z = some true := by
 obtain ⟨n, l, hmade, hn, hl, hlen⟩ := made_spec a b ha hb hB
 refine Ev.rounds (g := fun k => wireloomlaw05_DigraphOrders.f k a b B z) ?_
 unfold wireloomlaw05_DigraphOrders.f
 refine Ev.bind examples_ev ?_
 simp only [if_true]
 refine Ev.bind hmade ?_
 simp only [order_atH hn hl (by omega), cycle_atW hn hl (by omega)]
 rcases order_cycle (n := n) (by omega) hl with ⟨o, ho, hg, hol, hc, _⟩ | ⟨ho, c, hc, _⟩
 ·rw [ho, hc]
  simp only [Option.bind_some]
  have hfin := ord_l0 hn hl hlen hg hol hz n 0 (by omega)
  refine Ev.congr (f := fun k => wireloomlaw05_DigraphOrders.j0 k z true false n l o 0) (fun k => ?_) (Ev.step (fun k => ?_) hfin)
  ·rw [if_neg (by decide), if_pos trivial, if_neg (by decide)]; rfl
  ·simp only [wireloomlaw05_DigraphOrders.j0]
   rw [if_neg (by decide), if_pos trivial, if_pos (by omega), check_atH hn hl (by omega) (by omega), Option.bind_some, check_order hn hl hg hol, if_pos rfl]
   rfl
 ·rw [ho, hc]
  simp only [Option.bind_some]
  refine Ev.congr (f := fun k => wireloomlaw05_DigraphOrders.j0 k z true false n l [] 50) (fun k => ?_) (Ev.step (f := fun _ => some true) (fun k => ?_) (Ev.now true))
  ·rw [if_neg (by decide), if_neg (by decide), if_pos trivial, if_pos trivial]
  ·simp only [wireloomlaw05_DigraphOrders.j0]
   rw [if_neg (by decide), if_neg (by decide)]
end Go.Proofs.Ytlldjinejckbaaa.PD

end
section
namespace Go.Proofs.Ytlldjinejckbaaa.Op
open Go Go.RowKit Go.Joins Go.ChangeShapes Go.WideShapes Go.Deep Go.Proofs.YtlldjinejckbaaaW.PrintWords Go.Proofs.Ytlldjinejckbaaa.PD
set_option linter.unusedVariables false
def Opens (P : Program) (t : TypeId) {α : Type} (d : Kd α) (wf : α → Prop) : Prop := ∀ (H : Type) (enc : TypeId × Value → H) (w : World) (spare : Nat → Bool) (held : Bool) (fuel : Nat) (cs : List Value) (x : DataW H × List MemPlace),
 DataW.trod enc P w 0 spare held fuel t cs = some x → ∃ a, d.K w a cs ∧ wf a
section
variable {P : Program} {t e : TypeId}
theorem opens_int {k : IntKind} (ht : P.underlying t = some (.int k)) : Opens P t (Kd.int k) (fun n => (Lit.int k n).wf = true) := fun H enc w spare held fuel cs x h => by
 obtain ⟨n, hc, _, hw⟩ := DataW.trod_int ht h
 exact ⟨n, hc, hw⟩
theorem opens_slice {α : Type} {d : Kd α} {wf : α → Prop} (ht : P.underlying t = some (.slice e)) (hc : P.cellsOf e = d.sz) (h : Opens P e d wf) : Opens P t (Kd.slice e d) (fun xs => ∀ x ∈ xs, wf x) := fun H enc w spare held fuel cs x hx => by
 rcases open_slice ht hx with ⟨rfl, _⟩ | ⟨a, len, cap, m, n, D, Pl, rfl, _, hl, hm, hmm, _, hel⟩
 ·exact ⟨[], ⟨none, 0, rfl, Nat.le_refl _, rfl, by simp, fun h => absurd h (by simp)⟩, fun x hx => by simp at hx⟩
 ·have hlm : len ≤ m := by rw [hmm]; split <;> omega
  have each : ∀ i, i < len → ∃ q : α, (∃ c, c.length = d.sz ∧ d.K w q c ∧ ∀ j u, c[j]? = some u → w.cell? (a.add (i * d.sz + j)) = some u) ∧ wf q := fun i hi => by
   obtain ⟨cs', h1, h2⟩ := hel i (by omega)
   obtain ⟨q, hq, hw⟩ := h H enc w spare held n cs' _ h2
   obtain ⟨_, hlen, hcell⟩ := World.cells?_some h1
   refine ⟨q, ⟨cs', by rw [hlen, hc], hq, fun j u hu => ?_⟩, hw⟩
   have hj : j < cs'.length := (List.getElem?_eq_some_iff.1 hu).1
   have := hcell j (by rw [← hlen]; exact hj)
   rw [Deep.add_add, hc] at this
   rw [this, hu]
  have all : ∀ k, k ≤ len → ∃ ps : List α, ps.length = k ∧ ∀ j p, ps[j]? = some p → (∃ c, c.length = d.sz ∧ d.K w p c ∧ ∀ i u, c[i]? = some u → w.cell? (a.add (j * d.sz + i)) = some u) ∧ wf p := by
   intro k
   induction k with
   | zero => intro _; exact ⟨[], rfl, fun j p h => by simp at h⟩
   | succ k ih =>
    intro hk
    obtain ⟨ps, hp, hps⟩ := ih (by omega)
    obtain ⟨q, hq⟩ := each k (by omega)
    refine ⟨ps ++ [q], by simp [hp], fun j p hj => ?_⟩
    rcases Nat.lt_or_ge j ps.length with h | h
    ·rw [List.getElem?_append_left h] at hj
     exact hps j p hj
    ·have hj2 := (List.getElem?_eq_some_iff.1 hj).1
     rw [List.length_append, List.length_singleton] at hj2
     obtain rfl : j = k := by omega
     rw [List.getElem?_append_right h, hp, Nat.sub_self] at hj
     obtain rfl : q = p := by simpa using hj
     exact hq
  obtain ⟨ps, hp, hps⟩ := all len (Nat.le_refl _)
  refine ⟨ps, ⟨some a, cap, by rw [hp], by rw [hp]; exact hl, hp.symm ▸ rfl, by unfold maxLen at hm; omega, fun _ => ⟨a, rfl, fun j p hj => (hps j p hj).1⟩⟩, fun x hx => ?_⟩
  obtain ⟨j, hj⟩ := List.mem_iff_getElem?.1 hx
  exact (hps j x hj).2
end
theorem open_row {α : Type} {d : Kd α} {wf : α → Prop} {t e : TypeId} (h : Opens Try.prog t (Kd.slice e d) (fun xs => ∀ x ∈ xs, wf x)) {H : Type} {enc : TypeId × Value → H} {w : World} {spare : Nat → Bool} {held : Bool} {fuel : Nat} {v : Value} {x : DataW H × List MemPlace}
  (hx : DataW.trod enc Try.prog w 0 spare held fuel t [v] = some x) : ∃ A c l, v = .slice A l.length c ∧ d.C w A l.length l ∧ l.length ≤ c ∧ ∀ x ∈ l, wf x := by
 obtain ⟨xs, ⟨A, c, he, hc, hr⟩, hw⟩ := h H enc w spare held fuel [v] x hx
 injection he with he _
 exact ⟨A, c, xs, he, hr, hc, hw⟩
theorem opens_u8s : Opens Try.prog 22 (Kd.slice 5 (Kd.int .u8)) (fun xs => ∀ x ∈ xs, (Lit.int .u8 x).wf = true) := opens_slice Try.underlying22 (by kernel_rfl) (opens_int Try.underlying5)
section
variable {H : Type} {enc : TypeId × Value → H} {w : World} {spare : Nat → Bool} {held : Bool} {r : Reach} {b0 : Nat} {v : Value} {d : DataW H} {p : List MemPlace}
set_option maxRecDepth 100000 in
theorem open_raw (hv : Value.okWide Try.prog w r b0 24 v) (h : DataW.Trod enc Try.prog w 0 spare held 24 v d p) : ∃ (a b : Int) (A : Option Addr) (c : Nat) (l : List Int), v = .agg #[.int .u8 a, .int .u8 b, .slice A l.length c] ∧ (0 ≤ a ∧ a ≤ 255) ∧ (0 ≤ b ∧ b ≤ 255) ∧ (∀ x ∈ l, 0 ≤ x ∧ x ≤ 255) ∧
  (Kd.int .u8).C w A l.length l ∧ l.length ≤ c := by
 obtain ⟨v0, v1, v2, y0, y1, y2, n, rfl, _, _, h0, h1, h2⟩ := open_agg3 Try.underlying24 (by kernel_rfl) (by kernel_rfl) hv h
 obtain ⟨a, ha, _, hw0⟩ := DataW.trod_int (k := .u8) Try.underlying5 h0
 obtain ⟨b, hb, _, hw1⟩ := DataW.trod_int (k := .u8) Try.underlying5 h1
 obtain ⟨A, c, l, rfl, hC, hl, hw⟩ := open_row opens_u8s h2
 have ea : v0 = .int .u8 a := by injection ha
 have eb : v1 = .int .u8 b := by injection hb
 rw [ea, eb]
 exact ⟨a, b, A, c, l, rfl, bounds_u8 hw0, bounds_u8 hw1, fun x hx => bounds_u8 (hw x hx), hC, hl⟩
set_option maxRecDepth 100000 in
theorem open_u8 {t : TypeId} (ht : Try.prog.underlying t = some (.int .u8)) (hv : Value.okWide Try.prog w r b0 t v) (h : DataW.Trod enc Try.prog w 0 spare held t v d p) : ∃ a : Int, v = .int .u8 a ∧ (0 ≤ a ∧ a ≤ 255) := by
 obtain ⟨a, e, _, _, hw⟩ := open_int ht hv h
 exact ⟨a, e, bounds_u8 hw⟩
end
end Go.Proofs.Ytlldjinejckbaaa.Op

end
section
namespace Go.Proofs.Ytlldjinejckbaaa.digraphOrders
open Go.ChangeShapes Go.WideShapes Go.ChangeAt Go.RowKit Go.Proofs.Ytlldjinejckbaaa.Op
open Go.ChangeMaps (open_string shut_string)
set_option linter.unusedVariables false
theorem own : ownKnob Try.prog.godebug = none := by kernel_rfl
theorem laidOut : laidOutB Try.prog = true := by kernel_rfl
set_option maxRecDepth 100000 in
theorem lifted (os : Os) (started : os.Started) (H : Type) (enc : TypeId × Value → H) :
  ReturnsInHanded {} Try.checked os 4 .any (Rows.digraphOrdersSpec.pre6 enc Try.prog Try.f4 Rows.digraphOrdersRow.domain false) (Rows.digraphOrdersSpec.post enc Try.prog Try.f4 false true false false) := by
 refine returnsInHanded_of_change_sized (C := Try.checked) own started (by kernel_rfl) Try.func4
  (ChangeSpec.witness6 (enc := enc) (C := Try.checked) false ⟨#[], #[.agg #[.int .u8 0, .int .u8 0, .slice none 0 0], .int .u8 0], []⟩ 8 (by kernel_rfl) (by kernel_rfl) (by kernel_rfl) (by kernel_rfl)) ?_
 intro W base args ds gs before hval0 hW hcnd hsz0 _
 have hval : ∀ (j : Nat) t v, Try.f4.params[j]? = some t → args[j]? = some v → Value.okWide Try.prog W .any base t v := hval0
 have hW' := hW
 obtain ⟨p, q, hA0, hV, rfl, hfz, hnd⟩ := hW
 have hA : DataW.TrodAll enc Try.prog W 0 (fun _ => true) true Try.f4.params.toList args.toList ds p := hA0
 rw [Try.params4] at hA hval
 obtain ⟨v0, vs0, d0, ds0, p0, q0, hargs, rfl, rfl, h0, r0⟩ := trodAll_cons hA
 obtain ⟨v1, vs1, d1, ds1, p1, q1, rfl, rfl, rfl, h1, r1⟩ := trodAll_cons r0
 obtain ⟨rfl, rfl, rfl⟩ := trodAll_nil r1
 obtain rfl : args = #[v0, v1] := by cases args; simp_all
 obtain ⟨rfl, rfl⟩ := trodVars_none hV
 have lt0 : ∀ x ∈ p0, x.block < W.heap.size := by obtain ⟨m, hm⟩ := h0; exact DataW.trod_lt m _ _ _ hm
 obtain ⟨a0, b0, A0, c0, l0, rfl, ha0, hb0, hB0, hr0, hc0⟩ := open_raw (hval 0 24 v0 rfl rfl) h0
 have lt1 : ∀ x ∈ p1, x.block < W.heap.size := by obtain ⟨m, hm⟩ := h1; exact DataW.trod_lt m _ _ _ hm
 obtain ⟨z1_0, rfl, hz1_0⟩ := open_u8 Try.underlying5 (hval 1 5 v1 rfl rfl) h1
 clear hA0 hval0 hsz0
 obtain ⟨k, hk⟩ := PD.orders_pure a0 b0 ha0.1 hb0.1 l0 hB0 z1_0 hz1_0
 refine (PD.wireloomlaw05_DigraphOrders.calls k a0 b0 A0 c0 l0 z1_0 true W hr0 hc0 hk).mono fun e W' ⟨he, bel⟩ => ?_
 subst he
 exact ⟨_, rfl, _, _, _, [], _, [], hW', trodAll_mk1 (shut_bool Try.underlying4 _), (trodAll_cons_mk (Below.trod laidOut (by kernel_rfl) (of_decide_eq_true (by kernel_rfl)) h0 bel lt0) (trodAll_cons_mk (Below.trod laidOut (by kernel_rfl) (of_decide_eq_true (by kernel_rfl)) h1 bel lt1) trodAll_mk0)), rfl, bel.frame _, fun h => by cases h⟩
theorem over : Rows.digraphOrdersRow.holds Try.pinned (OpenSpec.ofChange Rows.digraphOrdersSpec) :=
 OpenClaim.holds_of_wide 4 Try.f4 rfl rfl rfl rfl rfl rfl rfl ⟨rfl, rfl, rfl, rfl, rfl⟩ rfl rfl rfl rfl rfl (by kernel_rfl) Try.func4 (by kernel_rfl)
  (of_decide_eq_true (by kernel_rfl)) (by unfold Func.isWrapper; first | (rw [if_pos (by decide +kernel)]; kernel_rfl) | (rw [if_neg (by decide +kernel)]; exact ⟨rfl, rfl⟩))
  (fun os started H enc _ => lifted os started H enc)
theorem proved : Rows.DigraphOrdersSaid := over
end Go.Proofs.Ytlldjinejckbaaa.digraphOrders
namespace Go.Proofs.Ytlldjinejckbaaa
theorem digraphOrders_holds : Rows.DigraphOrdersSaid := digraphOrders.proved
end Go.Proofs.Ytlldjinejckbaaa

end
