/- The law DigraphComponents of package digraph holds for every input: what it is called with is opened, the printed text of the law and its plain proof are joined. (Part 6 of 6 of its proof.) -/
import Derived.Lib.SmallJoins
import Derived.Deep.Slices
import Derived.OpenShut
import Derived.WideKeyArr2
import Derived.Test.YtlldjinejckbaaaRows
import Derived.WalkKit
import Derived.ProofKit
import Derived.ShutString
import Derived.ChangeOld
import Derived.Below
import Derived.SizedLaws
import Derived.Test.YtlldjinejckbaaaZ04
set_option linter.unusedVariables false
set_option linter.unusedSimpArgs false
section
namespace Go.Proofs.Ytlldjinejckbaaa.Pd
open Go Go.RowKit Go.Proofs.YtlldjinejckbaaaW.PrintWords Go.Proofs.Ytlldjinejckbaaa.Mod Go.Proofs.Ytlldjinejckbaaa.Lb Go.Proofs.Ytlldjinejckbaaa.Ng Go.Proofs.Ytlldjinejckbaaa.Rc Go.Proofs.Ytlldjinejckbaaa.PD Go.Proofs.Ytlldjinejckbaaa.Pg Go.Proofs.Ytlldjinejckbaaa.Od Go.Proofs.Ytlldjinejckbaaa.Po Go.Proofs.Ytlldjinejckbaaa.Dp
theorem stepD_fold (v : Int) (hv : 0 ≤ v) : ∀ (xs cur : List Int), xs.Nodup → v ∉ xs → (∀ y ∈ xs, 0 ≤ y ∧ y < (cur.length : Int)) → -1000 ≤ rd cur v → rd cur v ≤ 100000 →
  (xs.foldl (stepD v) cur).length = cur.length ∧ ∀ y : Int, 0 ≤ y → rd (xs.foldl (stepD v) cur) y = if y ∈ xs then max (rd cur y) (rd cur v + 1) else rd cur y
 | [], cur, _, _, _, _, _ => ⟨rfl, fun y _ => by simp⟩
 | x :: xs, cur, hn, hvx, hx, hb0, hb1 => by
  rw [List.nodup_cons] at hn
  obtain ⟨hx0, hx1⟩ := hx x (by simp)
  have hw : wrap64 (rd cur v + 1) = rd cur v + 1 := Po.wrap_small (by omega) (by omega)
  have hne : v ≠ x := fun e => hvx (by simp [e])
  have hset : ∀ y, 0 ≤ y → rd (stepD v cur x) y = if y = x then max (rd cur x) (rd cur v + 1) else rd cur y := fun y hy => by
   unfold stepD
   rw [hw]
   by_cases e : y = x
   ·subst e; rw [if_pos rfl, rd_set_same _ _ _ hx0 hx1]
   ·rw [if_neg e, rd_set_other _ _ _ _ hy hx0 e]
  have hvv : rd (stepD v cur x) v = rd cur v := by rw [hset v hv, if_neg hne]
  obtain ⟨a, b⟩ := stepD_fold v hv xs (stepD v cur x) hn.2 (fun h => hvx (by simp [h])) (fun y hy => by rw [stepD_len]; exact hx y (by simp [hy])) (by rw [hvv]; exact hb0) (by rw [hvv]; exact hb1)
  rw [List.foldl_cons]
  refine ⟨by rw [a, stepD_len], fun y hy => ?_⟩
  rw [b y hy, hset y hy, hvv]
  by_cases e : y = x
  ·subst e; rw [if_neg hn.1, if_pos rfl, if_pos (by simp)]
  ·rw [if_neg e]
   by_cases h : y ∈ xs
   ·rw [if_pos h, if_pos (by simp [h])]
   ·rw [if_neg h, if_neg (by simp [h, e])]
structure DInv (n : Nat) (l : List S55) (P cur : List Int) : Prop where
 len : cur.length = n
 lo : ∀ w : Int, 0 ≤ w → w < n → 0 ≤ rd cur w ∧ rd cur w ≤ (P.length : Int)
 ge : ∀ u w : Int, u ∈ P → E l u w → rd cur u + 1 ≤ rd cur w
 inP : ∀ u ∈ P, rd cur u < (P.length : Int)
 at_ : ∀ w : Int, 0 ≤ w → w < n → rd cur w = 0 ∨ ∃ u, u ∈ P ∧ E l u w ∧ rd cur w = rd cur u + 1
theorem DInv.step {n : Nat} {l : List S55} (hl : Ok n l) {P cur : List Int} {v : Int} (h : DInv n l P cur) (hP : P.length ≤ 1000) (hv0 : 0 ≤ v) (hv1 : v < n) (hvs : ¬ E l v v) (hvP : ∀ u ∈ P, ¬ E l v u) (hP0 : ∀ u ∈ P, 0 ≤ u) :
  DInv n l (P ++ [v]) ((row (nx n l) v).foldl (stepD v) cur) := by
 have hrow : ∀ y, y ∈ row (nx n l) v ↔ E l v y := fun y => mem_nx hl y hv0 hv1
 obtain ⟨b0, b1⟩ := h.lo v hv0 hv1
 obtain ⟨s1, s2⟩ := stepD_fold v hv0 (row (nx n l) v) cur (row_nodup _ _) (fun hm => hvs ((hrow v).1 hm)) (fun y hy => by rw [h.len]; have := ((hrow y).1 hy).ok hl; exact ⟨this.2.2.1, this.2.2.2⟩) (by omega) (by omega)
 have hold : ∀ u, 0 ≤ u → (u ∈ P ∨ u = v) → rd ((row (nx n l) v).foldl (stepD v) cur) u = rd cur u := fun u hu hm => by
  rw [s2 u hu, if_neg]
  intro hr
  have he := (hrow u).1 hr
  rcases hm with hm | hm
  ·exact hvP u hm he
  ·subst hm; exact hvs he
 refine ⟨by rw [s1, h.len], fun w w0 w1 => ?_, fun u w hu he => ?_, fun u hu => ?_, fun w w0 w1 => ?_⟩
 ·obtain ⟨c0, c1⟩ := h.lo w w0 w1
  rw [s2 w w0, List.length_append, List.length_singleton]
  split <;> omega
 ·obtain ⟨u0, u1, w0, w1⟩ := he.ok hl
  have hu' : u ∈ P ∨ u = v := by rcases List.mem_append.1 hu with h | h; exact .inl h; exact .inr (by simpa using h)
  rw [hold u u0 hu', s2 w w0]
  rcases hu' with hu' | hu'
  ·have := h.ge u w hu' he
   split <;> omega
  ·subst hu'
   rw [if_pos ((hrow w).2 he)]
   omega
 ·rw [List.length_append, List.length_singleton]
  rcases List.mem_append.1 hu with hu | hu
  ·have h1 := h.inP u hu
   rw [hold u (hP0 u hu) (.inl hu)]
   omega
  ·rw [List.mem_singleton] at hu
   subst hu
   rw [hold u hv0 (.inr rfl)]
   omega
 ·rw [s2 w w0]
  by_cases hm : w ∈ row (nx n l) v
  ·rw [if_pos hm]
   by_cases hc : rd cur w ≤ rd cur v + 1
   ·right
    refine ⟨v, by simp, (hrow w).1 hm, ?_⟩
    rw [hold v hv0 (.inr rfl)]
    omega
   ·rcases h.at_ w w0 w1 with e | ⟨u, hu, he, e⟩
    ·left; omega
    ·right
     refine ⟨u, by simp [hu], he, ?_⟩
     rw [hold u (he.ok hl).1 (.inl hu)]
     omega
  ·rw [if_neg hm]
   rcases h.at_ w w0 w1 with e | ⟨u, hu, he, e⟩
   ·exact .inl e
   ·exact .inr ⟨u, by simp [hu], he, by rw [hold u (he.ok hl).1 (.inl hu)]; exact e⟩
end Go.Proofs.Ytlldjinejckbaaa.Pd

end
section
namespace Go.Proofs.Ytlldjinejckbaaa.Pe
open Go Go.RowKit Go.Proofs.YtlldjinejckbaaaW.PrintWords Go.Proofs.Ytlldjinejckbaaa.Mod Go.Proofs.Ytlldjinejckbaaa.Lb Go.Proofs.Ytlldjinejckbaaa.Ng Go.Proofs.Ytlldjinejckbaaa.Rc Go.Proofs.Ytlldjinejckbaaa.PD Go.Proofs.Ytlldjinejckbaaa.Pg Go.Proofs.Ytlldjinejckbaaa.Tj
def uins (x : Int) : List Int → List Int
 | [] => [x]
 | y :: ys => if x < y then x :: y :: ys else if x = y then y :: ys else y :: uins x ys
def usort (xs : List Int) : List Int := xs.foldr uins []
theorem mem_uins (x z : Int) : ∀ ys, z ∈ uins x ys ↔ z = x ∨ z ∈ ys
 | [] => by simp [uins]
 | y :: ys => by
  unfold uins
  split
  ·simp
  ·split
   ·rename_i h; subst h; simp
   ·rw [List.mem_cons, mem_uins x z ys, List.mem_cons]
    constructor
    ·rintro (h | h | h); exact .inr (.inl h); exact .inl h; exact .inr (.inr h)
    ·rintro (h | h | h); exact .inr (.inl h); exact .inl h; exact .inr (.inr h)
theorem uins_strict (x : Int) : ∀ ys, ys.Pairwise (· < ·) → (uins x ys).Pairwise (· < ·)
 | [], _ => by simp [uins]
 | y :: ys, h => by
  rw [List.pairwise_cons] at h
  unfold uins
  split
  ·rename_i hx
   rw [List.pairwise_cons]
   refine ⟨fun z hz => ?_, List.pairwise_cons.2 h⟩
   rcases List.mem_cons.1 hz with hz | hz
   ·omega
   ·have := h.1 z hz; omega
  ·split
   ·exact List.pairwise_cons.2 h
   ·rw [List.pairwise_cons]
    refine ⟨fun z hz => ?_, uins_strict x ys h.2⟩
    rcases (mem_uins x z ys).1 hz with hz | hz
    ·omega
    ·exact h.1 z hz
theorem usort_spec : ∀ xs : List Int, (usort xs).Pairwise (· < ·) ∧ ∀ z, z ∈ usort xs ↔ z ∈ xs
 | [] => by simp [usort]
 | x :: xs => by
  obtain ⟨h1, h2⟩ := usort_spec xs
  exact ⟨uins_strict x _ h1, fun z => by show z ∈ uins x (usort xs) ↔ _; rw [mem_uins, h2, List.mem_cons]⟩
theorem compact_sort (xs : List Int) : Lib.compact (sortI xs) = usort xs := strict_ext (tidyRow xs).1 (usort_spec xs).1 (fun z => by rw [(tidyRow xs).2, (usort_spec xs).2])
theorem tidy_eval (rows : List (List Int)) : tidy rows = rows.map usort := by
 unfold tidy
 exact List.map_congr_left (fun r _ => compact_sort r)
def ins1 (x : Int) : List Int → List Int
 | [] => [x]
 | y :: ys => if x ≤ y then x :: y :: ys else y :: ins1 x ys
def isort (xs : List Int) : List Int := xs.foldr ins1 []
theorem ins1_perm (x : Int) : ∀ ys, (ins1 x ys).Perm (x :: ys)
 | [] => .refl _
 | y :: ys => by
  unfold ins1
  split
  ·exact .refl _
  ·exact ((ins1_perm x ys).cons y).trans (List.Perm.swap x y ys)
theorem ins1_sorted (x : Int) : ∀ ys, ys.Pairwise (· ≤ ·) → (ins1 x ys).Pairwise (· ≤ ·)
 | [], _ => by simp [ins1]
 | y :: ys, h => by
  rw [List.pairwise_cons] at h
  unfold ins1
  split
  ·rename_i hx
   rw [List.pairwise_cons]
   refine ⟨fun z hz => ?_, List.pairwise_cons.2 h⟩
   rcases List.mem_cons.1 hz with hz | hz
   ·omega
   ·have := h.1 z hz; omega
  ·rw [List.pairwise_cons]
   refine ⟨fun z hz => ?_, ins1_sorted x ys h.2⟩
   rcases List.mem_cons.1 ((ins1_perm x ys).mem_iff.1 hz) with hz | hz
   ·omega
   ·exact h.1 z hz
theorem isort_spec : ∀ xs : List Int, (isort xs).Pairwise (· ≤ ·) ∧ (isort xs).Perm xs
 | [] => by simp [isort]
 | x :: xs => by
  obtain ⟨h1, h2⟩ := isort_spec xs
  exact ⟨ins1_sorted x _ h1, (ins1_perm x _).trans (h2.cons x)⟩
theorem sortA_eq : sortA = isort := by
 funext xs
 have h1 : (sortA xs).Pairwise (· ≤ ·) := sortI_sorted xs
 have h2 : (sortA xs).Perm xs := List.mergeSort_perm _ _
 exact List.Perm.eq_of_pairwise (le := fun x y : Int => x ≤ y) (fun x y _ _ h1 h2 => by omega) h1 (isort_spec xs).1 (h2.trans (isort_spec xs).2.symm)
def shutE (s : TS) (k : Nat) : TS :=
 { s with stack := s.stack.take k, opn := (s.stack.drop k).foldl (fun o x => o.set x.toNat false) s.opn, out := s.out ++ [isort (s.stack.drop k)] }
def visitE (rows : List (List Int)) : Nat → Int → TS → Option TS
 | 0, _, _ => none
 | f + 1, v, s => if 50000 < s.stack.length then none else match visitRow (visitE rows f) v (row rows v) (s.meet v) with
  | none => none
  | some s2 => if rd s2.low v < rd s2.num v then some s2 else if 50000 < s2.stack.length ∨ 50000 < s2.out.length then none else (match s2.stack.findIdx? (· == v) with
   | some k => some (shutE s2 k)
   | none => none)
theorem visit_eq (rows : List (List Int)) : ∀ f, visit rows f = visitE rows f
 | 0 => by funext v s; rfl
 | f + 1 => by
  funext v s
  unfold visit visitE
  rw [visit_eq rows f]
  have e : ∀ (s : TS) k, s.shut k = shutE s k := fun s k => by unfold TS.shut shutE; rw [sortA_eq]
  simp only [e]
  rfl
def visitAllE (rows : List (List Int)) (n : Nat) : Nat → TS → Option TS
 | 0, s => some s
 | k + 1, s => if rd s.num ((n - (k + 1) : Nat) : Int) = 0 then (match visitE rows (n + 1) ((n - (k + 1) : Nat) : Int) s with
   | some s' => visitAllE rows n k s'
   | none => none) else visitAllE rows n k s
theorem visitAll_eq (rows : List (List Int)) (n : Nat) : ∀ k s, visitAll rows n k s = visitAllE rows n k s
 | 0, s => rfl
 | k + 1, s => by
  unfold visitAll visitAllE
  rw [visit_eq]
  split
  ·split
   ·rename_i s' h; rw [h]; exact visitAll_eq rows n k s'
   ·rename_i h; rw [h]
  ·exact visitAll_eq rows n k s
abbrev g1 : List S55 := [⟨2, 0⟩, ⟨0, 3⟩, ⟨1, 3⟩]
abbrev g2 : List S55 := [⟨2, 0⟩, ⟨0, 3⟩, ⟨1, 3⟩, ⟨3, 2⟩]
abbrev g3 : List S55 := [⟨2, 0⟩, ⟨0, 3⟩, ⟨1, 3⟩, ⟨1, 1⟩]
theorem t1 : tidy (built 4 g1 true) = [[3], [3], [0], []] := by rw [tidy_eval]; decide +kernel
theorem t1p : tidy (built 4 g1 false) = [[2], [], [], [0, 1]] := by rw [tidy_eval]; decide +kernel
theorem t2 : tidy (built 4 g2 true) = [[3], [3], [0], [2]] := by rw [tidy_eval]; decide +kernel
theorem t2p : tidy (built 4 g2 false) = [[2], [], [3], [0, 1]] := by rw [tidy_eval]; decide +kernel
theorem t3 : tidy (built 4 g3 true) = [[3], [1, 3], [0], []] := by rw [tidy_eval]; decide +kernel
theorem t3p : tidy (built 4 g3 false) = [[2], [1], [], [0, 1]] := by rw [tidy_eval]; decide +kernel
theorem o1 : Od.orderOf 4 g1 = some ([1, 2, 0, 3], 0) := by unfold Od.orderOf; rw [t1, t1p]; decide +kernel
theorem o2 : Od.orderOf 4 g2 = some ([], 50) := by unfold Od.orderOf; rw [t2, t2p]; decide +kernel
theorem d1 : Dp.depthOf 4 g1 = some ([1, 0, 0, 2], 0) := by unfold Dp.depthOf; rw [o1, t1]; decide +kernel
theorem d2 : Dp.depthOf 4 g2 = some ([], 50) := by unfold Dp.depthOf; rw [o2]; rfl
theorem c1 : Cy.cycleOf 4 g1 = some ([], 4) := by unfold Cy.cycleOf; rw [t1, t1p]; decide +kernel
theorem c2 : Cy.cycleOf 4 g2 = some ([0, 3, 2], 0) := by unfold Cy.cycleOf; rw [t2, t2p]; decide +kernel
theorem c3 : Cy.cycleOf 4 g3 = some ([1], 0) := by unfold Cy.cycleOf; rw [t3, t3p]; decide +kernel
theorem k1 : Tj.compsOf (tidy (built 4 g2 true)) 4 = some [[0, 2, 3], [1]] := by
 unfold Tj.compsOf
 rw [t2, visitAll_eq]
 have e : visitAllE [[3], [3], [0], [2]] 4 4 (Tj.start 4) = some { count := 4, num := [1, 4, 3, 2], low := [1, 4, 1, 1], opn := [false, false, false, false], stack := [], out := [[0, 2, 3], [1]] } := by kernel_rfl
 rw [e]
 have hf : Tj.fine [[0, 2, 3], [1]] = true := by decide +kernel
 simp only
 rw [if_pos hf, List.mergeSort_of_pairwise (by decide +kernel)]
theorem ch1 : Ck.checkOf 4 g1 [2, 0, 1, 3] = 0 := by decide +kernel
theorem ch2 : Ck.checkOf 4 g1 [0, 1, 2, 3] = 6 := by decide +kernel
theorem o0 : Od.orderOf 0 [] = some ([], 0) := by unfold Od.orderOf; rw [tidy_eval, tidy_eval]; decide +kernel
theorem sortI_eq : sortI = isort := sortA_eq
theorem r1 : Rc.reachOf 4 g1 2 = [0, 2, 3] := by unfold Rc.reachOf; rw [t1, sortI_eq]; decide +kernel
theorem r2 : Rc.reachOf 4 g1 4 = [] := by decide +kernel
end Go.Proofs.Ytlldjinejckbaaa.Pe

end
section
namespace Go.Proofs.Ytlldjinejckbaaa.PD
open Go Go.RowKit Go.Proofs.YtlldjinejckbaaaW.PrintWords Go.Proofs.YtlldjinejckbaaaW.PrintLast Go.Proofs.YtlldjinejckbaaaW.PrintMore
open Go.Proofs.Ytlldjinejckbaaa.Pg Go.Proofs.Ytlldjinejckbaaa.Pe
theorem ex_order1 : wireloomlaw05_order.f 4 g1 = some ([1, 2, 0, 3], 0) := by unfold wireloomlaw05_order.f digraph_Order.f; rw [if_pos (by decide), show (4 : Int).toNat = 4 from rfl, o1]; rfl
theorem ex_order2 : wireloomlaw05_order.f 4 g2 = some ([], 50) := by unfold wireloomlaw05_order.f digraph_Order.f; rw [if_pos (by decide), show (4 : Int).toNat = 4 from rfl, o2]; rfl
theorem ex_order0 : wireloomlaw05_order.f 0 [] = some ([], 0) := by unfold wireloomlaw05_order.f digraph_Order.f; rw [if_pos (by decide), show (0 : Int).toNat = 0 from rfl, o0]; rfl
theorem ex_depth1 : wireloomlaw05_depth.f 4 g1 = some ([1, 0, 0, 2], 0) := by unfold wireloomlaw05_depth.f digraph_Depth.f; rw [if_pos (by decide), show (4 : Int).toNat = 4 from rfl, d1]; rfl
theorem ex_depth2 : wireloomlaw05_depth.f 4 g2 = some ([], 50) := by unfold wireloomlaw05_depth.f digraph_Depth.f; rw [if_pos (by decide), show (4 : Int).toNat = 4 from rfl, d2]; rfl
theorem ex_cycle1 : wireloomlaw05_cycle.f 4 g1 = some ([], 4) := by unfold wireloomlaw05_cycle.f digraph_Cycle.f; rw [if_pos (by decide), show (4 : Int).toNat = 4 from rfl, c1]; rfl
theorem ex_cycle2 : wireloomlaw05_cycle.f 4 g2 = some ([0, 3, 2], 0) := by unfold wireloomlaw05_cycle.f digraph_Cycle.f; rw [if_pos (by decide), show (4 : Int).toNat = 4 from rfl, c2]; rfl
theorem ex_cycle3 : wireloomlaw05_cycle.f 4 g3 = some ([1], 0) := by unfold wireloomlaw05_cycle.f digraph_Cycle.f; rw [if_pos (by decide), show (4 : Int).toNat = 4 from rfl, c3]; rfl
theorem ex_reach1 : digraph_Reach.f 4 g1 2 = some [0, 2, 3] := by unfold digraph_Reach.f; rw [if_pos (by decide), show (4 : Int).toNat = 4 from rfl, r1]
theorem ex_reach2 : digraph_Reach.f 4 g1 4 = some [] := by unfold digraph_Reach.f; rw [if_pos (by decide), show (4 : Int).toNat = 4 from rfl, r2]
theorem ex_comps : digraph_Components.f 4 g2 = some [[0, 2, 3], [1]] := by unfold digraph_Components.f; rw [if_pos (by decide), show (4 : Int).toNat = 4 from rfl, k1]
theorem ex_check1 : digraph_Check.f 4 g1 [2, 0, 1, 3] = some 0 := by unfold digraph_Check.f; rw [if_pos (by decide), show (4 : Int).toNat = 4 from rfl, ch1]
theorem ex_check2 : digraph_Check.f 4 g1 [0, 1, 2, 3] = some 6 := by unfold digraph_Check.f; rw [if_pos (by decide), show (4 : Int).toNat = 4 from rfl, ch2]
theorem ex_with1 : wireloomref05_With.f 4 g1 3 2 = some (4, g2) := by kernel_rfl
theorem ex_with2 : wireloomref05_With.f 4 g1 1 1 = some (4, g3) := by kernel_rfl
theorem ex_valid1 : digraph_Valid.f 20 4 g1 = some true := by kernel_rfl
theorem ex_valid2 : digraph_Valid.f 20 3 g1 = some false := by kernel_rfl
theorem examples_at : wireloomlaw05_examples.f 22 = some true := by
 unfold wireloomlaw05_examples.f
 simp only [Option.bind_some]
 rw [ex_with1, Option.bind_some, ex_with2, Option.bind_some, ex_order1, Option.bind_some]
 rw [show wireloomref05_Alike.f 22 [1, 2, 0, 3] 0 [1, 2, 0, 3] 0 = some true from by kernel_rfl, Option.bind_some, if_pos rfl, ex_depth1, Option.bind_some]
 rw [show wireloomref05_Alike.f 22 [1, 0, 0, 2] 0 [1, 0, 0, 2] 0 = some true from by kernel_rfl, Option.bind_some, if_pos rfl, ex_reach1, Option.bind_some]
 rw [show wireloomref05_Same.f 22 [0, 2, 3] [0, 2, 3] = some true from by kernel_rfl, Option.bind_some, if_pos rfl, ex_cycle1, Option.bind_some]
 show wireloomlaw05_examples.j0 (21 + 1) false 4 g1 4 g2 4 g3 = some true
 simp only [wireloomlaw05_examples.j0]
 rw [if_neg (by decide), ex_order2, Option.bind_some, if_pos rfl, ex_depth2, Option.bind_some, if_pos rfl, ex_cycle2, Option.bind_some]
 rw [show wireloomref05_Alike.f 21 [0, 3, 2] 0 [0, 3, 2] 0 = some true from by kernel_rfl, Option.bind_some, if_pos rfl, ex_cycle3, Option.bind_some]
 rw [show wireloomref05_Alike.f 21 [1] 0 [1] 0 = some true from by kernel_rfl, Option.bind_some, if_pos rfl, ex_comps, Option.bind_some]
 rw [show wireloomref05_SameLists.f 21 [[0, 2, 3], [1]] [[0, 2, 3], [1]] = some true from by kernel_rfl, Option.bind_some]
 show wireloomlaw05_examples.j1 (20 + 1) false 4 g1 = some true
 simp only [wireloomlaw05_examples.j1]
 rw [if_neg (by decide), ex_valid1, Option.bind_some, if_pos rfl, ex_valid2, Option.bind_some, if_neg (by decide), ex_check1, Option.bind_some, if_pos rfl, ex_check2, Option.bind_some, if_pos rfl, ex_order0, Option.bind_some, if_pos rfl, ex_reach2, Option.bind_some]
 rfl
theorem examples_ev : Ev (fun k => wireloomlaw05_examples.f k) true := Ev.of wireloomlaw05_examples.mono examples_at
theorem wrap_ok {x : Int} (h0 : -1000000 ≤ x) (h1 : x ≤ 1000000) : wrap64 x = x := by unfold wrap64; omega
theorem rd_bound {B : List Int} (hB : ∀ x ∈ B, 0 ≤ x ∧ x ≤ 255) {i : Int} (h0 : 0 ≤ i) (h1 : i < (B.length : Int)) : 0 ≤ rd B i ∧ rd B i ≤ 255 := by
 apply hB
 unfold rd
 rw [List.getD_eq_getElem?_getD, List.getElem?_eq_getElem (by omega)]
 exact List.getElem_mem _
theorem ok_add {n : Nat} {l : List S55} (h : Ok n l) {u v : Int} (h0 : 0 ≤ u) (h1 : u < n) (h2 : 0 ≤ v) (h3 : v < n) : Ok n (l ++ [⟨u, v⟩]) := fun e he => by
 rcases List.mem_append.1 he with he | he
 ·exact h e he
 ·rw [List.mem_singleton] at he; subst he; exact ⟨h0, h1, h2, h3⟩
theorem made_loop {n : Nat} (hn : n ≤ 12) (a b : Int) (hb0 : 0 ≤ b) {B : List Int} (hB : ∀ x ∈ B, 0 ≤ x ∧ x ≤ 255) : ∀ (d j : Nat) (l : List S55), j + d = 30 → l.length ≤ j → Ok n l →
  ∃ lf, Ev (fun k => wireloomref05_Made.l0 k n (2 * (j : Int)) a b B n l) ((n : Int), lf) ∧ Ok n lf ∧ lf.length ≤ 30 := by
 intro d
 induction d with
 | zero =>
  intro j l hj hl hok
  refine ⟨l, ?_, hok, by omega⟩
  obtain rfl : j = 30 := by omega
  have hend : Ev (fun k => wireloomref05_Made.j1 k n (2 * ((30 : Nat) : Int)) false a b B n l) ((n : Int), l) := Ev.step (f := fun _ => some ((n : Int), l)) (fun k => by simp only [wireloomref05_Made.j1]; rw [if_neg (by decide)]) (Ev.now _)
  refine Ev.step (f := fun k => wireloomref05_Made.j1 k n (2 * ((30 : Nat) : Int)) false a b B n l) (fun k => ?_) hend
  simp only [wireloomref05_Made.l0]
  split
  ·rw [if_neg (by omega)]
  ·rfl
 | succ d ih =>
  intro j l hj hl hok
  have hi : (0 : Int) ≤ 2 * (j : Int) ∧ 2 * (j : Int) ≤ 58 := by omega
  have w1 : wrap64 (2 * (j : Int) + 1) = 2 * (j : Int) + 1 := wrap_ok (by omega) (by omega)
  have w2 : wrap64 (2 * (j : Int) + 2) = 2 * ((j + 1 : Nat) : Int) := by rw [wrap_ok (by omega) (by omega)]; omega
  have hend : Ev (fun k => wireloomref05_Made.j1 k n (2 * (j : Int)) false a b B n l) ((n : Int), l) := Ev.step (f := fun _ => some ((n : Int), l)) (fun k => by simp only [wireloomref05_Made.j1]; rw [if_neg (by decide)]) (Ev.now _)
  by_cases hc : 2 * (j : Int) + 1 < (B.length : Int) ∧ 0 < n
  ·obtain ⟨hc1, hc2⟩ := hc
   obtain ⟨r0, r1⟩ := rd_bound hB (i := 2 * (j : Int)) (by omega) (by omega)
   obtain ⟨s0, s1⟩ := rd_bound hB (i := 2 * (j : Int) + 1) (by omega) (by omega)
   have wr : wrap64 (rd B (2 * (j : Int))) = rd B (2 * (j : Int)) := wrap_ok (by omega) (by omega)
   have ws : wrap64 (rd B (2 * (j : Int) + 1)) = rd B (2 * (j : Int) + 1) := wrap_ok (by omega) (by omega)
   obtain ⟨v, hv⟩ : ∃ v, v = Int.tmod (rd B (2 * (j : Int))) n := ⟨_, rfl⟩
   obtain ⟨u, hu⟩ : ∃ u, u = Int.tmod (rd B (2 * (j : Int) + 1)) n := ⟨_, rfl⟩
   have v0 : 0 ≤ v := by rw [hv]; exact Int.tmod_nonneg _ r0
   have v1 : v < n := by rw [hv]; exact Int.tmod_lt_of_pos _ (by omega)
   have u0 : 0 ≤ u := by rw [hu]; exact Int.tmod_nonneg _ s0
   have u1 : u < n := by rw [hu]; exact Int.tmod_lt_of_pos _ (by omega)
   have hlt : l.length < 8796093022208 := by omega
   have next : ∀ l', l'.length ≤ j + 1 → Ok n l' → ∃ lf, Ev (fun k => wireloomref05_Made.l0 k n (wrap64 (2 * (j : Int) + 2)) a b B n l') ((n : Int), lf) ∧ Ok n lf ∧ lf.length ≤ 30 := fun l' h1 h2 => by
    rw [w2]; exact ih (j + 1) l' (by omega) h1 h2
   have swapped : ∀ x y : Int, 0 ≤ x → x < n → 0 ≤ y → y < n → ∃ lf, Ev (fun k => wireloomref05_Made.j2 k n (2 * (j : Int)) x y a b B n l) ((n : Int), lf) ∧ Ok n lf ∧ lf.length ≤ 30 := fun x y x0 x1 y0 y1 => by
    by_cases h4 : Int.tmod b 4 = 2
    ·by_cases h5 : Int.tmod (n : Int) 5 = 0
     ·obtain ⟨lf, e, o, q⟩ := next l (by omega) hok
      refine ⟨lf, Ev.step (fun k => ?_) e, o, q⟩
      simp only [wireloomref05_Made.j2]
      rw [if_pos h4, if_neg (by omega), if_pos h5]
     ·have wx : wrap64 (wrap64 (5 * x) + 3) = 5 * x + 3 := by rw [wrap_ok (x := 5 * x) (by omega) (by omega), wrap_ok (by omega) (by omega)]
      have wy : wrap64 (wrap64 (5 * y) + 3) = 5 * y + 3 := by rw [wrap_ok (x := 5 * y) (by omega) (by omega), wrap_ok (by omega) (by omega)]
      obtain ⟨lf, e, o, q⟩ := next (l ++ [⟨Int.tmod (5 * x + 3) n, Int.tmod (5 * y + 3) n⟩]) (by simp; omega) (ok_add hok (Int.tmod_nonneg _ (by omega)) (Int.tmod_lt_of_pos _ (by omega)) (Int.tmod_nonneg _ (by omega)) (Int.tmod_lt_of_pos _ (by omega)))
      refine ⟨lf, Ev.step (fun k => ?_) e, o, q⟩
      simp only [wireloomref05_Made.j2]
      rw [if_pos h4, if_neg (by omega), if_neg h5, if_pos hlt, wx, wy]
    ·obtain ⟨lf, e, o, q⟩ := next (l ++ [⟨x, y⟩]) (by simp; omega) (ok_add hok x0 x1 y0 y1)
     refine ⟨lf, Ev.step (fun k => ?_) e, o, q⟩
     simp only [wireloomref05_Made.j2]
     rw [if_neg h4]
     split <;> first | rfl | rw [if_pos hlt]
   have body : ∃ lf, Ev (fun k => wireloomref05_Made.j1 k n (2 * (j : Int)) true a b B n l) ((n : Int), lf) ∧ Ok n lf ∧ lf.length ≤ 30 := by
    have e0 : ∀ k, wireloomref05_Made.j1 (k + 1) n (2 * (j : Int)) true a b B n l = (if (Int.tmod b 2) = 0 then (if v = u then (wireloomref05_Made.l0 k n (wrap64 (2 * (j : Int) + 2)) a b B n l) else (if v > u then (wireloomref05_Made.j2 k n (2 * (j : Int)) u v a b B n l) else (wireloomref05_Made.j2 k n (2 * (j : Int)) v u a b B n l))) else (wireloomref05_Made.l0 k n (wrap64 (2 * (j : Int) + 2)) a b B n (l ++ [⟨v, u⟩]))) := fun k => by
     simp only [wireloomref05_Made.j1]
     rw [if_pos (by first | rfl | trivial), if_pos (by omega), if_pos (by omega), if_neg (by omega), w1, if_pos (by omega), if_pos (by omega), if_pos hlt, wr, ws, ← hv, ← hu]
    by_cases h2 : Int.tmod b 2 = 0
    ·by_cases hvu : v = u
     ·obtain ⟨lf, e, o, q⟩ := next l (by omega) hok
      exact ⟨lf, Ev.step (fun k => by rw [e0, if_pos h2, if_pos hvu]) e, o, q⟩
     ·by_cases hgt : v > u
      ·obtain ⟨lf, e, o, q⟩ := swapped u v u0 u1 v0 v1
       exact ⟨lf, Ev.step (fun k => by rw [e0, if_pos h2, if_neg hvu, if_pos hgt]) e, o, q⟩
      ·obtain ⟨lf, e, o, q⟩ := swapped v u v0 v1 u0 u1
       exact ⟨lf, Ev.step (fun k => by rw [e0, if_pos h2, if_neg hvu, if_neg hgt]) e, o, q⟩
    ·obtain ⟨lf, e, o, q⟩ := next (l ++ [⟨v, u⟩]) (by simp; omega) (ok_add hok v0 v1 u0 u1)
     exact ⟨lf, Ev.step (fun k => by rw [e0, if_neg h2]) e, o, q⟩
   obtain ⟨lf, e, o, q⟩ := body
   refine ⟨lf, Ev.step (fun k => ?_) e, o, q⟩
   simp only [wireloomref05_Made.l0]
   rw [w1, if_pos hc1, if_pos (by omega), decide_eq_true (by omega)]
  ·refine ⟨l, Ev.step (fun k => ?_) hend, hok, by omega⟩
   simp only [wireloomref05_Made.l0]
   rw [w1]
   by_cases h1 : 2 * (j : Int) + 1 < (B.length : Int)
   ·rw [if_pos h1, if_pos (by omega), decide_eq_false (by omega)]
   ·rw [if_neg h1]
theorem made_spec (a b : Int) (ha : 0 ≤ a) (hb : 0 ≤ b) {B : List Int} (hB : ∀ x ∈ B, 0 ≤ x ∧ x ≤ 255) : ∃ (n : Nat) (l : List S55), Ev (fun k => wireloomref05_Made.f k a b B) ((n : Int), l) ∧ n ≤ 12 ∧ Ok n l ∧ l.length ≤ 30 := by
 obtain ⟨n, hn⟩ : ∃ n : Nat, Int.tmod a 13 = n := ⟨(Int.tmod a 13).toNat, by have := Int.tmod_nonneg 13 ha; omega⟩
 have hn2 : n ≤ 12 := by have := Int.tmod_lt_of_pos a (b := 13) (by omega); omega
 have w : wrap64 (Int.tmod a 13) = n := by rw [hn]; exact wrap_ok (by omega) (by omega)
 obtain ⟨lf, e, o, q⟩ := made_loop hn2 a b hb hB 30 0 [] (by omega) (by simp) (fun e he => by simp at he)
 refine ⟨n, lf, Ev.congr (fun k => ?_) e, hn2, o, q⟩
 unfold wireloomref05_Made.f
 rw [w]
 rfl
end Go.Proofs.Ytlldjinejckbaaa.PD

end
section
namespace Go.Proofs.Ytlldjinejckbaaa.Pb
open Go Go.RowKit Go.Proofs.YtlldjinejckbaaaW.PrintWords Go.Proofs.Ytlldjinejckbaaa.Mod Go.Proofs.Ytlldjinejckbaaa.Pg
def Pa (R : Int → Int → Prop) : Nat → Int → Int → Prop
 | 0, u, v => u = v
 | k + 1, u, v => ∃ m, Pa R k u m ∧ R m v
def Dist (R : Int → Int → Prop) (u v : Int) (d : Nat) : Prop := Pa R d u v ∧ ∀ k, k < d → ¬ Pa R k u v
theorem Dist.le {R : Int → Int → Prop} {u v : Int} {d k : Nat} (h : Dist R u v d) (hp : Pa R k u v) : d ≤ k := Classical.byContradiction fun hn => h.2 k (by omega) hp
theorem Dist.eq {R : Int → Int → Prop} {u v : Int} {d e : Nat} (h : Dist R u v d) (h' : Dist R u v e) : d = e := by have := h.le h'.1; have := h'.le h.1; omega
theorem Pa.add {R : Int → Int → Prop} {u v : Int} {j : Nat} (h : Pa R j u v) : ∀ {k : Nat} {w : Int}, Pa R k v w → Pa R (j + k) u w
 | 0, w, hk => by cases hk; exact h
 | k + 1, w, ⟨m, hm, hr⟩ => ⟨m, Pa.add h hm, hr⟩
theorem Pa.one {R : Int → Int → Prop} {u v : Int} (h : R u v) : Pa R 1 u v := ⟨u, rfl, h⟩
theorem Pa.split {R : Int → Int → Prop} {u : Int} : ∀ {j k : Nat} {w : Int}, Pa R (j + k) u w → ∃ v, Pa R j u v ∧ Pa R k v w
 | j, 0, w, h => ⟨w, h, rfl⟩
 | j, k + 1, w, ⟨m, hm, hr⟩ => by
  obtain ⟨v, h1, h2⟩ := Pa.split (j := j) (k := k) hm
  exact ⟨v, h1, m, h2, hr⟩
theorem Pa.flip {R : Int → Int → Prop} {u : Int} : ∀ {k : Nat} {v : Int}, Pa R k u v → Pa (fun a b => R b a) k v u
 | 0, v, h => h.symm
 | k + 1, v, ⟨m, hm, hr⟩ => by
  have h1 := Pa.flip hm
  have h2 : Pa (fun a b => R b a) 1 v m := ⟨v, rfl, hr⟩
  rw [Nat.add_comm]
  exact h2.add h1
theorem Dist.flip {R : Int → Int → Prop} {u v : Int} {d : Nat} (h : Dist R u v d) : Dist (fun a b => R b a) v u d := ⟨h.1.flip, fun k hk hp => h.2 k hk hp.flip⟩
theorem Dist.prev {R : Int → Int → Prop} {u v : Int} {d : Nat} (h : Dist R u v (d + 1)) : ∃ m, Dist R u m d ∧ R m v := by
 obtain ⟨⟨m, hm, hr⟩, hn⟩ := h
 exact ⟨m, ⟨hm, fun k hk hp => hn (k + 1) (by omega) ⟨m, hp, hr⟩⟩, hr⟩
theorem Dist.next {R : Int → Int → Prop} {u v : Int} {d : Nat} (h : Dist R u v (d + 1)) : ∃ m, R u m ∧ Dist R m v d := by
 obtain ⟨m, h1, h2⟩ := h.flip.prev
 exact ⟨m, h2, h1.flip⟩
structure Tells (n : Nat) (rows : List (List Int)) (R : Int → Int → Prop) : Prop where
 len : rows.length = n
 row : ∀ v x : Int, 0 ≤ v → v < n → (x ∈ row rows v ↔ R v x)
 nd : ∀ v : Int, (Mod.row rows v).Nodup
 ok : ∀ v x : Int, R v x → 0 ≤ v ∧ v < n ∧ 0 ≤ x ∧ x < n
theorem tells_nx {n : Nat} {l : List PD.S55} (h : Ok n l) : Tells n (nx n l) (E l) := ⟨len_nx n l, fun v x h0 h1 => mem_nx h x h0 h1, fun v => row_nodup _ v, fun v x he => he.ok h⟩
theorem tells_pv {n : Nat} {l : List PD.S55} (h : Ok n l) : Tells n (pv n l) (fun a b => E l b a) := ⟨len_pv n l, fun v x h0 h1 => mem_pv h x h0 h1, fun v => row_nodup _ v, fun v x he => by have := he.ok h; exact ⟨this.2.2.1, this.2.2.2, this.1, this.2.1⟩⟩
theorem relax_spec (v : Int) : ∀ (xs far q : List Int), xs.Nodup → (∀ y ∈ xs, 0 ≤ y ∧ y < (far.length : Int)) → 0 ≤ v → 1 ≤ rd far v → rd far v ≤ 100000 →
  (relax v xs far q).1.length = far.length ∧ (relax v xs far q).2 = q ++ xs.filter (fun x => decide (rd far x = 0)) ∧ ∀ y : Int, 0 ≤ y → rd (relax v xs far q).1 y = if y ∈ xs ∧ rd far y = 0 then rd far v + 1 else rd far y
 | [], far, q, _, _, _, _, _ => ⟨rfl, by simp [relax], fun y _ => by simp [relax]⟩
 | x :: xs, far, q, hn, hx, hv, h1, h2 => by
  rw [List.nodup_cons] at hn
  obtain ⟨x0, x1⟩ := hx x (by simp)
  have hw : wrap64 (rd far v + 1) = rd far v + 1 := Po.wrap_small (by omega) (by omega)
  unfold relax
  by_cases hz : rd far x = 0
  ·have hxv : v ≠ x := fun e => by subst e; omega
   have hvv : rd (far.set x.toNat (rd far v + 1)) v = rd far v := rd_set_other _ _ _ _ hv x0 hxv
   obtain ⟨a, b, c⟩ := relax_spec v xs (far.set x.toNat (rd far v + 1)) (q ++ [x]) hn.2 (fun y hy => by rw [List.length_set]; exact hx y (by simp [hy])) hv (by rw [hvv]; exact h1) (by rw [hvv]; exact h2)
   have hset : ∀ y, 0 ≤ y → rd (far.set x.toNat (rd far v + 1)) y = if y = x then rd far v + 1 else rd far y := fun y hy => by
    by_cases e : y = x
    ·subst e; rw [if_pos rfl, rd_set_same _ _ _ x0 x1]
    ·rw [if_neg e, rd_set_other _ _ _ _ hy x0 e]
   rw [if_pos hz, hw]
   refine ⟨by rw [a, List.length_set], ?_, fun y hy => ?_⟩
   ·rw [b, List.filter_cons, if_pos (by simpa using hz), List.append_assoc]
    congr 1
    show x :: _ = _
    congr 1
    apply List.filter_congr
    intro y hy
    rw [hset y (hx y (by simp [hy])).1, if_neg (fun e => hn.1 (by rw [← e]; exact hy))]
   ·rw [c y hy, hset y hy, hvv]
    by_cases e : y = x
    ·subst e
     rw [if_pos rfl, if_neg (fun h => hn.1 h.1), if_pos ⟨by simp, hz⟩]
    ·rw [if_neg e]
     by_cases h : y ∈ xs ∧ rd far y = 0
     ·rw [if_pos h, if_pos ⟨by simp [h.1], h.2⟩]
     ·rw [if_neg h, if_neg (fun h' => h ⟨by rcases List.mem_cons.1 h'.1 with h' | h'; exact absurd h' e; exact h', h'.2⟩)]
  ·obtain ⟨a, b, c⟩ := relax_spec v xs far q hn.2 (fun y hy => hx y (by simp [hy])) hv h1 h2
   rw [if_neg hz]
   refine ⟨a, ?_, fun y hy => ?_⟩
   ·rw [b, List.filter_cons, if_neg (by simpa using hz)]
   ·rw [c y hy]
    by_cases h : y ∈ xs ∧ rd far y = 0
    ·rw [if_pos h, if_pos ⟨by simp [h.1], h.2⟩]
    ·rw [if_neg h, if_neg (fun h' => h ⟨by rcases List.mem_cons.1 h'.1 with h' | h'; (subst h'; exact absurd h'.2 hz); exact h', h'.2⟩)]
structure BI (n : Nat) (R : Int → Int → Prop) (s : Int) (done far q : List Int) : Prop where
 len : far.length = n
 nd : (done ++ q).Nodup
 rng : ∀ v ∈ done ++ q, 0 ≤ v ∧ v < (n : Int)
 seen : ∀ v : Int, 0 ≤ v → v < n → (rd far v ≠ 0 ↔ v ∈ done ++ q)
 dist : ∀ v ∈ done ++ q, ∃ d : Nat, rd far v = (d : Int) + 1 ∧ Dist R s v d ∧ d + 1 ≤ (done ++ q).length
 cl : ∀ v ∈ done, ∀ x, R v x → x ∈ done ++ q
 st : s ∈ done ++ q
 mono : q.Pairwise (fun a b => rd far a ≤ rd far b)
 near : ∀ a ∈ q, ∀ b ∈ q.head?, rd far a ≤ rd far b + 1
 old : ∀ a ∈ done, ∀ b ∈ q.head?, rd far a ≤ rd far b
 all : ∀ b ∈ q.head?, ∀ (k : Nat) (x : Int), Pa R k s x → (k : Int) + 1 ≤ rd far b → x ∈ done ++ q
theorem BI.step {n : Nat} (hn : n ≤ 1000) {rows : List (List Int)} {R : Int → Int → Prop} (hT : Tells n rows R) {s : Int} {done far q : List Int} {v : Int} (h : BI n R s done far (v :: q)) :
  BI n R s (done ++ [v]) (relax v (row rows v) far q).1 (relax v (row rows v) far q).2 := by
 have hvm : v ∈ done ++ v :: q := by simp
 obtain ⟨v0, v1⟩ := h.rng v hvm
 obtain ⟨d, hd, hdist, hdn⟩ := h.dist v hvm
 have hcard : (done ++ v :: q).length ≤ n := nodup_len h.nd h.rng
 have hrow : ∀ x, x ∈ row rows v ↔ R v x := fun x => hT.row v x v0 v1
 obtain ⟨r1, r2, r3⟩ := relax_spec v (row rows v) far q (hT.nd v) (fun y hy => by rw [h.len]; have := hT.ok v y ((hrow y).1 hy); exact ⟨this.2.2.1, this.2.2.2⟩) v0 (by omega) (by omega)
 obtain ⟨news, hnews⟩ : ∃ news, news = (row rows v).filter (fun x => decide (rd far x = 0)) := ⟨_, rfl⟩
 rw [← hnews] at r2
 have hnm : ∀ x, x ∈ news ↔ R v x ∧ rd far x = 0 := fun x => by rw [hnews, List.mem_filter, hrow]; simp
 have hnr : ∀ x ∈ news, 0 ≤ x ∧ x < (n : Int) := fun x hx => by have := hT.ok v x ((hnm x).1 hx).1; exact ⟨this.2.2.1, this.2.2.2⟩
 have hnn : ∀ x ∈ news, x ∉ done ++ v :: q := fun x hx hm => by
  have := (h.seen x (hnr x hx).1 (hnr x hx).2).2 hm
  exact this ((hnm x).1 hx).2
 have hfar : ∀ y, 0 ≤ y → rd (relax v (row rows v) far q).1 y = if y ∈ news then rd far v + 1 else rd far y := fun y hy => by
  rw [r3 y hy]
  by_cases hc : y ∈ row rows v ∧ rd far y = 0
  ·rw [if_pos hc, if_pos ((hnm y).2 ⟨(hrow y).1 hc.1, hc.2⟩)]
  ·rw [if_neg hc, if_neg (fun hm => hc ⟨(hrow y).2 ((hnm y).1 hm).1, ((hnm y).1 hm).2⟩)]
 have hold : ∀ y ∈ done ++ v :: q, rd (relax v (row rows v) far q).1 y = rd far y := fun y hy => by
  rw [hfar y (h.rng y hy).1, if_neg (fun hm => hnn y hm hy)]
 have hnew : ∀ y ∈ news, rd (relax v (row rows v) far q).1 y = rd far v + 1 := fun y hy => by rw [hfar y (hnr y hy).1, if_pos hy]
 have hmem : ∀ y, y ∈ done ++ [v] ++ (q ++ news) ↔ y ∈ done ++ v :: q ∨ y ∈ news := fun y => by
  have e : done ++ [v] ++ (q ++ news) = (done ++ v :: q) ++ news := by simp
  rw [e, List.mem_append]
 rw [r2]
 have hall : ∀ (k : Nat) (x : Int), Pa R k s x → (k : Int) + 1 ≤ rd far v → x ∈ done ++ v :: q := h.all v (by simp)
 have hcl : ∀ u ∈ done ++ [v], ∀ x, R u x → x ∈ done ++ v :: q ∨ x ∈ news := fun u hu x hx => by
  rcases List.mem_append.1 hu with hu | hu
  ·exact .inl (h.cl u hu x hx)
  ·rw [List.mem_singleton] at hu
   subst hu
   by_cases hz : rd far x = 0
   ·exact .inr ((hnm x).2 ⟨hx, hz⟩)
   ·have := hT.ok u x hx
    exact .inl ((h.seen x this.2.2.1 this.2.2.2).1 hz)
 have hq := List.pairwise_cons.1 h.mono
 have hnear : ∀ a ∈ q, rd far a ≤ rd far v + 1 := fun a ha => h.near a (by simp [ha]) v (by simp)
 have hdeep : ∀ b ∈ q ++ news, rd far v ≤ rd (relax v (row rows v) far q).1 b ∧ rd (relax v (row rows v) far q).1 b ≤ rd far v + 1 := fun b hb => by
  rcases List.mem_append.1 hb with hb | hb
  ·rw [hold b (by simp [hb])]
   exact ⟨hq.1 b hb, hnear b hb⟩
  ·rw [hnew b hb]; omega
 have hheadm : ∀ b, b ∈ (q ++ news).head? → b ∈ q ++ news := fun b hb => by
  cases hqn : q ++ news with
  | nil => rw [hqn] at hb; simp at hb
  | cons z zs => rw [hqn] at hb; simp at hb; subst hb; simp
 refine ⟨by rw [r1, h.len], ?_, fun y hy => ?_, fun y y0 y1 => ?_, fun y hy => ?_, fun u hu x hx => (hmem x).2 (hcl u hu x hx), (hmem s).2 (.inl h.st), ?_, fun a ha b hb => ?_, fun a ha b hb => ?_, fun b hb k x hp hk => ?_⟩
 ·have h1 : (done ++ v :: q).Nodup := h.nd
  have e : done ++ [v] ++ (q ++ news) = (done ++ v :: q) ++ news := by simp
  rw [e, List.nodup_append]
  refine ⟨h1, ?_, fun a ha b hb e => hnn b hb (by rw [← e]; exact ha)⟩
  rw [hnews]; exact List.Pairwise.filter _ (hT.nd v)
 ·rcases (hmem y).1 hy with hy | hy
  ·exact h.rng y hy
  ·exact hnr y hy
 ·rw [hmem, hfar y y0]
  by_cases hy : y ∈ news
  ·rw [if_pos hy]; exact ⟨fun _ => .inr hy, fun _ => by omega⟩
  ·rw [if_neg hy, h.seen y y0 y1]; exact ⟨fun hh => .inl hh, fun hh => hh.resolve_right hy⟩
 ·have hlen : (done ++ [v] ++ (q ++ news)).length = (done ++ v :: q).length + news.length := by simp only [List.length_append, List.length_cons, List.length_nil]; omega
  rcases (hmem y).1 hy with hy | hy
  ·rw [hold y hy, hlen]
   obtain ⟨dy, e1, e2, e3⟩ := h.dist y hy
   exact ⟨dy, e1, e2, by omega⟩
  ·refine ⟨d + 1, by rw [hnew y hy, hd]; omega, ⟨⟨v, hdist.1, ((hnm y).1 hy).1⟩, fun k hk hp => hnn y hy (hall k y hp (by omega))⟩, ?_⟩
   have : 0 < news.length := List.length_pos_of_mem hy
   rw [hlen]; omega
 ·rw [List.pairwise_append]
  refine ⟨hq.2.imp_of_mem (fun {a b} ha hb hab => by rw [hold a (by simp [ha]), hold b (by simp [hb])]; exact hab), ?_, fun a ha b hb => ?_⟩
  ·exact List.Pairwise.imp_of_mem (fun {a b} ha hb _ => by rw [hnew a ha, hnew b hb]; exact Int.le_refl _) (show news.Pairwise (· ≠ ·) by rw [hnews]; exact List.Pairwise.filter _ (hT.nd v))
  ·rw [hold a (by simp [ha]), hnew b hb]; exact hnear a ha
 ·have := hdeep a ha
  have := hdeep b (hheadm b hb)
  omega
 ·have hb2 := (hdeep b (hheadm b hb)).1
  rcases List.mem_append.1 ha with ha | ha
  ·rw [hold a (by simp [ha])]
   have := h.old a ha v (by simp)
   omega
  ·rw [List.mem_singleton] at ha; subst ha
   rw [hold a (by simp)]; exact hb2
 ·
  rw [hmem]
  have hb2 := hdeep b (hheadm b hb)
  by_cases hkd : (k : Int) + 1 ≤ rd far v
  ·exact .inl (hall k x hp hkd)
  ·obtain ⟨k', rfl⟩ : ∃ k', k = k' + 1 := ⟨k - 1, by omega⟩
   obtain ⟨m, hm, hr⟩ := hp
   have hmm := hall k' m hm (by omega)
   have hmd : m ∈ done ++ [v] := by
    rcases List.mem_append.1 hmm with hh | hh
    ·simp [hh]
    ·rcases List.mem_cons.1 hh with hh | hh
     ·simp [hh]
     ·obtain ⟨dm, e1, e2, e2'⟩ := h.dist m hmm
      have h1 := e2.le hm
      have hge : rd (relax v (row rows v) far q).1 b ≤ rd (relax v (row rows v) far q).1 m := by
       cases q with
       | nil => simp at hh
       | cons z zs =>
        have hbz : b = z := by simpa using hb.symm
        subst hbz
        rw [hold b (by simp), hold m (by simp [hh])]
        rcases List.mem_cons.1 hh with hh | hh
        ·subst hh; exact Int.le_refl _
        ·exact (List.pairwise_cons.1 hq.2).1 m hh
      rw [hold m hmm] at hge
      omega
   exact hcl m hmd x hr
end Go.Proofs.Ytlldjinejckbaaa.Pb

end
section
namespace Go.Proofs.Ytlldjinejckbaaa.Pf
open Go Go.RowKit Go.Proofs.YtlldjinejckbaaaW.PrintWords Go.Proofs.Ytlldjinejckbaaa.Mod Go.Proofs.Ytlldjinejckbaaa.Pg Go.Proofs.Ytlldjinejckbaaa.Pb Go.Proofs.Ytlldjinejckbaaa.Gi Go.Proofs.Ytlldjinejckbaaa.Cl Go.Proofs.Ytlldjinejckbaaa.Cy Go.Proofs.Ytlldjinejckbaaa.PD Go.Proofs.Ytlldjinejckbaaa.Ng Go.Proofs.Ytlldjinejckbaaa.Lb
set_option linter.unusedVariables false
theorem bfs_spec {n : Nat} (hn : n ≤ 1000) {rows : List (List Int)} {R : Int → Int → Prop} (hT : Tells n rows R) {s : Int} : ∀ (k : Nat) (done far q : List Int), BI n R s done far q → n < k + done.length →
  (done ++ (bfs rows k far q).map (·.1)).Nodup ∧ (∀ x ∈ bfs rows k far q, ∃ d : Nat, x.2 = (d : Int) ∧ Dist R s x.1 d ∧ d < n ∧ 0 ≤ x.1 ∧ x.1 < n) ∧ (∀ (j : Nat) (v : Int), Pa R j s v → v ∈ done ++ (bfs rows k far q).map (·.1)) ∧
  (bfs rows k far q).Pairwise (fun a b => a.2 ≤ b.2) ∧ (∀ x ∈ bfs rows k far q, ∀ b ∈ q.head?, rd far b ≤ x.2 + 1)
 | 0, done, far, q, h, hk => by
  have h1 := nodup_len h.nd h.rng
  rw [List.length_append] at h1
  omega
 | k + 1, done, far, [], h, hk => by
  have e : bfs rows (k + 1) far [] = [] := rfl
  rw [e]
  have hst := h.st
  have hcl := h.cl
  have hnd := h.nd
  rw [List.append_nil] at hst hnd
  refine ⟨by simpa using hnd, fun x hx => by simp at hx, ?_, List.Pairwise.nil, fun x hx => by simp at hx⟩
  intro j
  rw [List.map_nil, List.append_nil]
  induction j with
  | zero => intro v hv; cases hv; exact hst
  | succ j ih => rintro v ⟨m, hm, hr⟩; simpa using hcl m (ih m hm) v hr
 | k + 1, done, far, v :: q, h, hk => by
  have hs := h.step hn hT
  obtain ⟨a, b, c, d, e⟩ := bfs_spec hn hT k _ _ _ hs (by rw [List.length_append]; simp only [List.length_cons, List.length_nil]; omega)
  have hvm : v ∈ done ++ v :: q := by simp
  obtain ⟨dv, e1, e2, e3⟩ := h.dist v hvm
  have hlen := nodup_len h.nd h.rng
  have hw : wrap64 (rd far v - 1) = (dv : Int) := by rw [Po.wrap_small (by omega) (by omega)]; omega
  show (done ++ (((v, wrap64 (rd far v - 1)) :: bfs rows k (relax v (row rows v) far q).1 (relax v (row rows v) far q).2) : List (Int × Int)).map (·.1)).Nodup ∧ (∀ x ∈ (((v, wrap64 (rd far v - 1)) :: bfs rows k (relax v (row rows v) far q).1 (relax v (row rows v) far q).2) : List (Int × Int)), _) ∧ (∀ (j : Nat) (w : Int), Pa R j s w → w ∈ done ++ (((v, wrap64 (rd far v - 1)) :: bfs rows k (relax v (row rows v) far q).1 (relax v (row rows v) far q).2) : List (Int × Int)).map (·.1)) ∧
   (((v, wrap64 (rd far v - 1)) :: bfs rows k (relax v (row rows v) far q).1 (relax v (row rows v) far q).2) : List (Int × Int)).Pairwise (fun a b => a.2 ≤ b.2) ∧ (∀ x ∈ (((v, wrap64 (rd far v - 1)) :: bfs rows k (relax v (row rows v) far q).1 (relax v (row rows v) far q).2) : List (Int × Int)), _)
  rw [hw]
  generalize hB : bfs rows k (relax v (row rows v) far q).1 (relax v (row rows v) far q).2 = B at a b c d e
  have e4 : done ++ List.map (·.1) ((v, (dv : Int)) :: B) = done ++ [v] ++ B.map (·.1) := by simp
  rw [e4]
  have hall : ∀ x ∈ B, rd far v ≤ x.2 + 1 := by
   intro x hx
   have hvd : v ∈ done ++ [v] := by simp
   have hv2 := hs.dist v (List.mem_append_left _ hvd)
   obtain ⟨d2, f1, f2, _⟩ := hv2
   have := f2.eq e2
   cases hq : (relax v (row rows v) far q).2 with
   | nil => rw [hq] at hB; cases k <;> (rw [← hB] at hx; simp [bfs] at hx)
   | cons z zs =>
    have h1 := e x hx z (by rw [hq]; simp)
    have h2 := hs.old v hvd z (by rw [hq]; simp)
    omega
  refine ⟨a, fun x hx => ?_, c, List.pairwise_cons.2 ⟨fun x hx => ?_, d⟩, fun x hx b hb => ?_⟩
  ·rcases List.mem_cons.1 hx with hx | hx
   ·subst hx; exact ⟨dv, rfl, e2, by omega, (h.rng v hvm).1, (h.rng v hvm).2⟩
   ·exact b x hx
  ·have := hall x hx
   show (dv : Int) ≤ x.2
   omega
  ·have hbv : b = v := by simpa using hb.symm
   subst hbv
   rcases List.mem_cons.1 hx with hx | hx
   ·subst hx; show _ ≤ (dv : Int) + 1; omega
   ·exact hall x hx
theorem BI.start {n : Nat} {R : Int → Int → Prop} {s : Int} (h0 : 0 ≤ s) (h1 : s < n) : BI n R s [] ((List.replicate n 0).set s.toNat 1) [s] := by
 have hr : ∀ x : Int, rd (List.replicate n 0) x = 0 := fun x => by unfold rd; rw [List.getD_eq_getElem?_getD]; cases h : (List.replicate n (0 : Int))[x.toNat]? with
  | none => rfl
  | some v => have := List.mem_of_getElem? h; simp at this; simp [this]
 have hs : rd ((List.replicate n 0).set s.toNat 1) s = 1 := rd_set_same _ _ _ h0 (by simpa using h1)
 have hD : Dist R s s 0 := ⟨rfl, fun k hk => by omega⟩
 refine ⟨by simp, by simp, fun v hv => by simp at hv; subst hv; exact ⟨h0, h1⟩, fun v v0 v1 => ?_, fun v hv => ?_, fun v hv => by simp at hv, by simp, by simp, fun a ha b hb => ?_, fun a ha => by simp at ha, fun b hb k x hp hk => ?_⟩
 ·by_cases e : v = s
  ·subst e; rw [hs]; simp
  ·rw [rd_set_other _ _ _ _ v0 h0 e, hr]; simp [e]
 ·have : v = s := by simpa using hv
  subst this
  exact ⟨0, by rw [hs]; rfl, hD, by simp⟩
 ·have : a = s := by simpa using ha
  subst this
  have : b = a := by simpa using hb.symm
  subst this
  omega
 ·have : b = s := by simpa using hb.symm
  subst this
  rw [hs] at hk
  have : k = 0 := by omega
  subst this
  cases hp
  simp
structure FromS (n : Nat) (R : Int → Int → Prop) (s : Int) (P : List (Int × Int)) : Prop where
 nd : (P.map (·.1)).Nodup
 dist : ∀ x ∈ P, ∃ d : Nat, x.2 = (d : Int) ∧ Dist R s x.1 d ∧ d < n ∧ 0 ≤ x.1 ∧ x.1 < n
 all : ∀ (j : Nat) (v : Int), Pa R j s v → v ∈ P.map (·.1)
 mono : P.Pairwise (fun a b => a.2 ≤ b.2)
theorem from_spec {n : Nat} (hn : n ≤ 1000) {rows : List (List Int)} {R : Int → Int → Prop} (hT : Tells n rows R) {s : Int} (h0 : 0 ≤ s) (h1 : s < n) : FromS n R s (fromOf rows s) := by
 unfold fromOf
 rw [hT.len]
 obtain ⟨a, b, c, d, e⟩ := bfs_spec hn hT (n + 1) [] _ _ (BI.start h0 h1) (by simp)
 exact ⟨by simpa using a, b, fun j v hp => by simpa using c j v hp, d⟩
theorem FromS.get {n : Nat} {R : Int → Int → Prop} {s : Int} {P : List (Int × Int)} (h : FromS n R s P) {v : Int} {d : Nat} (hd : Dist R s v d) : (v, (d : Int)) ∈ P := by
 obtain ⟨x, hx, e⟩ := List.mem_map.1 (h.all d v hd.1)
 obtain ⟨d', e1, e2, _⟩ := h.dist x hx
 rw [e] at e2
 have := e2.eq hd
 subst this
 rw [← e1, ← e]; exact hx
def Loop (R : Int → Int → Prop) (v : Int) (g : Nat) : Prop := 1 ≤ g ∧ Pa R g v v ∧ ∀ k, 1 ≤ k → k < g → ¬ Pa R k v v
theorem girth_spec {n : Nat} (hn : n ≤ 1000) {rows : List (List Int)} {R : Int → Int → Prop} (hT : Tells n rows R) {v : Int} (h0 : 0 ≤ v) (h1 : v < n) :
  (girthOf rows v = 0 ∧ ∀ k, 1 ≤ k → ¬ Pa R k v v) ∨ ∃ g : Nat, girthOf rows v = (g : Int) ∧ g ≤ n ∧ Loop R v g := by
 have hF := from_spec hn hT h0 h1
 unfold girthOf
 cases hf : (fromOf rows v).find? (fun x => (row rows x.1).contains v) with
 | none =>
  refine .inl ⟨rfl, fun k hk hp => ?_⟩
  obtain ⟨k', rfl⟩ : ∃ k', k = k' + 1 := ⟨k - 1, by omega⟩
  obtain ⟨m, hm, hr⟩ := hp
  obtain ⟨x, hx, e⟩ := List.mem_map.1 (hF.all k' m hm)
  have := List.find?_eq_none.1 hf x hx
  obtain ⟨d, e1, e2, e3, e4, e5⟩ := hF.dist x hx
  rw [e] at this
  exact this (by simpa using (hT.row m v (e ▸ e4) (e ▸ e5)).2 hr)
 | some x =>
  obtain ⟨hpx, as9, bs9, hs, hno⟩ := List.find?_eq_some_iff_append.1 hf
  obtain ⟨d, e1, e2, e3, e4, e5⟩ := hF.dist x (by rw [hs]; simp)
  have hx1 : R x.1 v := (hT.row x.1 v e4 e5).1 (by simpa using hpx)
  refine .inr ⟨d + 1, ?_, by omega, by omega, ⟨x.1, e2.1, hx1⟩, fun k hk hkd hp => ?_⟩
  ·show wrap64 (x.2 + 1) = _
   rw [Po.wrap_small (by omega) (by omega)]; omega
  ·obtain ⟨k', rfl⟩ : ∃ k', k = k' + 1 := ⟨k - 1, by omega⟩
   obtain ⟨m, hm, hr⟩ := hp
   obtain ⟨y, hy, e⟩ := List.mem_map.1 (hF.all k' m hm)
   obtain ⟨dy, f1, f2, f3, f4, f5⟩ := hF.dist y hy
   have hle := f2.le (e.symm ▸ hm)
   have hm2 := hF.mono
   rw [hs, List.pairwise_append] at hm2
   rw [hs] at hy
   rcases List.mem_append.1 hy with hy | hy
   ·have := hno y hy
    have h3 : v ∈ row rows y.1 := (hT.row y.1 v f4 f5).2 (e ▸ hr)
    simp [h3] at this
   ·rcases List.mem_cons.1 hy with hy | hy
    ·subst hy; omega
    ·have := (List.pairwise_cons.1 hm2.2.1).1 y hy
     omega
structure Least (n : Nat) (R : Int → Int → Prop) (best first : Int) (k : Nat) : Prop where
 none_ : best = 0 → ∀ v : Int, 0 ≤ v → v < k → ∀ j, 1 ≤ j → ¬ Pa R j v v
 some_ : best ≠ 0 → ∃ g : Nat, best = (g : Int) ∧ g ≤ n ∧ 0 ≤ first ∧ first < k ∧ Loop R first g ∧ (∀ v : Int, 0 ≤ v → v < k → ∀ j, 1 ≤ j → j < g → ¬ Pa R j v v) ∧ ∀ v : Int, 0 ≤ v → v < first → ¬ Pa R g v v
theorem least1_spec {n : Nat} (hn : n ≤ 1000) {rows : List (List Int)} {R : Int → Int → Prop} (hT : Tells n rows R) : ∀ k, k ≤ n → Least n R (least1 rows k).1 (least1 rows k).2 k
 | 0, _ => ⟨fun _ v h0 h1 => by omega, fun h => absurd rfl h⟩
 | k + 1, hk => by
  have ih := least1_spec hn hT k (by omega)
  rw [least1_succ]
  generalize least1 rows k = s at ih
  obtain ⟨best, first⟩ := s
  have hg := girth_spec hn hT (v := (k : Int)) (by omega) (by omega)
  unfold pick1
  have hcase : ∀ v : Int, v < (k + 1 : Nat) → v < k ∨ v = k := fun v hv => by omega
  rcases hg with ⟨hg, hno⟩ | ⟨g, hg, hgn, hL⟩
  ·rw [hg, if_neg (by omega)]
   refine ⟨fun hb v h0 h1 j hj => ?_, fun hb => ?_⟩
   ·rcases hcase v h1 with h | h
    ·exact ih.none_ hb v h0 h j hj
    ·subst h; exact hno j hj
   ·obtain ⟨g, a, b, c, d, e, f, i⟩ := ih.some_ hb
    refine ⟨g, a, b, c, by omega, e, fun v h0 h1 j hj hjg => ?_, i⟩
    rcases hcase v h1 with h | h
    ·exact f v h0 h j hj hjg
    ·subst h; exact hno j hj
  ·have hg0 : 0 < (g : Int) := by have := hL.1; omega
   rw [hg]
   by_cases hc : 0 < (g : Int) ∧ (best = 0 ∨ (g : Int) < best)
   ·rw [if_pos hc]
    refine ⟨fun hb => by have : (g : Int) = 0 := hb; omega, fun _ => ⟨g, rfl, hgn, by show (0 : Int) ≤ (k : Int); omega, by show (k : Int) < _; omega, hL, fun v h0 h1 j hj hjg => ?_, fun v h0 h1 => ?_⟩⟩
    ·rcases hcase v h1 with h | h
     ·rcases hc.2 with hb | hb
      ·exact ih.none_ hb v h0 h j hj
      ·obtain ⟨g', a, b, c, d, e, f, i⟩ := ih.some_ (show best ≠ 0 by omega)
       have a' : best = (g' : Int) := a
       exact f v h0 h j hj (by omega)
     ·subst h; exact hL.2.2 j hj hjg
    ·rcases hc.2 with hb | hb
     ·exact ih.none_ hb v h0 h1 g hL.1
     ·obtain ⟨g', a, b, c, d, e, f, i⟩ := ih.some_ (show best ≠ 0 by omega)
      have a' : best = (g' : Int) := a
      exact f v h0 h1 g hL.1 (by omega)
   ·rw [if_neg hc]
    have hb0 : best ≠ 0 := fun hb => hc ⟨hg0, .inl hb⟩
    refine ⟨fun hb => absurd hb hb0, fun _ => ?_⟩
    obtain ⟨g', a, b, c, d, e, f, i⟩ := ih.some_ hb0
    have a' : best = (g' : Int) := a
    refine ⟨g', a, b, c, by omega, e, fun v h0 h1 j hj hjg => ?_, i⟩
    rcases hcase v h1 with h | h
    ·exact f v h0 h j hj hjg
    ·subst h; exact hL.2.2 j hj (by have : ¬ ((g : Int) < best) := fun hh => hc ⟨hg0, .inr hh⟩; omega)
theorem leftOf_spec {n : Nat} {R : Int → Int → Prop} {s : Int} : ∀ (P : List (Int × Int)) (l0 : List Int), l0.length = n → (P.map (·.1)).Nodup → (∀ x ∈ P, 0 ≤ x.1 ∧ x.1 < n) → ∀ v : Int, 0 ≤ v → v < n →
  (∀ d, (v, d) ∈ P → rd (P.foldl (fun l x => l.set x.1.toNat x.2) l0) v = d) ∧ (v ∉ P.map (·.1) → rd (P.foldl (fun l x => l.set x.1.toNat x.2) l0) v = rd l0 v)
 | [], l0, _, _, _, v, _, _ => ⟨fun d h => by simp at h, fun _ => rfl⟩
 | x :: P, l0, hl, hn, hr, v, h0, h1 => by
  rw [List.map_cons, List.nodup_cons] at hn
  obtain ⟨a, b⟩ := leftOf_spec (R := R) (s := s) P (l0.set x.1.toNat x.2) (by simpa using hl) hn.2 (fun y hy => hr y (by simp [hy])) v h0 h1
  obtain ⟨x0, x1⟩ := hr x (by simp)
  rw [List.foldl_cons]
  refine ⟨fun d hd => ?_, fun hv => ?_⟩
  ·rcases List.mem_cons.1 hd with hd | hd
   ·subst hd
    rw [b hn.1, rd_set_same _ _ _ h0 (by omega)]
   ·exact a d hd
  ·have hv' : v ≠ x.1 ∧ v ∉ P.map (·.1) := by simpa using hv
   rw [b hv'.2, rd_set_other _ _ _ _ h0 x0 hv'.1]
structure CycS (n : Nat) (R : Int → Int → Prop) (out : List Int) : Prop where
 pos : 1 ≤ out.length
 le : out.length ≤ n
 rng : ∀ v ∈ out, 0 ≤ v ∧ v < n
 nd : out.Nodup
 least : ∀ v ∈ out, rd out 0 ≤ v
 next : ∀ i : Nat, i + 1 < out.length → R (rd out i) (rd out (i + 1 : Nat))
 close : R (rd out (out.length - 1 : Nat)) (rd out 0)
 short : ∀ v : Int, 0 ≤ v → v < n → ∀ j, 1 ≤ j → j < out.length → ¬ Pa R j v v
structure Part (R : Int → Int → Prop) (first : Int) (best : Nat) (out : List Int) : Prop where
 pos : 1 ≤ out.length
 le : out.length ≤ best
 head : rd out 0 = first
 dist : ∀ i : Nat, 1 ≤ i → i < out.length → Dist R (rd out i) first (best - i)
 next : ∀ i : Nat, i + 1 < out.length → R (rd out i) (rd out (i + 1 : Nat))
theorem rd_append_left {l m : List Int} {i : Nat} (h : i < l.length) : rd (l ++ m) i = rd l i := by
 unfold rd
 rw [List.getD_eq_getElem?_getD, List.getD_eq_getElem?_getD, List.getElem?_append_left (by simpa using h)]
theorem rd_append_len {l : List Int} {x : Int} : rd (l ++ [x]) (l.length : Nat) = x := by
 unfold rd
 rw [List.getD_eq_getElem?_getD, List.getElem?_append_right (by simp)]
 simp
theorem cycGo_spec {n : Nat} {rows : List (List Int)} {R : Int → Int → Prop} (hT : Tells n rows R) {first : Int} {best : Nat} (hbn : best ≤ 1000) (hL : Loop R first best) (f0 : 0 ≤ first) (f1 : first < n) {left : List Int}
  (hleft : ∀ y : Int, 0 ≤ y → y < n → ∀ d : Nat, Dist R y first d → rd left y = (d : Int)) (hleft0 : ∀ y : Int, 0 ≤ y → y < n → rd left y ≠ 0 → ∃ d : Nat, rd left y = (d : Int) ∧ Dist R y first d) :
  ∀ (k : Nat) (out : List Int), Part R first best out → best ≤ k + out.length → (∀ v ∈ out, 0 ≤ v ∧ v < (n : Int)) → ∃ r, cycGo rows left first best k out = some r ∧ Part R first best r ∧ r.length = best ∧ ∀ v ∈ r, 0 ≤ v ∧ v < (n : Int)
 | 0, out, hp, hk, hrng => by
  have h1 := hp.le
  refine ⟨out, ?_, hp, by omega, hrng⟩
  unfold cycGo
  rw [if_neg (by omega)]
 | k + 1, out, hp, hk, hrng => by
  have h1 := hp.le
  unfold cycGo
  by_cases hc : (out.length : Int) < (best : Int)
  ·rw [if_pos hc]
   have hpos := hp.pos
   have hlast : ∃ m, R (lastOf out) m ∧ Dist R m first (best - out.length) := by
    by_cases h2 : out.length = 1
    ·have e : lastOf out = first := by unfold lastOf; rw [h2]; exact hp.head
     obtain ⟨l0, l1, l2⟩ := hL
     obtain ⟨b, rfl⟩ : ∃ b, best = 1 + b := ⟨best - 1, by omega⟩
     obtain ⟨m, ⟨a, ha, hr⟩, hm2⟩ := Pa.split l1
     cases ha
     rw [e, h2]
     refine ⟨m, hr, ⟨by rw [Nat.add_sub_cancel_left]; exact hm2, fun j hj hpj => ?_⟩⟩
     exact l2 (1 + j) (by omega) (by omega) ((Pa.one hr).add hpj)
    ·have h3 := hp.dist (out.length - 1) (by omega) (by omega)
     have e : best - (out.length - 1) = best - out.length + 1 := by omega
     rw [e] at h3
     obtain ⟨m, hr, hm⟩ := h3.next
     refine ⟨m, ?_, hm⟩
     have e2 : lastOf out = rd out ((out.length - 1 : Nat) : Int) := by
      unfold lastOf
      congr 1
      omega
     rw [e2]; exact hr
   obtain ⟨m, hr, hm⟩ := hlast
   have hlm : lastOf out ∈ out := by
    unfold lastOf rd
    rw [List.getD_eq_getElem?_getD, List.getElem?_eq_getElem (by omega)]
    exact List.getElem_mem _
   obtain ⟨q0, q1⟩ := hrng _ hlm
   have hw : wrap64 ((best : Int) - (out.length : Int)) = ((best - out.length : Nat) : Int) := by rw [Po.wrap_small (by omega) (by omega)]; omega
   cases hf : (row rows (lastOf out)).find? (hits left first best out.length) with
   | none =>
    have h5 := List.find?_eq_none.1 hf m ((hT.row _ m q0 q1).2 hr)
    obtain ⟨_, _, m0, m1⟩ := hT.ok _ _ hr
    exfalso
    apply h5
    unfold hits
    have hne : m ≠ first := fun e => by subst e; exact hm.2 0 (by omega) rfl
    rw [hleft m m0 m1 _ hm, hw]
    simp [hne]
   | some y =>
    have hy := List.mem_of_find?_eq_some hf
    have hyp := List.find?_some hf
    have hRy := (hT.row _ y q0 q1).1 hy
    obtain ⟨_, _, y0, y1⟩ := hT.ok _ _ hRy
    unfold hits at hyp
    rw [hw] at hyp
    have hyp' : y ≠ first ∧ rd left y = ((best - out.length : Nat) : Int) := by simpa using hyp
    obtain ⟨d, e1, e2⟩ := hleft0 y y0 y1 (by rw [hyp'.2]; omega)
    have hd : d = best - out.length := by have := hyp'.2; omega
    subst hd
    refine cycGo_spec hT hbn hL f0 f1 hleft hleft0 k (out ++ [y]) ⟨by simp, by simp; omega, ?_, fun i hi hil => ?_, fun i hi => ?_⟩ (by simp; omega) (fun v hv => ?_)
    ·have := rd_append_left (l := out) (m := [y]) (i := 0) (by omega)
     exact this.trans hp.head
    ·rw [List.length_append] at hil
     simp only [List.length_cons, List.length_nil] at hil
     by_cases h6 : i < out.length
     ·rw [rd_append_left h6]; exact hp.dist i hi h6
     ·have : i = out.length := by omega
      subst this
      rw [rd_append_len]; exact e2
    ·rw [List.length_append] at hi
     simp only [List.length_cons, List.length_nil] at hi
     by_cases h6 : i + 1 < out.length
     ·rw [rd_append_left h6, rd_append_left (by omega)]; exact hp.next i h6
     ·have e3 : i + 1 = out.length := by omega
      have e4 : lastOf out = rd out (i : Int) := by unfold lastOf; congr 1; omega
      rw [rd_append_left (by omega), e3, rd_append_len, ← e4]
      exact hRy
    ·rcases List.mem_append.1 hv with hv | hv
     ·exact hrng v hv
     ·rw [List.mem_singleton] at hv; subst hv; exact ⟨y0, y1⟩
  ·rw [if_neg hc]
   exact ⟨out, rfl, hp, by omega, hrng⟩
theorem mem_rd {l : List Int} {v : Int} (h : v ∈ l) : ∃ i : Nat, i < l.length ∧ rd l i = v := by
 obtain ⟨i, hi, e⟩ := List.getElem_of_mem h
 refine ⟨i, hi, ?_⟩
 unfold rd
 rw [List.getD_eq_getElem?_getD, Int.toNat_natCast, List.getElem?_eq_getElem hi]
 exact e
theorem Part.path {R : Int → Int → Prop} {first : Int} {best : Nat} {out : List Int} (h : Part R first best out) : ∀ i : Nat, i < out.length → Pa R i first (rd out i)
 | 0, _ => h.head.symm
 | i + 1, hi => ⟨_, h.path i (by omega), h.next i hi⟩
theorem Part.done {n : Nat} {R : Int → Int → Prop} {first : Int} {best : Nat} {out : List Int} (h : Part R first best out) (hb : out.length = best) (hbn : best ≤ n) (hL : Loop R first best) (hr : ∀ v ∈ out, 0 ≤ v ∧ v < (n : Int))
  (hs : ∀ v : Int, 0 ≤ v → v < n → ∀ j, 1 ≤ j → j < best → ¬ Pa R j v v) (hf : ∀ v : Int, 0 ≤ v → v < first → ¬ Pa R best v v) : CycS n R out := by
 have hd : ∀ i : Nat, i < out.length → ∃ k : Nat, Dist R (rd out i) first k ∧ k = (if i = 0 then 0 else best - i) := fun i hi => by
  by_cases e : i = 0
  ·subst e
   refine ⟨0, ⟨h.head, fun k hk => by omega⟩, by simp⟩
  ·exact ⟨best - i, h.dist i (by omega) hi, by rw [if_neg e]⟩
 refine ⟨h.pos, by omega, hr, ?_, fun v hv => ?_, h.next, ?_, fun v h0 h1 j hj hjb => hs v h0 h1 j hj (by omega)⟩
 ·rw [List.nodup_iff_pairwise_ne, List.pairwise_iff_getElem]
  intro i j hi hj hij e
  have ei : rd out i = out[i] := by unfold rd; rw [List.getD_eq_getElem?_getD, Int.toNat_natCast, List.getElem?_eq_getElem hi]; rfl
  have ej : rd out j = out[j] := by unfold rd; rw [List.getD_eq_getElem?_getD, Int.toNat_natCast, List.getElem?_eq_getElem hj]; rfl
  obtain ⟨a, ha, ka⟩ := hd i hi
  obtain ⟨b, hb2, kb⟩ := hd j hj
  rw [ei] at ha
  rw [ej, ← e] at hb2
  have := ha.eq hb2
  rw [if_neg (by omega)] at kb
  split at ka <;> omega
 ·obtain ⟨i, hi, e⟩ := mem_rd hv
  rw [h.head]
  refine Classical.byContradiction fun hlt => ?_
  have hi0 : i ≠ 0 := fun e0 => by subst e0; have := h.head; rw [← e] at hlt; simp [this] at hlt
  have h1 := h.dist i (by omega) hi
  rw [e] at h1
  have h2 := h.path i hi
  rw [e] at h2
  have h3 := h1.1.add h2
  rw [show best - i + i = best by omega] at h3
  exact hf v (hr v hv).1 (by omega) h3
 ·have hz : ((0 : Nat) : Int) = 0 := rfl
  by_cases e : out.length = 1
  ·rw [e]
   show R (rd out 0) (rd out 0)
   rw [h.head]
   have h2 := hL.2.1
   rw [← hb, e] at h2
   obtain ⟨m, hm, hr⟩ := h2
   cases hm; exact hr
  ·have hp := h.pos
   have h1 := h.dist (out.length - 1) (by omega) (by omega)
   rw [show best - (out.length - 1) = 1 by omega] at h1
   obtain ⟨m, hm, hr⟩ := h1.1
   cases hm
   rw [h.head]; exact hr
theorem cycle_spec {n : Nat} (hn : n ≤ 1000) {l : List S55} (hl : Ok n l) :
  (cycleOf n l = some ([], 4) ∧ ∀ v : Int, 0 ≤ v → v < n → ∀ j, 1 ≤ j → ¬ Pa (E l) j v v) ∨ ∃ out, cycleOf n l = some (out, 0) ∧ CycS n (E l) out := by
 have hT := tells_nx hl
 have hB := tells_pv hl
 have hLe := least1_spec hn hT n (Nat.le_refl _)
 unfold cycleOf
 show ((if (least1 (nx n l) n).1 = 0 then some ([], 4) else if 1000000 < (least1 (nx n l) n).1 then none else
  (cycGo (nx n l) (Cy.leftOf n (fromOf (pv n l) (least1 (nx n l) n).2)) (least1 (nx n l) n).2 (least1 (nx n l) n).1 (least1 (nx n l) n).1.toNat [(least1 (nx n l) n).2]).map fun r => (r, 0)) = some ([], 4) ∧ _) ∨ _
 generalize hs : least1 (nx n l) n = s at hLe
 obtain ⟨best, first⟩ := s
 by_cases hb : best = 0
 ·subst hb
  exact .inl ⟨by rw [if_pos rfl], hLe.none_ rfl⟩
 ·obtain ⟨g, rfl, hgn, f0, f1, hL, hsh, hfi⟩ := hLe.some_ hb
  right
  have hF := from_spec hn hB f0 f1
  have hleft : ∀ y : Int, 0 ≤ y → y < n → ∀ d : Nat, Dist (E l) y first d → rd (Cy.leftOf n (fromOf (pv n l) first)) y = (d : Int) := fun y y0 y1 d hd =>
   (leftOf_spec (n := n) (R := E l) (s := first) (fromOf (pv n l) first) _ (by simp) hF.nd (fun x hx => by obtain ⟨_, _, _, _, a, b⟩ := hF.dist x hx; exact ⟨a, b⟩) y y0 y1).1 d (hF.get hd.flip)
  have hleft0 : ∀ y : Int, 0 ≤ y → y < n → rd (Cy.leftOf n (fromOf (pv n l) first)) y ≠ 0 → ∃ d : Nat, rd (Cy.leftOf n (fromOf (pv n l) first)) y = (d : Int) ∧ Dist (E l) y first d := fun y y0 y1 hne => by
   by_cases hm : y ∈ (fromOf (pv n l) first).map (·.1)
   ·obtain ⟨x, hx, e⟩ := List.mem_map.1 hm
    obtain ⟨d, e1, e2, _⟩ := hF.dist x hx
    rw [e] at e2
    have e3 : Dist (E l) y first d := e2.flip
    exact ⟨d, hleft y y0 y1 d e3, e3⟩
   ·have := (leftOf_spec (n := n) (R := E l) (s := first) (fromOf (pv n l) first) (List.replicate n 0) (by simp) hF.nd (fun x hx => by obtain ⟨_, _, _, _, a, b⟩ := hF.dist x hx; exact ⟨a, b⟩) y y0 y1).2 hm
    exfalso
    apply hne
    refine this.trans ?_
    unfold rd; rw [List.getD_eq_getElem?_getD]
    cases h : (List.replicate n (0 : Int))[y.toNat]? with
    | none => rfl
    | some v => have := List.mem_of_getElem? h; simp at this; simp [this]
  obtain ⟨r, hr, hp, hrl, hrr⟩ := cycGo_spec hT (by omega) hL f0 f1 hleft hleft0 g [first] ⟨by simp, by simpa using hL.1, rfl, fun i hi hil => by simp at hil; omega, fun i hi => by simp at hi⟩ (by simp) (fun v hv => by simp at hv; subst hv; exact ⟨f0, f1⟩)
  refine ⟨r, ?_, hp.done hrl hgn hL hrr hsh hfi⟩
  show (if (g : Int) = 0 then _ else if 1000000 < (g : Int) then none else (cycGo (nx n l) (Cy.leftOf n (fromOf (pv n l) first)) first (g : Int) (g : Int).toNat [first]).map fun r => (r, 0)) = _
  rw [if_neg hb, if_neg (by omega), Int.toNat_natCast, hr]
  rfl
end Go.Proofs.Ytlldjinejckbaaa.Pf

end
section
namespace Go.Proofs.Ytlldjinejckbaaa.PD
open Go.RowKit Go.Proofs.YtlldjinejckbaaaW.PrintWords Go.Proofs.YtlldjinejckbaaaW.PrintLast Go.Proofs.YtlldjinejckbaaaW.PrintMore
attribute [local go_sem] max2_int min2_int max_two min_two max_three min_three max_four min_four
set_option linter.unusedVariables false
set_option linter.unusedSimpArgs false
end Go.Proofs.Ytlldjinejckbaaa.PD

end
section
namespace Go.Proofs.Ytlldjinejckbaaa.PD
open Go.RowKit Go.Proofs.YtlldjinejckbaaaW.PrintWords Go.Proofs.YtlldjinejckbaaaW.PrintLast Go.Proofs.YtlldjinejckbaaaW.PrintMore
attribute [local go_sem] max2_int min2_int max_two min_two max_three min_three max_four min_four
set_option linter.unusedVariables false
set_option linter.unusedSimpArgs false
end Go.Proofs.Ytlldjinejckbaaa.PD

end
section
namespace Go.Proofs.Ytlldjinejckbaaa.PD
open Go Go.RowKit Go.Proofs.YtlldjinejckbaaaW.PrintWords Go.Proofs.YtlldjinejckbaaaW.PrintLast Go.Proofs.YtlldjinejckbaaaW.PrintMore
open Go.Proofs.Ytlldjinejckbaaa.Pg Go.Proofs.Ytlldjinejckbaaa.Pb
theorem ok_condW {n : Nat} (hn : n ≤ 12) {l : List S55} (hl : Ok n l) (hlen : l.length ≤ 1000) : 0 ≤ (n : Int) ∧ (n : Int) ≤ 1000 ∧ l.length ≤ 10000 ∧ ∀ e ∈ l, 0 ≤ e.f0 ∧ e.f0 < (n : Int) ∧ 0 ≤ e.f1 ∧ e.f1 < (n : Int) := ⟨by omega, by omega, by omega, hl⟩
theorem rdT_getW {l : List S55} {i : Nat} (h : i < l.length) : rd_T55 l (i : Int) = l[i] := by
 unfold rd_T55
 rw [Int.toNat_natCast, List.getD_eq_getElem?_getD, List.getElem?_eq_getElem h]
 rfl
theorem wrap_nextW {i : Nat} (h : i ≤ 100000) : wrap64 ((i : Int) + 1) = ((i + 1 : Nat) : Int) := by rw [wrap_ok (by omega) (by omega)]; omega
end Go.Proofs.Ytlldjinejckbaaa.PD

end
section
namespace Go.Proofs.Ytlldjinejckbaaa.PD
open Go Go.RowKit Go.Proofs.YtlldjinejckbaaaW.PrintWords Go.Proofs.YtlldjinejckbaaaW.PrintLast Go.Proofs.YtlldjinejckbaaaW.PrintMore
open Go.Proofs.Ytlldjinejckbaaa.Pg Go.Proofs.Ytlldjinejckbaaa.Pb Go.Proofs.Ytlldjinejckbaaa.Pf
theorem rd_getL {l : List Int} {i : Nat} (h : i < l.length) : rd l (i : Int) = l[i] := by
 unfold rd
 rw [List.getD_eq_getElem?_getD, Int.toNat_natCast, List.getElem?_eq_getElem h]
 rfl
theorem in_goL {l : List Int} (hlen : l.length ≤ 1000) (x : Int) : ∀ (d i : Nat), i + d = l.length → ∀ r : Bool, (r = true ↔ x ∈ l.drop i) → Ev (fun k => wireloomref05_In.l0 k l x i) r := by
 intro d
 induction d with
 | zero =>
  intro i hi r hr
  obtain rfl : i = l.length := by omega
  rw [List.drop_length] at hr
  have : r = false := by
   cases r
   ·rfl
   ·have := hr.1 rfl; simp at this
  subst this
  refine Ev.step (f := fun _ => some false) (fun k => ?_) (Ev.now _)
  simp only [wireloomref05_In.l0]
  rw [if_neg (by omega)]
 | succ d ih =>
  intro i hi r hr
  have hil : i < l.length := by omega
  have e : l.drop i = l[i] :: l.drop (i + 1) := List.drop_eq_getElem_cons hil
  by_cases hc : l[i] = x
  ·have : r = true := hr.2 (by rw [e, hc]; exact List.mem_cons_self)
   subst this
   refine Ev.step (f := fun _ => some true) (fun k => ?_) (Ev.now _)
   simp only [wireloomref05_In.l0]
   rw [if_pos (Int.ofNat_lt.2 hil), if_pos (Int.natCast_nonneg i), rd_getL hil, if_pos hc]
  ·refine Ev.step (fun k => ?_) (ih (i + 1) (by omega) r (by
    rw [hr, e, List.mem_cons]
    exact ⟨fun h => h.resolve_left (fun h => hc h.symm), .inr⟩))
   simp only [wireloomref05_In.l0]
   rw [if_pos (Int.ofNat_lt.2 hil), if_pos (Int.natCast_nonneg i), rd_getL hil, wrap_nextW (by omega), if_neg hc]
theorem in_ev {l : List Int} (hlen : l.length ≤ 1000) (x : Int) {r : Bool} (hr : r = true ↔ x ∈ l) : Ev (fun k => wireloomref05_In.f k l x) r := in_goL hlen x l.length 0 (by omega) r (by simpa using hr)
structure ReachS (n : Nat) (l : List S55) (s : Int) (L : List Int) : Prop where
 lt : L.Pairwise (· < ·)
 mem : ∀ v, v ∈ L ↔ ∃ k, Pa (E l) k s v
 rng : ∀ v ∈ L, 0 ≤ v ∧ v < (n : Int)
 len : L.length ≤ n
theorem reach_spec {n : Nat} (hn : n ≤ 1000) {l : List S55} (hl : Ok n l) {s : Int} (h0 : 0 ≤ s) (h1 : s < n) : ReachS n l s (Rc.reachOf n l s) := by
 have hF := from_spec hn (tells_nx hl) h0 h1
 unfold Rc.reachOf
 rw [if_neg (by omega)]
 have hmem : ∀ v, v ∈ Lb.sortI ((Mod.fromOf (nx n l) s).map (·.1)) ↔ ∃ k, Pa (E l) k s v := fun v => by
  rw [Rc.mem_sortI]
  constructor
  ·intro h
   obtain ⟨x, hx, rfl⟩ := List.mem_map.1 h
   obtain ⟨d, _, hd, _⟩ := hF.dist x hx
   exact ⟨d, hd.1⟩
  ·rintro ⟨k, hk⟩; exact hF.all k v hk
 have hrng : ∀ v ∈ Lb.sortI ((Mod.fromOf (nx n l) s).map (·.1)), 0 ≤ v ∧ v < (n : Int) := fun v hv => by
  rw [Rc.mem_sortI] at hv
  obtain ⟨x, hx, rfl⟩ := List.mem_map.1 hv
  obtain ⟨d, _, _, _, a, b⟩ := hF.dist x hx
  exact ⟨a, b⟩
 have hnd : (Lb.sortI ((Mod.fromOf (nx n l) s).map (·.1))).Nodup := (List.mergeSort_perm _ _).nodup_iff.2 hF.nd
 refine ⟨?_, hmem, hrng, nodup_len hnd hrng⟩
 exact ((sortI_sorted _).and (List.nodup_iff_pairwise_ne.1 hnd)).imp (fun h => by have := h.1; have := h.2; omega)
theorem reach_atL {n : Nat} (hn : n ≤ 12) {l : List S55} (hl : Ok n l) (hlen : l.length ≤ 1000) (s : Int) : digraph_Reach.f n l s = some (Rc.reachOf n l s) := by
 unfold digraph_Reach.f
 rw [if_pos (ok_condW hn hl hlen), Int.toNat_natCast]
end Go.Proofs.Ytlldjinejckbaaa.PD

end
section
namespace Go.Proofs.Ytlldjinejckbaaa.Ph
open Go Go.RowKit Go.Proofs.YtlldjinejckbaaaW.PrintWords Go.Proofs.Ytlldjinejckbaaa.Mod Go.Proofs.Ytlldjinejckbaaa.Pg Go.Proofs.Ytlldjinejckbaaa.Pb Go.Proofs.Ytlldjinejckbaaa.Po Go.Proofs.Ytlldjinejckbaaa.PD
theorem closed_of_preds {n : Nat} {R : Int → Int → Prop} (S : Int → Prop) (hr : ∀ v, S v → 0 ≤ v ∧ v < (n : Int)) (hp : ∀ v, S v → ∃ u, S u ∧ R u v) {v0 : Int} (h0 : S v0) : ∃ v j, 0 ≤ v ∧ v < (n : Int) ∧ 1 ≤ j ∧ Pa R j v v := by
 obtain ⟨g, hg⟩ : ∃ g : { v : Int // S v } → { v : Int // S v }, ∀ x, R (g x).1 x.1 := ⟨fun x => ⟨Classical.choose (hp x.1 x.2), (Classical.choose_spec (hp x.1 x.2)).1⟩, fun x => (Classical.choose_spec (hp x.1 x.2)).2⟩
 have hf : ∃ f : Nat → { v : Int // S v }, ∀ k, R (f (k + 1)).1 (f k).1 := ⟨fun k => Nat.rec ⟨v0, h0⟩ (fun _ x => g x) k, fun k => hg _⟩
 obtain ⟨f, hf⟩ := hf
 have hpath : ∀ (d i : Nat), Pa R d (f (i + d)).1 (f i).1 := by
  intro d
  induction d with
  | zero => intro i; rfl
  | succ d ih =>
   intro i
   have h1 := ih (i + 1)
   refine ⟨(f (i + 1)).1, ?_, hf i⟩
   rw [show i + (d + 1) = i + 1 + d by omega]; exact h1
 have hnn : ¬ (((List.range (n + 1)).map fun k => (f k).1).Nodup) := fun hn => by
  have := nodup_len (n := n) hn (fun v hv => by obtain ⟨k, _, rfl⟩ := List.mem_map.1 hv; exact hr _ (f k).2)
  rw [List.length_map, List.length_range] at this
  omega
 have hex : ∃ i j : Nat, i < j ∧ (f i).1 = (f j).1 := Classical.byContradiction fun hno => hnn (by
  rw [List.nodup_iff_pairwise_ne, List.pairwise_map]
  have := List.pairwise_lt_range (n := n + 1)
  exact this.imp (fun {a b} hab e => hno ⟨a, b, hab, e⟩))
 obtain ⟨i, j, hij, e⟩ := hex
 refine ⟨(f i).1, j - i, (hr _ (f i).2).1, (hr _ (f i).2).2, by omega, ?_⟩
 have := hpath (j - i) i
 rw [show i + (j - i) = j by omega, ← e] at this
 exact this
theorem pos_lt {n : Nat} {l : List S55} {o : List Int} (hg : Greedy n l o) {i j : Nat} (hi : i < o.length) (hj : j < o.length) (he : E l (rd o (i : Int)) (rd o (j : Int))) : i < j := by
 have h1 := hg.before hj he
 rw [List.mem_iff_getElem] at h1
 obtain ⟨k, hk, e⟩ := h1
 rw [List.length_take] at hk
 rw [List.getElem_take, ← rd_get (by omega)] at e
 have hnd := hg.nodup
 have : k = i := by
  refine Classical.byContradiction fun hne => ?_
  rw [rd_get (by omega), rd_get hi] at e
  rcases Nat.lt_or_gt_of_ne hne with h | h
  ·exact List.pairwise_iff_getElem.1 (List.nodup_iff_pairwise_ne.1 hnd) k i (by omega) hi h e
  ·exact List.pairwise_iff_getElem.1 (List.nodup_iff_pairwise_ne.1 hnd) i k hi (by omega) h e.symm
 omega
theorem full_mem {n : Nat} {l : List S55} {o : List Int} (hg : Greedy n l o) (hl : o.length = n) {v : Int} (h0 : 0 ≤ v) (h1 : v < n) : ∃ i : Nat, i < o.length ∧ rd o (i : Int) = v := by
 have := nodup_all hg.nodup hg.range hl v h0 h1
 obtain ⟨i, hi, e⟩ := List.getElem_of_mem this
 exact ⟨i, hi, by rw [rd_get hi]; exact e⟩
theorem no_closed {n : Nat} {l : List S55} (hok : Ok n l) {o : List Int} (hg : Greedy n l o) (hl : o.length = n) : ∀ v : Int, 0 ≤ v → v < n → ∀ j, 1 ≤ j → ¬ Pa (E l) j v v := by
 have key : ∀ (j : Nat) (v w : Int), Pa (E l) (j + 1) v w → ∃ a b : Nat, a < o.length ∧ b < o.length ∧ rd o (a : Int) = v ∧ rd o (b : Int) = w ∧ a < b := by
  intro j
  induction j with
  | zero =>
   rintro v w ⟨m, hm, he⟩
   cases hm
   have := he.ok hok
   obtain ⟨a, ha, rfl⟩ := full_mem hg hl this.1 this.2.1
   obtain ⟨b, hb, rfl⟩ := full_mem hg hl this.2.2.1 this.2.2.2
   exact ⟨a, b, ha, hb, rfl, rfl, pos_lt hg ha hb he⟩
  | succ j ih =>
   rintro v w ⟨m, hm, he⟩
   obtain ⟨a, b, ha, hb, e1, e2, h⟩ := ih v m hm
   have := he.ok hok
   obtain ⟨c, hc, rfl⟩ := full_mem hg hl this.2.2.1 this.2.2.2
   subst e2
   exact ⟨a, c, ha, hc, e1, rfl, Nat.lt_trans h (pos_lt hg hb hc he)⟩
 intro v h0 h1 j hj hp
 obtain ⟨j', rfl⟩ : ∃ j', j = j' + 1 := ⟨j - 1, by omega⟩
 obtain ⟨a, b, ha, hb, e1, e2, h⟩ := key j' v v hp
 have e : o[a] = o[b] := by rw [← rd_get ha, ← rd_get hb, e1, e2]
 exact List.pairwise_iff_getElem.1 (List.nodup_iff_pairwise_ne.1 hg.nodup) a b ha hb h e
theorem some_closed {n : Nat} {l : List S55} {o : List Int} (hg : Greedy n l o) (hmax : ∀ v, ¬ Avail n l o v) (hok : Ok n l) (hl : o.length < n) : ∃ v j, 0 ≤ v ∧ v < (n : Int) ∧ 1 ≤ j ∧ Pa (E l) j v v := by
 have hex : ∃ v : Int, 0 ≤ v ∧ v < (n : Int) ∧ v ∉ o := Classical.byContradiction fun hno => by
  have hall : ∀ v : Int, 0 ≤ v → v < n → v ∈ o := fun v h0 h1 => Classical.byContradiction fun h => hno ⟨v, h0, h1, h⟩
  have hnd : ((List.range n).map fun k : Nat => (k : Int)).Nodup := by
   rw [List.nodup_iff_pairwise_ne, List.pairwise_map]
   exact (List.pairwise_lt_range (n := n)).imp (fun h e => by omega)
  have hp : ((List.range n).map fun k : Nat => (k : Int)).Perm o := (List.perm_ext_iff_of_nodup hnd hg.nodup).2 (fun v => ⟨fun h => by
   obtain ⟨k, hk, rfl⟩ := List.mem_map.1 h
   exact hall _ (by omega) (by have := List.mem_range.1 hk; omega), fun h => by
   have := hg.range v h
   exact List.mem_map.2 ⟨v.toNat, List.mem_range.2 (by omega), by omega⟩⟩)
  have := hp.length_eq
  rw [List.length_map, List.length_range] at this
  omega
 obtain ⟨v, h0, h1, hv⟩ := hex
 refine closed_of_preds (fun v => 0 ≤ v ∧ v < (n : Int) ∧ v ∉ o) (fun v h => ⟨h.1, h.2.1⟩) (fun v h => ?_) ⟨h0, h1, hv⟩
 refine Classical.byContradiction fun hno => hmax v ⟨h.1, h.2.1, h.2.2, fun u hu => Classical.byContradiction fun hm => hno ⟨u, ⟨(hu.ok hok).1, (hu.ok hok).2.1, hm⟩, hu⟩⟩
theorem order_cycle {n : Nat} (hn : n ≤ 1000) {l : List S55} (hl : Ok n l) :
  (∃ o, Od.orderOf n l = some (o, 0) ∧ Greedy n l o ∧ o.length = n ∧ Cy.cycleOf n l = some ([], 4) ∧ ∀ v : Int, 0 ≤ v → v < n → ∀ j, 1 ≤ j → ¬ Pa (E l) j v v) ∨
  (Od.orderOf n l = some ([], 50) ∧ ∃ c, Cy.cycleOf n l = some (c, 0) ∧ Pf.CycS n (E l) c) := by
 obtain ⟨o, ho, hg, hav⟩ := order_spec hn hl
 by_cases h : o.length < n
 ·rw [if_pos h] at ho
  refine .inr ⟨ho, ?_⟩
  rcases Pf.cycle_spec hn hl with ⟨_, hno⟩ | hc
  ·obtain ⟨v, j, h0, h1, hj, hp⟩ := some_closed hg hav hl h
   exact absurd hp (hno v h0 h1 j hj)
  ·exact hc
 ·rw [if_neg h] at ho
  have hol : o.length = n := by have := hg.len; omega
  have hnc := no_closed hl hg hol
  refine .inl ⟨o, ho, hg, hol, ?_, hnc⟩
  rcases Pf.cycle_spec hn hl with ⟨hc, _⟩ | ⟨c, _, hc⟩
  ·exact hc
  ·have h0 := hc.rng (rd c 0) (by have := hc.pos; have := rd_mem (l := c) (k := 0) (by omega); simpa using this)
   have hpath : ∀ i : Nat, i < c.length → Pa (E l) i (rd c 0) (rd c (i : Int)) := by
    intro i
    induction i with
    | zero => intro _; rfl
    | succ i ih => intro hi; exact ⟨_, ih (by omega), hc.next i hi⟩
   have := hc.pos
   exact absurd ⟨_, hpath (c.length - 1) (by omega), hc.close⟩ (hnc _ h0.1 h0.2 (c.length - 1 + 1) (by omega))
end Go.Proofs.Ytlldjinejckbaaa.Ph

end
section
namespace Go.Proofs.Ytlldjinejckbaaa.Pt
open Go Go.RowKit Go.Proofs.YtlldjinejckbaaaW.PrintWords Go.Proofs.Ytlldjinejckbaaa.Mod Go.Proofs.Ytlldjinejckbaaa.Pg Go.Proofs.Ytlldjinejckbaaa.Pb Go.Proofs.Ytlldjinejckbaaa.Tj Go.Proofs.Ytlldjinejckbaaa.Po
def Rch (R : Int → Int → Prop) (u v : Int) : Prop := ∃ k, Pa R k u v
theorem Rch.refl (R : Int → Int → Prop) (u : Int) : Rch R u u := ⟨0, rfl⟩
theorem Rch.trans {R : Int → Int → Prop} {u v w : Int} : Rch R u v → Rch R v w → Rch R u w := fun ⟨_, h⟩ ⟨_, h'⟩ => ⟨_, h.add h'⟩
theorem Rch.one {R : Int → Int → Prop} {u v : Int} (h : R u v) : Rch R u v := ⟨1, u, rfl, h⟩
theorem Rch.keep {R : Int → Int → Prop} {P : Int → Prop} (hP : ∀ x y, P x → R x y → P y) {u v : Int} (h : Rch R u v) (hu : P u) : P v := by
 obtain ⟨k, h⟩ := h
 revert v
 induction k with
 | zero => intro v h; cases h; exact hu
 | succ k ih => intro v h; obtain ⟨m, hm, hr⟩ := h; exact hP m v (ih hm) hr
theorem mem_sortA {xs : List Int} {x : Int} : x ∈ sortA xs ↔ x ∈ xs := List.mem_mergeSort
theorem sortA_strict {xs : List Int} (h : xs.Nodup) : (sortA xs).Pairwise (· < ·) := by
 have h1 := List.pairwise_mergeSort (le := fun x y : Int => decide (x ≤ y)) (fun a b c h1 h2 => by simp at *; omega) (fun a b => by simp; omega) xs
 have h2 : (sortA xs).Nodup := (List.mergeSort_perm xs _).nodup_iff.2 h
 exact h1.imp₂ (fun a b hab hne => by simp at hab; omega) h2
structure Cls (R : Int → Int → Prop) (c : List Int) : Prop where
 ne : c ≠ []
 srt : c.Pairwise (· < ·)
 all : ∀ x ∈ c, ∀ y, y ∈ c ↔ Rch R x y ∧ Rch R y x
structure TI (n : Nat) (R : Int → Int → Prop) (G : Int → Prop) (s : TS) : Prop where
 ln : s.num.length = n
 ll : s.low.length = n
 lo : s.opn.length = n
 nd : (s.stack ++ s.out.flatten).Nodup
 rng : ∀ x ∈ s.stack ++ s.out.flatten, 0 ≤ x ∧ x < (n : Int)
 cnt : s.count = ((s.stack ++ s.out.flatten).length : Nat)
 met : ∀ x : Int, 0 ≤ x → x < n → (rd s.num x ≠ 0 ↔ x ∈ s.stack ++ s.out.flatten)
 op : ∀ x : Int, 0 ≤ x → x < n → (opnAt s.opn x = true ↔ x ∈ s.stack)
 inc : s.stack.Pairwise fun a b => rd s.num a < rd s.num b ∧ Rch R a b
 up : ∀ x ∈ s.stack, 1 ≤ rd s.num x ∧ rd s.num x ≤ s.count
 back : ∀ y ∈ s.stack, ∃ x, G x ∧ x ∈ s.stack ∧ rd s.num x ≤ rd s.num y ∧ Rch R y x
 bw : ∀ x ∈ s.stack, ¬ G x → ∀ y, R x y → y ∈ s.stack ++ s.out.flatten
 cls : ∀ c ∈ s.out, Cls R c
 shutd : ∀ x ∈ s.out.flatten, ∀ y, R x y → y ∈ s.out.flatten
theorem out_len {n : Nat} {R : Int → Int → Prop} {G : Int → Prop} {s : TS} (h : TI n R G s) : s.stack.length + s.out.length ≤ n := by
 have h1 := nodup_len h.nd h.rng
 rw [List.length_append] at h1
 have h2 : ∀ l : List (List Int), (∀ c ∈ l, c ≠ []) → l.length ≤ l.flatten.length := fun l => by
  induction l with
  | nil => intro _; simp
  | cons c l ih =>
   intro hc
   have := ih (fun d hd => hc d (by simp [hd]))
   have h3 := List.length_pos_iff.2 (hc c (by simp))
   rw [List.flatten_cons, List.length_append, List.length_cons]; omega
 have := h2 s.out (fun c hc => (h.cls c hc).ne)
 omega
theorem opnAt_set {o : List Bool} {x y : Int} {b : Bool} (hx : 0 ≤ x) (hy : 0 ≤ y) (hl : y < o.length) : opnAt (o.set y.toNat b) x = if x = y then b else opnAt o x := by
 unfold opnAt
 rw [List.getD_eq_getElem?_getD, List.getD_eq_getElem?_getD]
 by_cases e : x = y
 ·subst e; rw [if_pos rfl, List.getElem?_set_self (by omega)]; rfl
 ·rw [if_neg e, List.getElem?_set_ne (by omega)]
theorem opn_fold : ∀ (xs : List Int) (o : List Bool), (∀ y ∈ xs, 0 ≤ y ∧ y < (o.length : Int)) → (xs.foldl (fun o x => o.set x.toNat false) o).length = o.length ∧ ∀ x : Int, 0 ≤ x → (opnAt (xs.foldl (fun o x => o.set x.toNat false) o) x = true ↔ opnAt o x = true ∧ x ∉ xs)
 | [], o, _ => ⟨rfl, fun x _ => by simp⟩
 | y :: xs, o, h => by
  obtain ⟨y0, y1⟩ := h y (by simp)
  obtain ⟨a, b⟩ := opn_fold xs (o.set y.toNat false) (fun z hz => by rw [List.length_set]; exact h z (by simp [hz]))
  refine ⟨by rw [List.foldl_cons, a, List.length_set], fun x hx => ?_⟩
  rw [List.foldl_cons, b x hx, opnAt_set hx y0 y1]
  by_cases e : x = y
  ·subst e; simp
  ·simp [e]
theorem TI.meet {n : Nat} (hn : n ≤ 1000) {R : Int → Int → Prop} {G : Int → Prop} {s : TS} (h : TI n R G s) {v : Int} (v0 : 0 ≤ v) (v1 : v < n) (hv : rd s.num v = 0) (hG : ∀ x, G x → Rch R x v) :
  TI n R (fun x => G x ∨ x = v) (s.meet v) ∧ rd (s.meet v).num v = s.count + 1 ∧ rd (s.meet v).low v = s.count + 1 ∧ (s.meet v).count = s.count + 1 ∧ (∀ x ∈ s.stack ++ s.out.flatten, rd (s.meet v).num x = rd s.num x ∧ rd (s.meet v).low x = rd s.low x) := by
 have hvm : v ∉ s.stack ++ s.out.flatten := fun hm => (h.met v v0 v1).2 hm hv
 have hvs : v ∉ s.stack := fun hm => hvm (List.mem_append_left _ hm)
 have hvo : v ∉ s.out.flatten := fun hm => hvm (List.mem_append_right _ hm)
 have hlen := nodup_len h.nd h.rng
 have hc := h.cnt
 have hw : wrap64 (s.count + 1) = s.count + 1 := Po.wrap_small (by omega) (by omega)
 have hnum : ∀ x, 0 ≤ x → rd (s.meet v).num x = if x = v then s.count + 1 else rd s.num x := fun x hx => by
  show rd (s.num.set v.toNat (wrap64 (s.count + 1))) x = _
  rw [hw]
  by_cases e : x = v
  ·subst e; rw [if_pos rfl, rd_set_same _ _ _ v0 (by rw [h.ln]; exact v1)]
  ·rw [if_neg e, rd_set_other _ _ _ _ hx v0 e]
 have hlow : ∀ x, 0 ≤ x → rd (s.meet v).low x = if x = v then s.count + 1 else rd s.low x := fun x hx => by
  show rd (s.low.set v.toNat (wrap64 (s.count + 1))) x = _
  rw [hw]
  by_cases e : x = v
  ·subst e; rw [if_pos rfl, rd_set_same _ _ _ v0 (by rw [h.ll]; exact v1)]
  ·rw [if_neg e, rd_set_other _ _ _ _ hx v0 e]
 have hold : ∀ x ∈ s.stack ++ s.out.flatten, rd (s.meet v).num x = rd s.num x ∧ rd (s.meet v).low x = rd s.low x := fun x hx => by
  have hne : x ≠ v := fun e => hvm (e ▸ hx)
  have := (h.rng x hx).1
  rw [hnum x this, hlow x this, if_neg hne, if_neg hne]; exact ⟨rfl, rfl⟩
 have hms : ∀ x, x ∈ (s.meet v).stack ++ (s.meet v).out.flatten ↔ x ∈ s.stack ++ s.out.flatten ∨ x = v := fun x => by
  show x ∈ (s.stack ++ [v]) ++ s.out.flatten ↔ _
  simp only [List.mem_append, List.mem_singleton]
  constructor
  ·rintro ((h | h) | h)
   ·exact .inl (.inl h)
   ·exact .inr h
   ·exact .inl (.inr h)
  ·rintro ((h | h) | h)
   ·exact .inl (.inl h)
   ·exact .inr h
   ·exact .inl (.inr h)
 have hst : ∀ x, x ∈ (s.meet v).stack ↔ x ∈ s.stack ∨ x = v := fun x => by show x ∈ s.stack ++ [v] ↔ _; simp
 refine ⟨⟨?_, ?_, ?_, ?_, fun x hx => ?_, ?_, fun x x0 x1 => ?_, fun x x0 x1 => ?_, ?_, fun x hx => ?_, fun y hy => ?_, fun x hx hg y hy => ?_, h.cls, h.shutd⟩, by rw [hnum v v0, if_pos rfl], by rw [hlow v v0, if_pos rfl], hw, hold⟩
 ·show (s.num.set _ _).length = n; rw [List.length_set, h.ln]
 ·show (s.low.set _ _).length = n; rw [List.length_set, h.ll]
 ·show (s.opn.set _ _).length = n; rw [List.length_set, h.lo]
 ·have hp : (((s.stack ++ [v]) ++ s.out.flatten)).Perm (v :: (s.stack ++ s.out.flatten)) := by
   rw [List.append_assoc]
   exact List.perm_middle
  show ((s.stack ++ [v]) ++ s.out.flatten).Nodup
  rw [hp.nodup_iff, List.nodup_cons]
  exact ⟨hvm, h.nd⟩
 ·rcases (hms x).1 hx with hx | hx
  ·exact h.rng x hx
  ·subst hx; exact ⟨v0, v1⟩
 ·show wrap64 (s.count + 1) = (((s.stack ++ [v]) ++ s.out.flatten).length : Nat)
  rw [hw, hc]
  simp only [List.length_append, List.length_cons, List.length_nil]; omega
 ·rw [hms, hnum x x0]
  by_cases e : x = v
  ·rw [if_pos e]; exact ⟨fun _ => .inr e, fun _ => by omega⟩
  ·rw [if_neg e, h.met x x0 x1]; exact ⟨fun h => .inl h, fun h => h.resolve_right e⟩
 ·rw [hst]
  show opnAt (s.opn.set v.toNat true) x = true ↔ _
  rw [opnAt_set x0 v0 (by rw [h.lo]; exact v1)]
  by_cases e : x = v
  ·rw [if_pos e]; exact ⟨fun _ => .inr e, fun _ => rfl⟩
  ·rw [if_neg e, h.op x x0 x1]; exact ⟨fun h => .inl h, fun h => h.resolve_right e⟩
 ·show (s.stack ++ [v]).Pairwise _
  rw [List.pairwise_append]
  refine ⟨h.inc.imp_of_mem (fun {a b} ha hb hab => ?_), by simp, fun a ha b hb => ?_⟩
  ·rw [(hold a (List.mem_append_left _ ha)).1, (hold b (List.mem_append_left _ hb)).1]; exact hab
  ·rw [List.mem_singleton] at hb
   subst hb
   rw [(hold a (List.mem_append_left _ ha)).1, hnum b v0, if_pos rfl]
   obtain ⟨x, hx, _, _, hr⟩ := h.back a ha
   have := (h.up a ha).2
   exact ⟨by omega, hr.trans (hG x hx)⟩
 ·show _ ∧ _ ≤ wrap64 (s.count + 1)
  rw [hw]
  rcases (hst x).1 hx with hx | hx
  ·rw [(hold x (List.mem_append_left _ hx)).1]
   have := h.up x hx
   omega
  ·subst hx; rw [hnum x v0, if_pos rfl]; omega
 ·rcases (hst y).1 hy with hy | hy
  ·obtain ⟨x, hx, hxs, hle, hr⟩ := h.back y hy
   exact ⟨x, .inl hx, (hst x).2 (.inl hxs), by rw [(hold x (List.mem_append_left _ hxs)).1, (hold y (List.mem_append_left _ hy)).1]; exact hle, hr⟩
  ·exact ⟨v, .inr rfl, (hst v).2 (.inr rfl), by rw [hy]; exact Int.le_refl _, by rw [hy]; exact Rch.refl R v⟩
 ·rcases (hst x).1 hx with hx | hx
  ·exact (hms y).2 (.inl (h.bw x hx (fun hh => hg (.inl hh)) y hy))
  ·exact absurd (.inr hx) hg
theorem TI.lower {n : Nat} {R : Int → Int → Prop} {G : Int → Prop} {s : TS} (h : TI n R G s) (v x : Int) : TI n R G (s.lower v x) :=
 ⟨h.ln, by show (s.low.set _ _).length = n; rw [List.length_set, h.ll], h.lo, h.nd, h.rng, h.cnt, h.met, h.op, h.inc, h.up, h.back, h.bw, h.cls, h.shutd⟩
structure VP (n : Nat) (R : Int → Int → Prop) (G : Int → Prop) (v : Int) (s s' : TS) (ext : List Int) (more : List (List Int)) : Prop where
 ti : TI n R G s'
 st : s'.stack = s.stack ++ ext
 ot : s'.out = s.out ++ more
 num : ∀ x ∈ s.stack ++ s.out.flatten, rd s'.num x = rd s.num x
 low : ∀ x ∈ s.stack ++ s.out.flatten, rd s'.low x = rd s.low x
 vm : v ∈ s'.stack ++ s'.out.flatten
 wit : (∃ y ∈ s'.stack, rd s'.num y = rd s'.low v ∧ Rch R v y) ∨ s.count < rd s'.low v
 cross : ∀ x ∈ ext, ∀ y ∈ s.stack, R x y → rd s'.low v ≤ rd s.num y
structure LI (n : Nat) (R : Int → Int → Prop) (G : Int → Prop) (v : Int) (s0 : TS) (D : List Int) (s : TS) (ext : List Int) (more : List (List Int)) : Prop where
 ti : TI n R (fun x => G x ∨ x = v) s
 st : s.stack = s0.stack ++ v :: ext
 ot : s.out = s0.out ++ more
 num : ∀ x ∈ s0.stack ++ s0.out.flatten, rd s.num x = rd s0.num x
 low : ∀ x ∈ s0.stack ++ s0.out.flatten, rd s.low x = rd s0.low x
 nv : rd s.num v = s0.count + 1
 lv : rd s.low v ≤ s0.count + 1
 wit : ∃ y ∈ s.stack, rd s.num y = rd s.low v ∧ Rch R v y
 cross : ∀ x ∈ ext, ∀ y ∈ s0.stack, R x y → rd s.low v ≤ rd s0.num y
 crv : ∀ y ∈ D, y ∈ s0.stack → rd s.low v ≤ rd s0.num y
 dm : ∀ y ∈ D, y ∈ s.stack ++ s.out.flatten
theorem LI.lower {n : Nat} {R : Int → Int → Prop} {G : Int → Prop} {v : Int} {s0 s : TS} {D : List Int} {ext : List Int} {more : List (List Int)} (h : LI n R G v s0 D s ext more) (v0 : 0 ≤ v) (v1 : v < n) (hv : v ∉ s0.stack ++ s0.out.flatten) (r0 : ∀ x ∈ s0.stack ++ s0.out.flatten, 0 ≤ x) {x w : Int}
  (hx : x < rd s.low v → ∃ y ∈ s.stack, rd s.num y = x ∧ Rch R v y) (hw : w ∈ s0.stack → x ≤ rd s0.num w) (hm : w ∈ s.stack ++ s.out.flatten) : LI n R G v s0 (D ++ [w]) (s.lower v x) ext more := by
 have hl : rd (s.lower v x).low v = min (rd s.low v) x := by
  show rd (s.low.set v.toNat (min (rd s.low v) x)) v = _
  rw [rd_set_same _ _ _ v0 (by rw [h.ti.ll]; exact v1)]
 have hlv := h.lv
 refine ⟨h.ti.lower v x, h.st, h.ot, h.num, fun y hy => ?_, h.nv, by rw [hl]; omega, ?_, fun y hy z hz hr => ?_, fun y hy hys => ?_, fun y hy => ?_⟩
 ·show rd (s.low.set v.toNat (min (rd s.low v) x)) y = _
  rw [rd_set_other _ _ _ _ (r0 y hy) v0 (fun e => hv (e ▸ hy))]
  exact h.low y hy
 ·rw [hl]
  by_cases hlt : x < rd s.low v
  ·obtain ⟨y, a, b, c⟩ := hx hlt
   exact ⟨y, a, by show rd s.num y = _; rw [b]; omega, c⟩
  ·obtain ⟨y, a, b, c⟩ := h.wit
   exact ⟨y, a, by show rd s.num y = _; rw [b]; omega, c⟩
 ·have := h.cross y hy z hz hr
  rw [hl]; omega
 ·rw [hl]
  rcases List.mem_append.1 hy with hy | hy
  ·have := h.crv y hy hys
   omega
  ·rw [List.mem_singleton] at hy; subst hy
   have := hw hys
   omega
 ·rcases List.mem_append.1 hy with hy | hy
  ·exact h.dm y hy
  ·rw [List.mem_singleton] at hy; subst hy; exact hm
theorem LI.skip {n : Nat} {R : Int → Int → Prop} {G : Int → Prop} {v : Int} {s0 s : TS} {D : List Int} {ext : List Int} {more : List (List Int)} (h : LI n R G v s0 D s ext more) {w : Int}
  (hw : w ∉ s0.stack) (hm : w ∈ s.stack ++ s.out.flatten) : LI n R G v s0 (D ++ [w]) s ext more := by
 refine ⟨h.ti, h.st, h.ot, h.num, h.low, h.nv, h.lv, h.wit, h.cross, fun y hy hys => ?_, fun y hy => ?_⟩
 ·rcases List.mem_append.1 hy with hy | hy
  ·exact h.crv y hy hys
  ·rw [List.mem_singleton] at hy; subst hy; exact absurd hys hw
 ·rcases List.mem_append.1 hy with hy | hy
  ·exact h.dm y hy
  ·rw [List.mem_singleton] at hy; subst hy; exact hm
def VS (n : Nat) (R : Int → Int → Prop) (vis : Int → TS → Option TS) (f : Nat) : Prop := ∀ (w : Int) (s : TS) (G : Int → Prop), TI n R G s → 0 ≤ w → w < n → rd s.num w = 0 → (∀ x, G x → Rch R x w) → (∀ x, G x → x ∈ s.stack) → (n : Int) < s.count + f →
 ∃ s' ext more, vis w s = some s' ∧ VP n R G w s s' ext more
theorem visitRow_spec {n : Nat} {R : Int → Int → Prop} {vis : Int → TS → Option TS} {f : Nat} (hV : VS n R vis f) {G : Int → Prop} {v : Int} {s0 : TS} (hT0 : TI n R G s0) (hG : ∀ x, G x → Rch R x v) (hGs : ∀ x, G x → x ∈ s0.stack) (v0 : 0 ≤ v) (v1 : v < n) (hv : v ∉ s0.stack ++ s0.out.flatten) (hf : (n : Int) < s0.count + 1 + f) (hok : ∀ x, R v x → 0 ≤ x ∧ x < n) :
  ∀ (xs D : List Int) (s : TS) (ext : List Int) (more : List (List Int)), LI n R G v s0 D s ext more → (∀ x ∈ xs, R v x) → ∃ s' ext' more', visitRow vis v xs s = some s' ∧ LI n R G v s0 (D ++ xs) s' ext' more'
 | [], D, s, ext, more, h, _ => ⟨s, ext, more, rfl, by rw [List.append_nil]; exact h⟩
 | w :: xs, D, s, ext, more, h, hx => by
  have hr := hx w (by simp)
  obtain ⟨w0, w1⟩ := hok w hr
  have r0 : ∀ x ∈ s0.stack ++ s0.out.flatten, 0 ≤ x := fun x hx => (hT0.rng x hx).1
  have hD : ∀ l : List Int, D ++ w :: l = (D ++ [w]) ++ l := fun l => by simp
  have hsub : ∀ x ∈ s0.stack ++ s0.out.flatten, x ∈ s.stack ++ s.out.flatten := fun x hx => by
   rw [h.st, h.ot, List.flatten_append]
   rcases List.mem_append.1 hx with hx | hx
   ·exact List.mem_append_left _ (List.mem_append_left _ hx)
   ·exact List.mem_append_right _ (List.mem_append_left _ hx)
  have hvst : v ∈ s.stack := by rw [h.st]; simp
  have hcount : s0.count + 1 ≤ s.count := by
   have := (h.ti.up v hvst).2
   rw [h.nv] at this; exact this
  rw [hD]
  unfold visitRow
  by_cases hz : rd s.num w = 0
  ·rw [if_pos hz]
   have hwm : w ∉ s.stack ++ s.out.flatten := fun hm => (h.ti.met w w0 w1).2 hm hz
   obtain ⟨s', ext', more', e, hp⟩ := hV w s _ h.ti w0 w1 hz (fun x hx => by
    rcases hx with hx | hx
    ·exact (hG x hx).trans (Rch.one hr)
    ·subst hx; exact Rch.one hr) (fun x hx => by
    rcases hx with hx | hx
    ·rw [h.st]; exact List.mem_append_left _ (hGs x hx)
    ·subst hx; exact hvst) (by omega)
   rw [e]
   dsimp only
   have hvm : v ∈ s.stack ++ s.out.flatten := List.mem_append_left _ hvst
   have hlv := hp.low v hvm
   have h2 : LI n R G v s0 D s' (ext ++ ext') (more ++ more') ∨ True := .inr trivial
   have hst' : s'.stack = s0.stack ++ v :: (ext ++ ext') := by rw [hp.st, h.st]; simp
   have hot' : s'.out = s0.out ++ (more ++ more') := by rw [hp.ot, h.ot]; simp
   have hnum' : ∀ x ∈ s0.stack ++ s0.out.flatten, rd s'.num x = rd s0.num x := fun x hx => by rw [hp.num x (hsub x hx), h.num x hx]
   have hsub' : ∀ x ∈ s.stack ++ s.out.flatten, x ∈ s'.stack ++ s'.out.flatten := fun x hx => by
    rw [hp.st, hp.ot, List.flatten_append]
    rcases List.mem_append.1 hx with hx | hx
    ·exact List.mem_append_left _ (List.mem_append_left _ hx)
    ·exact List.mem_append_right _ (List.mem_append_left _ hx)
   have hl : rd (s'.lower v (rd s'.low w)).low v = min (rd s.low v) (rd s'.low w) := by
    show rd (s'.low.set v.toNat (min (rd s'.low v) (rd s'.low w))) v = _
    rw [rd_set_same _ _ _ v0 (by rw [hp.ti.ll]; exact v1), hlv]
   have hLI : LI n R G v s0 (D ++ [w]) (s'.lower v (rd s'.low w)) (ext ++ ext') (more ++ more') := by
    refine ⟨hp.ti.lower _ _, hst', hot', hnum', fun y hy => ?_, by show rd s'.num v = _; rw [hp.num v hvm, h.nv], by rw [hl]; have := h.lv; omega, ?_, fun y hy z hz hr => ?_, fun y hy hys => ?_, fun y hy => ?_⟩
    ·show rd (s'.low.set v.toNat (min (rd s'.low v) (rd s'.low w))) y = _
     rw [rd_set_other _ _ _ _ (r0 y hy) v0 (fun e => hv (e ▸ hy)), hp.low y (hsub y hy)]
     exact h.low y hy
    ·rw [hl]
     have hold : ∃ y ∈ s'.stack, rd s'.num y = rd s.low v ∧ Rch R v y := by
      obtain ⟨y, a, b, c⟩ := h.wit
      exact ⟨y, by rw [hp.st]; exact List.mem_append_left _ a, by rw [hp.num y (List.mem_append_left _ a)]; exact b, c⟩
     by_cases hlt : rd s'.low w < rd s.low v
     ·rcases hp.wit with ⟨y, a, b, c⟩ | hc
      ·exact ⟨y, a, by show rd s'.num y = _; rw [b]; omega, (Rch.one hr).trans c⟩
      ·have := h.lv; omega
     ·obtain ⟨y, a, b, c⟩ := hold
      exact ⟨y, a, by show rd s'.num y = _; rw [b]; omega, c⟩
    ·rw [hl]
     rcases List.mem_append.1 hy with hy | hy
     ·have := h.cross y hy z hz hr
      omega
     ·have hzs : z ∈ s.stack := by rw [h.st]; exact List.mem_append_left _ hz
      have := hp.cross y hy z hzs hr
      rw [h.num z (List.mem_append_left _ hz)] at this
      omega
    ·rw [hl]
     rcases List.mem_append.1 hy with hy | hy
     ·have := h.crv y hy hys
      omega
     ·rw [List.mem_singleton] at hy; subst hy
      exact absurd (hsub _ (List.mem_append_left _ hys)) hwm
    ·rcases List.mem_append.1 hy with hy | hy
     ·exact hsub' y (h.dm y hy)
     ·rw [List.mem_singleton] at hy; subst hy; exact hp.vm
   exact visitRow_spec hV hT0 hG hGs v0 v1 hv hf hok xs (D ++ [w]) _ _ _ hLI (fun x hx' => hx x (by simp [hx']))
  ·rw [if_neg hz]
   have hwm : w ∈ s.stack ++ s.out.flatten := (h.ti.met w w0 w1).1 hz
   by_cases ho : opnAt s.opn w = true
   ·rw [if_pos ho]
    have hws := (h.ti.op w w0 w1).1 ho
    exact visitRow_spec hV hT0 hG hGs v0 v1 hv hf hok xs (D ++ [w]) _ _ _ (h.lower v0 v1 hv r0 (fun _ => ⟨w, hws, rfl, Rch.one hr⟩) (fun hh => by rw [h.num w (List.mem_append_left _ hh)]; exact Int.le_refl _) hwm) (fun x hx' => hx x (by simp [hx']))
   ·rw [if_neg ho]
    have hws : w ∉ s.stack := fun hh => ho ((h.ti.op w w0 w1).2 hh)
    exact visitRow_spec hV hT0 hG hGs v0 v1 hv hf hok xs (D ++ [w]) _ _ _ (h.skip (fun hh => hws (by rw [h.st]; exact List.mem_append_left _ hh)) hwm) (fun x hx' => hx x (by simp [hx']))
theorem findIdx_app {a : List Int} {v : Int} {b : List Int} (h : v ∉ a) : (a ++ v :: b).findIdx? (· == v) = some a.length := by
 induction a with
 | nil => simp [List.findIdx?_cons]
 | cons x a ih =>
  rw [List.mem_cons, not_or] at h
  rw [List.cons_append, List.findIdx?_cons]
  have : ¬ (x == v) = true := by simpa using fun e => h.1 (Eq.symm e)
  rw [if_neg this, ih h.2]
  rfl
theorem visit_spec {n : Nat} (hn : n ≤ 1000) {rows : List (List Int)} {R : Int → Int → Prop} (hT : Tells n rows R) : ∀ f : Nat, VS n R (visit rows f) f
 | 0, w, s, G, h, _, _, hw, _, _, hf => by
  have := nodup_len h.nd h.rng
  have := h.cnt
  omega
 | f + 1, v, s0, G, h, v0, v1, hv, hG, hGs, hf => by
  have hvm : v ∉ s0.stack ++ s0.out.flatten := fun hm => (h.met v v0 v1).2 hm hv
  have hvs : v ∉ s0.stack := fun hm => hvm (List.mem_append_left _ hm)
  have hcard := nodup_len h.nd h.rng
  have hcnt := h.cnt
  obtain ⟨m1, m2, m3, m4, m5⟩ := h.meet hn v0 v1 hv hG
  have hrow : ∀ x, x ∈ row rows v ↔ R v x := fun x => hT.row v x v0 v1
  have h0 : LI n R G v s0 [] (s0.meet v) [] [] := by
   refine ⟨m1, rfl, by show s0.out = _; simp, fun x hx => (m5 x hx).1, fun x hx => (m5 x hx).2, m2, by rw [m3]; exact Int.le_refl _, ⟨v, by show v ∈ s0.stack ++ [v]; simp, by rw [m2, m3], Rch.refl R v⟩, by simp, by simp, by simp⟩
  obtain ⟨s, ext, more, e, hL⟩ := visitRow_spec (visit_spec hn hT f) h hG hGs v0 v1 hvm (by omega) (fun x hx => by have := hT.ok v x hx; exact ⟨this.2.2.1, this.2.2.2⟩) (row rows v) [] _ _ _ h0 (fun x hx => (hrow x).1 hx)
  rw [List.nil_append] at hL
  unfold visit
  rw [if_neg (by rw [List.length_append] at hcard; omega), e]
  dsimp only
  have hti := hL.ti
  have hnd : (s0.stack ++ v :: ext).Nodup := by
   have := hti.nd
   rw [hL.st, List.nodup_append] at this
   exact this.1
  have hnd2 := List.nodup_append.1 hnd
  have hnd3 := List.nodup_cons.1 hnd2.2.1
  have hdis : ∀ x, x ∈ s0.stack → x ∉ v :: ext := fun x hx hx' => hnd2.2.2 x hx x hx' rfl
  have hdout : ∀ x ∈ s.stack, x ∉ s.out.flatten := fun x hx hx' => (List.nodup_append.1 hti.nd).2.2 x hx x hx' rfl
  have hvst : v ∈ s.stack := by rw [hL.st]; simp
  have hs0 : ∀ x ∈ s0.stack, x ∈ s.stack := fun x hx => by rw [hL.st]; exact List.mem_append_left _ hx
  have hnum0 : ∀ x ∈ s0.stack, rd s.num x ≤ s0.count := fun x hx => by
   rw [hL.num x (List.mem_append_left _ hx)]; exact (h.up x hx).2
  have hlt : ∀ x ∈ s.stack, rd s.num x < rd s.num v → x ∈ s0.stack := fun x hx hxl => by
   rw [hL.st] at hx
   rcases List.mem_append.1 hx with hx | hx
   ·exact hx
   ·exfalso
    rcases List.mem_cons.1 hx with hx | hx
    ·subst hx; omega
    ·have := hti.inc
     rw [hL.st, List.pairwise_append] at this
     have := ((List.pairwise_cons.1 this.2.1).1 x hx).1
     omega
  by_cases hlow : rd s.low v < rd s.num v
  ·rw [if_pos hlow]
   refine ⟨s, v :: ext, more, rfl, ⟨⟨hti.ln, hti.ll, hti.lo, hti.nd, hti.rng, hti.cnt, hti.met, hti.op, hti.inc, hti.up, fun y hy => ?_, fun x hx hg y hy => ?_, hti.cls, hti.shutd⟩, hL.st, hL.ot, hL.num, hL.low, List.mem_append_left _ hvst, .inl hL.wit, fun x hx y hy hr => ?_⟩⟩
   ·obtain ⟨x, hx, hxs, hle, hr⟩ := hti.back y hy
    rcases hx with hx | hx
    ·exact ⟨x, hx, hxs, hle, hr⟩
    ·subst hx
     obtain ⟨z, a, b, c⟩ := hL.wit
     obtain ⟨x', hx', hxs', hle', hr'⟩ := hti.back z a
     rcases hx' with hx' | hx'
     ·exact ⟨x', hx', hxs', by omega, hr.trans (c.trans hr')⟩
     ·subst hx'; omega
   ·by_cases ev : x = v
    ·subst ev; exact hL.dm y ((hrow y).2 hy)
    ·exact hti.bw x hx (fun hh => hh.elim hg ev) y hy
   ·rcases List.mem_cons.1 hx with hx | hx
    ·subst hx; exact hL.crv y ((hrow y).2 hr) hy
    ·exact hL.cross x hx y hy hr
  ·rw [if_neg hlow]
   have hol := out_len hti
   rw [if_neg (by omega)]
   have hfi : s.stack.findIdx? (· == v) = some s0.stack.length := by rw [hL.st]; exact findIdx_app hvs
   rw [hfi]
   dsimp only
   have hlv : rd s.low v = s0.count + 1 := by have := hL.lv; have := hL.nv; omega
   have hdrop : s.stack.drop s0.stack.length = v :: ext := by rw [hL.st]; simp
   have htake : s.stack.take s0.stack.length = s0.stack := by rw [hL.st]; simp
   have hclosed : ∀ x y, (x ∈ v :: ext ∨ x ∈ s.out.flatten) → R x y → (y ∈ v :: ext ∨ y ∈ s.out.flatten) := fun x y hx hr => by
    have hup : ∀ z, z ∈ s0.stack → rd s0.num z ≤ s0.count := fun z hz => (h.up z hz).2
    rcases hx with hx | hx
    ·have hy : y ∈ s.stack ++ s.out.flatten ∧ (y ∈ s0.stack → False) := by
      rcases List.mem_cons.1 hx with hx | hx
      ·rw [hx] at hr
       exact ⟨hL.dm y ((hrow y).2 hr), fun hy => by have := hL.crv y ((hrow y).2 hr) hy; have := hup y hy; omega⟩
      ·have hxs : x ∈ s.stack := by rw [hL.st]; simp [hx]
       refine ⟨hti.bw x hxs (fun hg => ?_) y hr, fun hy => by have := hL.cross x hx y hy hr; have := hup y hy; omega⟩
       rcases hg with hg | hg
       ·exact hdis x (hGs x hg) (by simp [hx])
       ·subst hg; exact hnd3.1 (by assumption)
     rcases List.mem_append.1 hy.1 with hh | hh
     ·rw [hL.st] at hh
      rcases List.mem_append.1 hh with hh | hh
      ·exact absurd hh hy.2
      ·exact .inl hh
     ·exact .inr hh
    ·exact .inr (hti.shutd x hx y hr)
   have hfw : ∀ y ∈ v :: ext, Rch R v y := fun y hy => by
    rcases List.mem_cons.1 hy with hy | hy
    ·subst hy; exact Rch.refl R y
    ·have := hti.inc
     rw [hL.st, List.pairwise_append] at this
     exact ((List.pairwise_cons.1 this.2.1).1 y hy).2
   have hout0 : ∀ x ∈ s0.stack, ¬ (x ∈ v :: ext ∨ x ∈ s.out.flatten) := fun x hx hh => hh.elim (hdis x hx) (hdout x (hs0 x hx))
   have hbk : ∀ y ∈ v :: ext, Rch R y v := fun y hy => by
    obtain ⟨x, hx, hxs, _, hr⟩ := hti.back y (by rw [hL.st]; exact List.mem_append_right _ hy)
    rcases hx with hx | hx
    ·exact absurd (hr.keep hclosed (.inl hy)) (hout0 x (hGs x hx))
    ·subst hx; exact hr
   have hcls : Cls R (sortA (v :: ext)) := by
    refine ⟨fun e => ?_, sortA_strict hnd2.2.1, fun x hx y => ?_⟩
    ·have : v ∈ sortA (v :: ext) := mem_sortA.2 (by simp)
     rw [e] at this; simp at this
    ·rw [mem_sortA] at hx ⊢
     refine ⟨fun hy => ⟨(hbk x hx).trans (hfw y hy), (hbk y hy).trans (hfw x hx)⟩, fun ⟨h1, h2⟩ => ?_⟩
     rcases h1.keep hclosed (.inl hx) with hh | hh
     ·exact hh
     ·exact absurd (h2.keep (fun a b ha => hti.shutd a ha b) hh) (hdout x (by rw [hL.st]; exact List.mem_append_right _ hx))
   have hfl : (s.out ++ [sortA (v :: ext)]).flatten = s.out.flatten ++ sortA (v :: ext) := by simp
   have hperm : (s0.stack ++ (s.out.flatten ++ sortA (v :: ext))).Perm (s.stack ++ s.out.flatten) := by
    rw [hL.st, List.append_assoc]
    refine List.Perm.append_left _ ?_
    refine List.perm_append_comm.trans (List.Perm.append_right _ ?_)
    exact List.mergeSort_perm _ _
   have hof := opn_fold (s.stack.drop s0.stack.length) s.opn (fun y hy => by
    have := hti.rng y (List.mem_append_left _ (List.mem_of_mem_drop hy))
    rw [hti.lo]; exact this)
   obtain ⟨s1, hs1⟩ : ∃ s1, s1 = s.shut s0.stack.length := ⟨_, rfl⟩
   have a1 : s1.stack = s0.stack := by rw [hs1]; exact htake
   have a2 : s1.out = s.out ++ [sortA (v :: ext)] := by rw [hs1, ← hdrop]; rfl
   have a3 : s1.num = s.num := by rw [hs1]; rfl
   have a4 : s1.low = s.low := by rw [hs1]; rfl
   have a5 : s1.count = s.count := by rw [hs1]; rfl
   have a6 : s1.opn = (s.stack.drop s0.stack.length).foldl (fun o x => o.set x.toNat false) s.opn := by rw [hs1]; rfl
   have a7 : s1.out.flatten = s.out.flatten ++ sortA (v :: ext) := by rw [a2]; exact hfl
   have a8 : ∀ x, x ∈ s1.stack ++ s1.out.flatten ↔ x ∈ s.stack ++ s.out.flatten := fun x => by rw [a1, a7]; exact hperm.mem_iff
   have a9 : ∀ x, x ∈ s1.out.flatten ↔ x ∈ v :: ext ∨ x ∈ s.out.flatten := fun x => by rw [a7, List.mem_append, mem_sortA]; exact or_comm
   rw [← hs1]
   refine ⟨s1, [], more ++ [sortA (v :: ext)], rfl, ⟨⟨by rw [a3]; exact hti.ln, by rw [a4]; exact hti.ll, by rw [a6, hof.1]; exact hti.lo, ?_, fun x hx => hti.rng x ((a8 x).1 hx), ?_, fun x x0 x1 => by rw [a3, hti.met x x0 x1, a8], fun x x0 x1 => ?_, ?_, fun x hx => ?_, fun y hy => ?_, fun x hx hg y hy => ?_, fun c hc => ?_, fun x hx y hr => ?_⟩, by rw [a1]; simp, by rw [a2, hL.ot]; simp, by rw [a3]; exact hL.num, by rw [a4]; exact hL.low, (a8 v).2 (List.mem_append_left _ hvst), .inr (by rw [a4]; omega), by simp⟩⟩
   ·rw [a1, a7, hperm.nodup_iff]; exact hti.nd
   ·rw [a5, hti.cnt, a1, a7, hperm.length_eq]
   ·rw [a6, hof.2 x x0, hti.op x x0 x1, hdrop, a1, hL.st, List.mem_append]
    exact ⟨fun hh => hh.1.resolve_right hh.2, fun hh => ⟨.inl hh, hdis x hh⟩⟩
   ·have := hti.inc
    rw [hL.st, List.pairwise_append] at this
    rw [a1, a3]; exact this.1
   ·rw [a1] at hx
    rw [a3, a5]; exact hti.up x (hs0 x hx)
   ·rw [a1] at hy
    obtain ⟨x, hx, hxs, hle, hr⟩ := hti.back y (hs0 y hy)
    rcases hx with hx | hx
    ·exact ⟨x, hx, by rw [a1]; exact hGs x hx, by rw [a3]; exact hle, hr⟩
    ·rw [hx, hL.nv] at hle
     have := hnum0 y hy
     omega
   ·rw [a1] at hx
    refine (a8 y).2 (hti.bw x (hs0 x hx) (fun hh => ?_) y hy)
    rcases hh with hh | hh
    ·exact hg hh
    ·rw [hh] at hx; exact hvs hx
   ·rw [a2] at hc
    rcases List.mem_append.1 hc with hc | hc
    ·exact hti.cls c hc
    ·rw [List.mem_singleton] at hc; rw [hc]; exact hcls
   ·exact (a9 y).2 (hclosed x y ((a9 x).1 hx) hr)
theorem visitAll_spec {n : Nat} (hn : n ≤ 1000) {rows : List (List Int)} {R : Int → Int → Prop} (hT : Tells n rows R) : ∀ (k : Nat) (s : TS), k ≤ n → TI n R (fun _ => False) s → (∀ x : Int, 0 ≤ x → x < ((n - k : Nat) : Int) → rd s.num x ≠ 0) →
  ∃ s', visitAll rows n k s = some s' ∧ TI n R (fun _ => False) s' ∧ ∀ x : Int, 0 ≤ x → x < n → rd s'.num x ≠ 0
 | 0, s, _, h, hm => ⟨s, rfl, h, fun x x0 x1 => hm x x0 (by simpa using x1)⟩
 | k + 1, s, hk, h, hm => by
  have hs : s.stack = [] := List.eq_nil_iff_forall_not_mem.2 fun y hy => by
   obtain ⟨x, hx, _⟩ := h.back y hy
   exact hx
  obtain ⟨v, hv⟩ : ∃ v : Int, v = ((n - (k + 1) : Nat) : Int) := ⟨_, rfl⟩
  have v0 : 0 ≤ v := by omega
  have v1 : v < n := by omega
  have hnext : ∀ x : Int, 0 ≤ x → x < ((n - k : Nat) : Int) → x = v ∨ x < ((n - (k + 1) : Nat) : Int) := fun x _ hx => by omega
  unfold visitAll
  rw [← hv]
  by_cases hz : rd s.num v = 0
  ·rw [if_pos hz]
   have hc := h.cnt
   obtain ⟨s', ext, more, e, hp⟩ := visit_spec hn hT (n + 1) v s _ h v0 v1 hz (fun x hx => hx.elim) (fun x hx => hx.elim) (by omega)
   rw [e]
   refine visitAll_spec hn hT k s' (by omega) hp.ti (fun x x0 hx => ?_)
   rcases hnext x x0 hx with hx | hx
   ·subst hx; exact (hp.ti.met x v0 v1).2 hp.vm
   ·rw [hp.num x ((h.met x x0 (by omega)).1 (hm x x0 hx))]; exact hm x x0 hx
  ·rw [if_neg hz]
   refine visitAll_spec hn hT k s (by omega) h (fun x x0 hx => ?_)
   rcases hnext x x0 hx with hx | hx
   ·subst hx; exact hz
   ·exact hm x x0 hx
theorem rd_rep {n : Nat} (x : Int) : rd (List.replicate n 0) x = 0 := by
 unfold rd
 rw [List.getD_eq_getElem?_getD, List.getElem?_replicate]
 split <;> rfl
theorem opn_rep {n : Nat} (x : Int) : opnAt (List.replicate n false) x = false := by
 unfold opnAt
 rw [List.getD_eq_getElem?_getD, List.getElem?_replicate]
 split <;> rfl
structure CompS (n : Nat) (R : Int → Int → Prop) (C : List (List Int)) : Prop where
 cls : ∀ c ∈ C, Cls R c
 rng : ∀ c ∈ C, ∀ x ∈ c, 0 ≤ x ∧ x < (n : Int)
 all : ∀ x : Int, 0 ≤ x → x < n → ∃ c ∈ C, x ∈ c
 srt : C.Pairwise fun a b => rd a 0 < rd b 0
theorem rd_zero_mem {c : List Int} (h : c ≠ []) : rd c 0 ∈ c := by
 cases c with
 | nil => exact absurd rfl h
 | cons a c => show a ∈ a :: c; simp
theorem Cls.same {R : Int → Int → Prop} {c d : List Int} (hc : Cls R c) (hd : Cls R d) {x : Int} (h1 : x ∈ c) (h2 : x ∈ d) : c = d :=
 strict_ext hc.srt hd.srt fun y => by rw [hc.all x h1 y, hd.all x h2 y]
theorem compsOf_spec {n : Nat} (hn : n ≤ 1000) {rows : List (List Int)} {R : Int → Int → Prop} (hT : Tells n rows R) : ∃ C, compsOf rows n = some C ∧ CompS n R C := by
 have h0 : TI n R (fun _ => False) (Tj.start n) := by
  have e : (Tj.start n).stack ++ (Tj.start n).out.flatten = [] := rfl
  refine ⟨by simp [Tj.start], by simp [Tj.start], by simp [Tj.start], by simp [Tj.start], by rw [e]; simp, by rw [e]; rfl, fun x _ _ => ?_, fun x _ _ => ?_, by simp [Tj.start], by simp [Tj.start], by simp [Tj.start], by simp [Tj.start], by simp [Tj.start], by simp [Tj.start]⟩
  ·rw [e]; show rd (List.replicate n 0) x ≠ 0 ↔ _
   rw [rd_rep]; simp
  ·show opnAt (List.replicate n false) x = true ↔ x ∈ []
   rw [opn_rep]; simp
 obtain ⟨s, e, h, hm⟩ := visitAll_spec hn hT n (Tj.start n) (Nat.le_refl _) h0 (fun x x0 x1 => by omega)
 have hs : s.stack = [] := List.eq_nil_iff_forall_not_mem.2 fun y hy => by
  obtain ⟨x, hx, _⟩ := h.back y hy
  exact hx
 have hrng : ∀ c ∈ s.out, ∀ x ∈ c, 0 ≤ x ∧ x < (n : Int) := fun c hc x hx => h.rng x (List.mem_append_right _ (List.mem_flatten.2 ⟨c, hc, hx⟩))
 have hall : ∀ x : Int, 0 ≤ x → x < n → ∃ c ∈ s.out, x ∈ c := fun x x0 x1 => by
  have := (h.met x x0 x1).1 (hm x x0 x1)
  rw [hs, List.nil_append] at this
  exact List.mem_flatten.1 this
 have hfd : s.out.flatten.Nodup := by have := h.nd; rw [hs, List.nil_append] at this; exact this
 have hfirst : (s.out.map (rd · 0)).Nodup := by
  rw [List.nodup_iff_pairwise_ne, List.pairwise_map]
  have := (List.pairwise_flatten.1 hfd).2
  refine this.imp_of_mem fun {a b} ha hb hd e => ?_
  have h1 := rd_zero_mem (h.cls a ha).ne
  have h2 := rd_zero_mem (h.cls b hb).ne
  rw [e] at h1
  exact hd _ h1 _ h2 rfl
 have hlen := out_len h
 have hfine : fine s.out = true := by
  unfold fine
  rw [Bool.and_eq_true, Bool.and_eq_true, List.all_eq_true]
  refine ⟨⟨fun c hc => ?_, by simpa using hfirst⟩, by simp; omega⟩
  have h1 := (h.cls c hc).ne
  have h2 := hrng c hc _ (rd_zero_mem h1)
  simp only [Bool.and_eq_true, decide_eq_true_eq]
  refine ⟨⟨by simpa using h1, h2.1⟩, by omega⟩
 refine ⟨s.out.mergeSort byFirst, by unfold compsOf; rw [e]; dsimp only; rw [if_pos hfine], ⟨fun c hc => h.cls c (List.mem_mergeSort.1 hc), fun c hc => hrng c (List.mem_mergeSort.1 hc), fun x x0 x1 => ?_, ?_⟩⟩
 ·obtain ⟨c, hc, hx⟩ := hall x x0 x1
  exact ⟨c, List.mem_mergeSort.2 hc, hx⟩
 ·have h1 := List.pairwise_mergeSort (le := byFirst) (fun a b c h1 h2 => by unfold byFirst at *; simp at *; omega) (fun a b => by unfold byFirst; simp; omega) s.out
  have h2 : ((s.out.mergeSort byFirst).map (rd · 0)).Nodup := ((List.mergeSort_perm s.out byFirst).map _).nodup_iff.2 hfirst
  rw [List.nodup_iff_pairwise_ne, List.pairwise_map] at h2
  exact h1.imp₂ (fun a b hab hne => by unfold byFirst at hab; simp at hab; omega) h2
theorem CompS.one {n : Nat} {R : Int → Int → Prop} {C D : List (List Int)} (hC : CompS n R C) (hD : CompS n R D) : C = D := by
 have key : ∀ {A B : List (List Int)}, CompS n R A → CompS n R B → ∀ c ∈ A, c ∈ B := fun {A B} hA hB c hc => by
  have hm := rd_zero_mem (hA.cls c hc).ne
  obtain ⟨x0, x1⟩ := hA.rng c hc _ hm
  obtain ⟨d, hd, hx⟩ := hB.all _ x0 x1
  rw [(hA.cls c hc).same (hB.cls d hd) hm hx]; exact hd
 have nd : ∀ {A : List (List Int)}, CompS n R A → A.Nodup := fun {A} hA => by
  rw [List.nodup_iff_pairwise_ne]
  exact hA.srt.imp fun {a b} h e => by rw [e] at h; omega
 have hp : C.Perm D := (List.perm_ext_iff_of_nodup (nd hC) (nd hD)).2 fun c => ⟨key hC hD c, key hD hC c⟩
 exact List.Perm.eq_of_pairwise (le := fun a b : List Int => rd a 0 < rd b 0) (fun a b _ _ h1 h2 => by omega) hC.srt hD.srt hp
theorem Cls.iff {R S : Int → Int → Prop} (h : ∀ x y : Int, (Rch R x y ∧ Rch R y x) ↔ (Rch S x y ∧ Rch S y x)) {c : List Int} (hc : Cls R c) : Cls S c := ⟨hc.ne, hc.srt, fun x hx y => by rw [hc.all x hx y, h]⟩
theorem CompS.iff {n : Nat} {R S : Int → Int → Prop} (h : ∀ x y, (Rch R x y ∧ Rch R y x) ↔ (Rch S x y ∧ Rch S y x)) {C : List (List Int)} (hC : CompS n R C) : CompS n S C := ⟨fun c hc => (hC.cls c hc).iff h, hC.rng, hC.all, hC.srt⟩
theorem Rch.flip {R : Int → Int → Prop} {u v : Int} : Rch R u v → Rch (fun a b => R b a) v u := fun ⟨_, h⟩ => ⟨_, h.flip⟩
theorem CompS.flip {n : Nat} {R : Int → Int → Prop} {C : List (List Int)} (hC : CompS n R C) : CompS n (fun a b => R b a) C :=
 hC.iff fun _ _ => ⟨fun h => ⟨h.2.flip, h.1.flip⟩, fun h => ⟨h.2.flip, h.1.flip⟩⟩
end Go.Proofs.Ytlldjinejckbaaa.Pt

end
section
namespace Go.Proofs.Ytlldjinejckbaaa.Pq
open Go Go.RowKit Go.Proofs.YtlldjinejckbaaaW.PrintWords Go.Proofs.Ytlldjinejckbaaa.Mod Go.Proofs.Ytlldjinejckbaaa.PD Go.Proofs.Ytlldjinejckbaaa.Pg Go.Proofs.Ytlldjinejckbaaa.Pb Go.Proofs.Ytlldjinejckbaaa.Po Go.Proofs.Ytlldjinejckbaaa.Ph Go.Proofs.Ytlldjinejckbaaa.Pt
theorem comps_spec {n : Nat} (hn : n ≤ 1000) {l : List S55} (hl : Ok n l) : ∃ C, Tj.compsOf (nx n l) n = some C ∧ CompS n (E l) C := compsOf_spec hn (tells_nx hl)
def Closed (n : Nat) (R : Int → Int → Prop) (j : Nat) : Prop := 1 ≤ j ∧ ∃ v : Int, 0 ≤ v ∧ v < n ∧ Pa R j v v
theorem Closed.flip {n : Nat} {R : Int → Int → Prop} {j : Nat} (h : Closed n R j) : Closed n (fun a b => R b a) j := by
 obtain ⟨hj, v, h0, h1, hp⟩ := h
 exact ⟨hj, v, h0, h1, hp.flip⟩
theorem cyc_closed {n : Nat} {R : Int → Int → Prop} {c : List Int} (hc : Pf.CycS n R c) : Closed n R c.length := by
 have h0 := hc.rng (rd c 0) (by have := hc.pos; have := rd_mem (l := c) (k := 0) (by omega); simpa using this)
 have hpath : ∀ i : Nat, i < c.length → Pa R i (rd c 0) (rd c (i : Int)) := by
  intro i
  induction i with
  | zero => intro _; rfl
  | succ i ih => intro hi; exact ⟨_, ih (by omega), hc.next i hi⟩
 have hp := hc.pos
 obtain ⟨m, hm⟩ : ∃ m, c.length = m + 1 := ⟨c.length - 1, by omega⟩
 refine ⟨hp, rd c 0, h0.1, h0.2, ?_⟩
 have hcl := hc.close
 rw [hm]
 rw [show c.length - 1 = m by omega] at hcl
 exact ⟨_, hpath m (by omega), hcl⟩
theorem order_cases {n : Nat} (hn : n ≤ 1000) {l : List S55} (hl : Ok n l) : (∃ o, Od.orderOf n l = some (o, 0) ∧ Greedy n l o ∧ o.length = n ∧ ∀ j, ¬ Closed n (E l) j) ∨ (Od.orderOf n l = some ([], 50) ∧ ∃ j, Closed n (E l) j) := by
 rcases order_cycle hn hl with ⟨o, h1, h2, h3, _, h5⟩ | ⟨h1, c, _, h3⟩
 ·exact .inl ⟨o, h1, h2, h3, fun j ⟨hj, v, v0, v1, hp⟩ => h5 v v0 v1 j hj hp⟩
 ·exact .inr ⟨h1, _, cyc_closed h3⟩
end Go.Proofs.Ytlldjinejckbaaa.Pq

end
section
namespace Go.Proofs.Ytlldjinejckbaaa.PD
open Go.RowKit Go.Proofs.YtlldjinejckbaaaW.PrintWords Go.Proofs.YtlldjinejckbaaaW.PrintLast Go.Proofs.YtlldjinejckbaaaW.PrintMore
attribute [local go_sem] max2_int min2_int max_two min_two max_three min_three max_four min_four
set_option linter.unusedVariables false
set_option linter.unusedSimpArgs false
end Go.Proofs.Ytlldjinejckbaaa.PD

end
section
namespace Go.Proofs.Ytlldjinejckbaaa.PD
open Go Go.RowKit Go.Proofs.YtlldjinejckbaaaW.PrintWords Go.Proofs.YtlldjinejckbaaaW.PrintLast Go.Proofs.YtlldjinejckbaaaW.PrintMore
open Go.Proofs.Ytlldjinejckbaaa.Pg Go.Proofs.Ytlldjinejckbaaa.Pb Go.Proofs.Ytlldjinejckbaaa.Pt Go.Proofs.Ytlldjinejckbaaa.Pq
theorem order_atS {n : Nat} (hn : n ≤ 12) {l : List S55} (hl : Ok n l) (hlen : l.length ≤ 1000) : wireloomlaw05_order.f n l = Od.orderOf n l := by
 unfold wireloomlaw05_order.f digraph_Order.f
 rw [if_pos (ok_condW hn hl hlen), Int.toNat_natCast]
 cases Od.orderOf n l <;> rfl
theorem comps_atS {n : Nat} (hn : n ≤ 12) {l : List S55} (hl : Ok n l) (hlen : l.length ≤ 1000) : digraph_Components.f n l = Tj.compsOf (nx n l) n := by
 unfold digraph_Components.f
 rw [if_pos (ok_condW hn hl hlen), Int.toNat_natCast]
theorem rdL_getS {a : List (List Int)} {i : Nat} (h : i < a.length) : rd_L2 a (i : Int) = a[i] := by
 unfold rd_L2
 rw [List.getD_eq_getElem?_getD, Int.toNat_natCast, List.getElem?_eq_getElem h]
 rfl
theorem comp_lens {n : Nat} {R : Int → Int → Prop} {C : List (List Int)} (h : CompS n R C) : C.length ≤ n ∧ ∀ c ∈ C, c.length ≤ n := by
 refine ⟨?_, fun c hc => nodup_len ((h.cls c hc).srt.imp (fun h => by omega)) (h.rng c hc)⟩
 have := nodup_len (n := n) (a := C.map (rd · 0)) (by
  rw [List.nodup_iff_pairwise_ne, List.pairwise_map]
  exact h.srt.imp (fun h => by omega)) (fun x hx => by
  obtain ⟨c, hc, rfl⟩ := List.mem_map.1 hx
  exact h.rng c hc _ (rd_zero_mem (h.cls c hc).ne))
 simpa using this
end Go.Proofs.Ytlldjinejckbaaa.PD

end
section
namespace Go.Proofs.Ytlldjinejckbaaa.Pr
open Go Go.RowKit Go.Proofs.YtlldjinejckbaaaW.PrintWords Go.Proofs.Ytlldjinejckbaaa.Mod Go.Proofs.Ytlldjinejckbaaa.PD Go.Proofs.Ytlldjinejckbaaa.Pg Go.Proofs.Ytlldjinejckbaaa.Pb Go.Proofs.Ytlldjinejckbaaa.Po Go.Proofs.Ytlldjinejckbaaa.Ph Go.Proofs.Ytlldjinejckbaaa.Pt Go.Proofs.Ytlldjinejckbaaa.Pq
structure Tab (n : Nat) (C : List (List Int)) (A : List Int) : Prop where
 len : A.length = n
 val : ∀ (i : Nat) (h : i < C.length), ∀ x ∈ C[i], rd A x = (i : Int) + 1
theorem Tab.at {n : Nat} {R : Int → Int → Prop} {C : List (List Int)} {A : List Int} (hC : CompS n R C) (hA : Tab n C A) {x : Int} (x0 : 0 ≤ x) (x1 : x < n) : ∃ (i : Nat) (h : i < C.length), x ∈ C[i] ∧ rd A x = (i : Int) + 1 := by
 obtain ⟨c, hc, hx⟩ := hC.all x x0 x1
 obtain ⟨i, hi, rfl⟩ := List.getElem_of_mem hc
 exact ⟨i, hi, hx, hA.val i hi x hx⟩
theorem Tab.rng {n : Nat} {R : Int → Int → Prop} {C : List (List Int)} {A : List Int} (hC : CompS n R C) (hA : Tab n C A) {x : Int} (x0 : 0 ≤ x) (x1 : x < n) : 1 ≤ rd A x ∧ rd A x ≤ C.length := by
 obtain ⟨i, hi, _, e⟩ := hA.at hC x0 x1
 omega
theorem Tab.same {n : Nat} {R : Int → Int → Prop} {C : List (List Int)} {A : List Int} (hC : CompS n R C) (hA : Tab n C A) {u v : Int} (u0 : 0 ≤ u) (u1 : u < n) (v0 : 0 ≤ v) (v1 : v < n) : rd A u = rd A v ↔ Rch R u v ∧ Rch R v u := by
 obtain ⟨i, hi, hu, eu⟩ := hA.at hC u0 u1
 obtain ⟨j, hj, hv, ev⟩ := hA.at hC v0 v1
 have hci := hC.cls _ (List.getElem_mem hi)
 constructor
 ·intro h
  obtain rfl : i = j := by omega
  exact (hci.all u hu v).1 hv
 ·intro h
  rw [hA.val i hi v ((hci.all u hu v).2 h), eu]
def sm (A : List Int) (l : List S55) : List S55 := l.filterMap fun e => if rd A e.f0 = rd A e.f1 then none else some ⟨rd A e.f0 - 1, rd A e.f1 - 1⟩
theorem mem_sm {A : List Int} {l : List S55} {e : S55} : e ∈ sm A l ↔ ∃ x ∈ l, rd A x.f0 ≠ rd A x.f1 ∧ e.f0 = rd A x.f0 - 1 ∧ e.f1 = rd A x.f1 - 1 := by
 unfold sm
 rw [List.mem_filterMap]
 constructor
 ·rintro ⟨x, hx, h⟩
  split at h
  ·cases h
  ·rename_i hne
   cases h
   exact ⟨x, hx, hne, rfl, rfl⟩
 ·rintro ⟨x, hx, hne, h0, h1⟩
  refine ⟨x, hx, ?_⟩
  rw [if_neg hne]
  cases e
  simp only at h0 h1
  rw [h0, h1]
theorem E_sm {A : List Int} {l : List S55} {a b : Int} : E (sm A l) a b ↔ ∃ u v, E l u v ∧ rd A u ≠ rd A v ∧ a = rd A u - 1 ∧ b = rd A v - 1 := by
 constructor
 ·rintro ⟨e, he, rfl, rfl⟩
  obtain ⟨x, hx, hne, h0, h1⟩ := mem_sm.1 he
  exact ⟨x.f0, x.f1, ⟨x, hx, rfl, rfl⟩, hne, h0, h1⟩
 ·rintro ⟨u, v, ⟨x, hx, rfl, rfl⟩, hne, rfl, rfl⟩
  exact ⟨⟨_, _⟩, mem_sm.2 ⟨x, hx, hne, rfl, rfl⟩, rfl, rfl⟩
theorem ok_sm {n : Nat} {l : List S55} (hl : Ok n l) {C : List (List Int)} {A : List Int} (hC : CompS n (E l) C) (hA : Tab n C A) : Ok C.length (sm A l) := fun e he => by
 obtain ⟨x, hx, _, h0, h1⟩ := mem_sm.1 he
 have := hl x hx
 have r0 := hA.rng hC this.1 this.2.1
 have r1 := hA.rng hC this.2.2.1 this.2.2.2
 omega
theorem sm_reach {n : Nat} {l : List S55} (hl : Ok n l) {C : List (List Int)} {A : List Int} (hC : CompS n (E l) C) (hA : Tab n C A) : ∀ (j : Nat) (a b : Int), Pa (E (sm A l)) j a b → ∀ u v : Int, 0 ≤ u → u < n → 0 ≤ v → v < n → rd A u - 1 = a → rd A v - 1 = b → Rch (E l) u v
 | 0, a, b, h, u, v, u0, u1, v0, v1, hu, hv => by
  have : a = b := h
  exact ((hA.same hC u0 u1 v0 v1).1 (by omega)).1
 | j + 1, a, b, ⟨m, hm, he⟩, u, v, u0, u1, v0, v1, hu, hv => by
  obtain ⟨x, y, hxy, _, rfl, rfl⟩ := E_sm.1 he
  have ho := hxy.ok hl
  have h1 := sm_reach hl hC hA j a _ hm u x u0 u1 ho.1 ho.2.1 hu rfl
  have h2 := ((hA.same hC ho.2.2.1 ho.2.2.2 v0 v1).1 (by omega)).1
  exact (h1.trans (Rch.one hxy)).trans h2
theorem sm_open {n : Nat} {l : List S55} (hl : Ok n l) {C : List (List Int)} {A : List Int} (hC : CompS n (E l) C) (hA : Tab n C A) (j : Nat) : ¬ Closed C.length (E (sm A l)) j := by
 rintro ⟨hj, a, _, _, hp⟩
 obtain ⟨j', rfl⟩ : ∃ j', j = j' + 1 := ⟨j - 1, by omega⟩
 obtain ⟨m, hm, he⟩ := hp
 obtain ⟨x, y, hxy, hne, rfl, rfl⟩ := E_sm.1 he
 have ho := hxy.ok hl
 have h1 := sm_reach hl hC hA j' _ _ hm y x ho.2.2.1 ho.2.2.2 ho.1 ho.2.1 rfl rfl
 exact hne ((hA.same hC ho.1 ho.2.1 ho.2.2.1 ho.2.2.2).2 ⟨Rch.one hxy, h1⟩)
theorem flat_nodup {n : Nat} {R : Int → Int → Prop} {C : List (List Int)} (hC : CompS n R C) : C.flatten.Nodup := by
 rw [List.nodup_iff_pairwise_ne, List.pairwise_flatten]
 refine ⟨fun c hc => (hC.cls c hc).srt.imp (fun h => by omega), ?_⟩
 refine hC.srt.imp_of_mem fun {a b} ha hb h x hx y hy e => ?_
 subst e
 have := (hC.cls a ha).same (hC.cls b hb) hx hy
 subst this
 omega
theorem flat_len {n : Nat} {R : Int → Int → Prop} {C : List (List Int)} (hC : CompS n R C) : C.flatten.length = n := by
 have hr : ∀ x ∈ C.flatten, 0 ≤ x ∧ x < (n : Int) := fun x hx => by
  obtain ⟨c, hc, hx⟩ := List.mem_flatten.1 hx
  exact hC.rng c hc x hx
 have h1 := nodup_len (flat_nodup hC) hr
 have hs : (List.range n).map (fun k : Nat => (k : Int)) ⊆ C.flatten := fun x hx => by
  obtain ⟨k, hk, rfl⟩ := List.mem_map.1 hx
  have := List.mem_range.1 hk
  obtain ⟨c, hc, h⟩ := hC.all k (by omega) (by omega)
  exact List.mem_flatten.2 ⟨c, hc, h⟩
 have hnd : ((List.range n).map fun k : Nat => (k : Int)).Nodup := by
  rw [List.nodup_iff_pairwise_ne, List.pairwise_map]
  exact (List.pairwise_lt_range (n := n)).imp (fun h e => by omega)
 have := hnd.length_le_of_subset hs
 rw [List.length_map, List.length_range] at this
 omega
theorem ones_of_len : ∀ {C : List (List Int)}, (∀ c ∈ C, c ≠ []) → C.flatten.length = C.length → ∀ c ∈ C, c.length = 1
 | [], _, _, c, hc => by simp at hc
 | d :: C, hne, hl, c, hc => by
  have hd := List.length_pos_iff.2 (hne d (by simp))
  have hge : ∀ D : List (List Int), (∀ c ∈ D, c ≠ []) → D.length ≤ D.flatten.length := fun D => by
   induction D with
   | nil => intro _; simp
   | cons e D ih =>
    intro h
    have := ih (fun c hc => h c (by simp [hc]))
    have h3 := List.length_pos_iff.2 (h e (by simp))
    rw [List.flatten_cons, List.length_append, List.length_cons]; omega
  have h1 := hge C (fun c hc => hne c (by simp [hc]))
  rw [List.flatten_cons, List.length_append, List.length_cons] at hl
  rcases List.mem_cons.1 hc with hc | hc
  ·subst hc; omega
  ·exact ones_of_len (fun c hc => hne c (by simp [hc])) (by omega) c hc
theorem len_of_ones : ∀ {C : List (List Int)}, (∀ c ∈ C, c.length = 1) → C.flatten.length = C.length
 | [], _ => rfl
 | d :: C, h => by
  rw [List.flatten_cons, List.length_append, len_of_ones (C := C) (fun c hc => h c (by simp [hc])), h d (by simp), List.length_cons]
  omega
theorem open_iff {n : Nat} {l : List S55} (hl : Ok n l) {C : List (List Int)} (hC : CompS n (E l) C) : (∀ j, ¬ Closed n (E l) j) ↔ C.length = n ∧ ∀ e ∈ l, e.f0 ≠ e.f1 := by
 constructor
 ·intro hno
  have hloop : ∀ e ∈ l, e.f0 ≠ e.f1 := fun e he h => by
   have := hl e he
   exact hno 1 ⟨Nat.le_refl _, e.f0, this.1, this.2.1, Pa.one ⟨e, he, rfl, h.symm⟩⟩
  refine ⟨?_, hloop⟩
  have h1 : ∀ c ∈ C, c.length = 1 := fun c hc => by
   have hne := List.length_pos_iff.2 (hC.cls c hc).ne
   refine Classical.byContradiction fun hn => ?_
   have h2 : 1 < c.length := by omega
   have hx : c[0] ∈ c := List.getElem_mem _
   have hy : c[1] ∈ c := List.getElem_mem _
   have hlt := List.pairwise_iff_getElem.1 (hC.cls c hc).srt 0 1 (by omega) h2 (by omega)
   obtain ⟨⟨a, ha⟩, ⟨b, hb⟩⟩ := ((hC.cls c hc).all _ hx _).1 hy
   have hr := hC.rng c hc _ hx
   refine hno (a + b) ⟨?_, c[0], hr.1, hr.2, ha.add hb⟩
   cases a with
   | zero => have : c[0] = c[1] := ha; omega
   | succ a => omega
  have := len_of_ones h1
  rw [flat_len hC] at this
  omega
 ·rintro ⟨hlen, hloop⟩ j ⟨hj, v, v0, v1, hp⟩
  have h1 := ones_of_len (fun c hc => (hC.cls c hc).ne) (by rw [flat_len hC, hlen])
  obtain ⟨j', rfl⟩ : ∃ j', j = j' + 1 := ⟨j - 1, by omega⟩
  obtain ⟨m, hm, he⟩ := hp
  obtain ⟨c, hc, hv⟩ := hC.all v v0 v1
  have hmc := ((hC.cls c hc).all v hv m).2 ⟨⟨j', hm⟩, Rch.one he⟩
  have hl1 := h1 c hc
  have : m = v := by
   obtain ⟨i, hi, e1⟩ := List.getElem_of_mem hv
   obtain ⟨k, hk, e2⟩ := List.getElem_of_mem hmc
   obtain rfl : i = 0 := by omega
   obtain rfl : k = 0 := by omega
   rw [← e1, ← e2]
  subst this
  obtain ⟨e, he, h0, h2⟩ := he
  exact hloop e he (by rw [h0, h2])
end Go.Proofs.Ytlldjinejckbaaa.Pr

end
section
namespace Go.Proofs.Ytlldjinejckbaaa.PD
open Go Go.RowKit Go.Proofs.YtlldjinejckbaaaW.PrintWords Go.Proofs.YtlldjinejckbaaaW.PrintLast Go.Proofs.YtlldjinejckbaaaW.PrintMore
open Go.Proofs.Ytlldjinejckbaaa.Pg Go.Proofs.Ytlldjinejckbaaa.Pb Go.Proofs.Ytlldjinejckbaaa.Po Go.Proofs.Ytlldjinejckbaaa.Ph Go.Proofs.Ytlldjinejckbaaa.Pt Go.Proofs.Ytlldjinejckbaaa.Pq Go.Proofs.Ytlldjinejckbaaa.Pr
structure VI (n : Nat) (C : List (List Int)) (A : List Int) (i j : Nat) (cnt : Int) : Prop where
 len : A.length = n
 old : ∀ (i' : Nat) (h : i' < C.length), i' < i → ∀ x ∈ C[i'], rd A x = (i' : Int) + 1
 cur : ∀ h : i < C.length, ∀ x ∈ C[i].take j, rd A x = (i : Int) + 1
 new : ∀ x : Int, 0 ≤ x → (∀ (i' : Nat) (h : i' < C.length), i' < i → x ∉ C[i']) → (∀ h : i < C.length, x ∉ C[i].take j) → rd A x = 0
 cnt : cnt = ((C.take i).flatten.length + j : Nat)
theorem com_l4 {n : Nat} (hn : n ≤ 12) {l : List S55} (hl : Ok n l) (hlen : l.length ≤ 30) {C : List (List Int)} {A : List Int} (hC : CompS n (E l) C) (hA : Tab n C A) : ∀ (d i : Nat), i + d = l.length →
  Ev (fun k => wireloomlaw05_DigraphComponents.l4 k true C A ((l.take i).any fun e => e.f0 == e.f1) i n l C.length (sm A (l.take i))) true := by
 obtain ⟨q1, q2⟩ := comp_lens hC
 have hsl : ∀ i, (sm A (l.take i)).length ≤ 1000 := fun i => by
  unfold sm
  have h1 := List.length_filterMap_le (fun e : S55 => if rd A e.f0 = rd A e.f1 then none else some (⟨rd A e.f0 - 1, rd A e.f1 - 1⟩ : S55)) (l.take i)
  have h2 : (l.take i).length ≤ l.length := by rw [List.length_take]; omega
  omega
 intro d
 induction d with
 | zero =>
  intro i hi
  obtain rfl : i = l.length := by omega
  have ht : l.take l.length = l := List.take_length
  refine Ev.step (f := fun _ => some true) (fun k => ?_) (Ev.now _)
  simp only [wireloomlaw05_DigraphComponents.l4]
  have hs := hsl l.length
  rw [ht] at hs ⊢
  rw [if_neg (by omega), order_atS (by omega) (ok_sm hl hC hA) hs, order_atS hn hl (by omega)]
  rcases order_cases (n := C.length) (by omega) (ok_sm hl hC hA) with ⟨o, k1, _⟩ | ⟨_, j, hj⟩
  ·rw [k1, Option.bind_some, if_pos rfl]
   have hop := open_iff hl hC
   rcases order_cases (n := n) (by omega) hl with ⟨o', k2, _, _, k3⟩ | ⟨k2, j, hj⟩
   ·obtain ⟨h1, h2⟩ := hop.1 k3
    have h3 : (l.any fun e => e.f0 == e.f1) = false := by
     rw [List.any_eq_false]
     intro e he
     simpa using h2 e he
    rw [k2, Option.bind_some, if_pos (by omega), h3]; rfl
   ·rw [k2, Option.bind_some]
    by_cases hc : (C.length : Int) = n
    ·have h3 : (l.any fun e => e.f0 == e.f1) = true := by
      cases hb : (l.any fun e => e.f0 == e.f1) with
      | true => rfl
      | false =>
       rw [List.any_eq_false] at hb
       exact absurd hj ((hop.2 ⟨by omega, fun e he => by simpa using hb e he⟩) j)
     rw [if_pos hc, h3]; rfl
    ·rw [if_neg hc]; rfl
  ·exact absurd hj (sm_open hl hC hA j)
 | succ d ih =>
  intro i hi
  have hil : i < l.length := by omega
  obtain ⟨a0, a1, b0, b1⟩ := hl l[i] (List.getElem_mem hil)
  have r0 := hA.rng hC a0 a1
  have r1 := hA.rng hC b0 b1
  have w0 : wrap64 (rd A l[i].f0 - 1) = rd A l[i].f0 - 1 := wrap_ok (by omega) (by omega)
  have w1 : wrap64 (rd A l[i].f1 - 1) = rd A l[i].f1 - 1 := wrap_ok (by omega) (by omega)
  have hAl := hA.len
  have htk : l.take (i + 1) = l.take i ++ [l[i]] := List.take_succ_eq_append_getElem hil
  have hflag : ((l.take (i + 1)).any fun e => e.f0 == e.f1) = (((l.take i).any fun e => e.f0 == e.f1) || (l[i].f0 == l[i].f1)) := by
   rw [htk, List.any_append, List.any_cons, List.any_nil, Bool.or_false]
  have hs1 : rd A l[i].f0 = rd A l[i].f1 → sm A (l.take (i + 1)) = sm A (l.take i) := fun h => by
   unfold sm
   rw [htk, List.filterMap_append, List.filterMap_cons_none (by rw [if_pos h]), List.filterMap_nil, List.append_nil]
  have hs2 : ¬ rd A l[i].f0 = rd A l[i].f1 → sm A (l.take (i + 1)) = sm A (l.take i) ++ [⟨rd A l[i].f0 - 1, rd A l[i].f1 - 1⟩] := fun h => by
   unfold sm
   rw [htk, List.filterMap_append, List.filterMap_cons_some (by rw [if_neg h]), List.filterMap_nil]
  have hnext := ih (i + 1) (by omega)
  rw [hflag] at hnext
  have hsi := hsl i
  refine Ev.step (fun k => ?_) hnext
  simp only [wireloomlaw05_DigraphComponents.l4]
  rw [if_pos (by omega), if_pos (by omega), rdT_getW hil, if_pos a0, if_pos (by omega), if_pos b0, if_pos (by omega), w0, w1, wrap_nextW (by omega)]
  have hslt : (sm A (l.take i)).length < 8796093022208 := by omega
  by_cases hb : ((l.take i).any fun e => e.f0 == e.f1) = true
  ·rw [if_pos hb, hb, Bool.true_or]
   by_cases he : rd A l[i].f0 = rd A l[i].f1
   ·rw [if_pos (by omega), hs1 he]
   ·rw [if_neg (by omega), if_pos hslt, hs2 he]
  ·have hb' : ((l.take i).any fun e => e.f0 == e.f1) = false := by simpa using hb
   rw [if_neg hb, hb', Bool.false_or]
   by_cases he : rd A l[i].f0 = rd A l[i].f1
   ·rw [if_pos (by omega), hs1 he]
   ·rw [if_neg (by omega), if_pos hslt, hs2 he]
theorem com_l3 {n : Nat} (hn : n ≤ 12) {l : List S55} (hl : Ok n l) (hlen : l.length ≤ 30) {C : List (List Int)} {A : List Int} (hC : CompS n (E l) C) (hA : Tab n C A) {v : Nat} (hv : v < n)
  (h : Ev (fun k => wireloomlaw05_DigraphComponents.l2 k true C A ((v + 1 : Nat) : Int) n l) true) : ∀ (d w : Nat), w + d = n → Ev (fun k => wireloomlaw05_DigraphComponents.l3 k true C A v (Rc.reachOf n l v) w n l) true := by
 have hAl := hA.len
 have hRv := reach_spec (n := n) (by omega) hl (s := (v : Int)) (by omega) (by omega)
 intro d
 induction d with
 | zero =>
  intro w hw
  refine Ev.step (fun k => ?_) h
  simp only [wireloomlaw05_DigraphComponents.l3]
  rw [if_neg (by omega), wrap_nextW (by omega)]
 | succ d ih =>
  intro w hw
  have hwn : w < n := by omega
  have hRw := reach_spec (n := n) (by omega) hl (s := (w : Int)) (by omega) (by omega)
  have hsame := hA.same hC (u := (v : Int)) (v := (w : Int)) (by omega) (by omega) (by omega) (by omega)
  have hv1 : (w : Int) ∈ Rc.reachOf n l v ↔ Rch (E l) v w := by rw [hRv.mem]; exact Iff.rfl
  have hw1 : (v : Int) ∈ Rc.reachOf n l w ↔ Rch (E l) w v := by rw [hRw.mem]; exact Iff.rfl
  have hl1 := hRv.len
  have hl2 := hRw.len
  have hnext := ih (w + 1) (by omega)
  refine Ev.step (f := fun k => (wireloomref05_In.f k (Rc.reachOf n l v) w).bind fun t653 => if t653 = true then ((wireloomref05_In.f k (Rc.reachOf n l w) v).bind fun t657 => if (t657 != (rd A v == rd A w)) = true then none else wireloomlaw05_DigraphComponents.l3 k true C A v (Rc.reachOf n l v) ((w + 1 : Nat) : Int) n l) else (if (false != (rd A v == rd A w)) = true then none else wireloomlaw05_DigraphComponents.l3 k true C A v (Rc.reachOf n l v) ((w + 1 : Nat) : Int) n l)) (fun k => ?_) (Ev.bind (in_ev (by omega) _ (r := decide ((w : Int) ∈ Rc.reachOf n l v)) (by simp)) ?_)
  ·simp only [wireloomlaw05_DigraphComponents.l3]
   have p1 : (0 : Int) ≤ (v : Int) := by omega
   have p2 : (v : Int) < (A.length : Int) := by omega
   have p3 : (0 : Int) ≤ (w : Int) := by omega
   have p4 : (w : Int) < (A.length : Int) := by omega
   rw [if_pos (by omega), reach_atL hn hl (by omega), Option.bind_some, wrap_nextW (by omega)]
   simp only [p1, p2, p3, p4, if_true]
  ·by_cases hvw : Rch (E l) v w
   ·rw [decide_eq_true (hv1.2 hvw)]
    simp only [if_true]
    refine Ev.bind (in_ev (by omega) _ (r := decide ((v : Int) ∈ Rc.reachOf n l w)) (by simp)) ?_
    have he : (decide ((v : Int) ∈ Rc.reachOf n l w) != (rd A v == rd A w)) = false := by
     by_cases hwv : Rch (E l) w v
     ·rw [decide_eq_true (hw1.2 hwv), beq_iff_eq.2 (hsame.2 ⟨hvw, hwv⟩)]; rfl
     ·rw [decide_eq_false (fun h => hwv (hw1.1 h)), beq_eq_false_iff_ne.2 (fun h => hwv (hsame.1 h).2)]; rfl
    simp only [he, Bool.false_eq_true, if_false]
    exact hnext
   ·rw [decide_eq_false (fun h => hvw (hv1.1 h))]
    have he : (false != (rd A v == rd A w)) = false := by rw [beq_eq_false_iff_ne.2 (fun h => hvw (hsame.1 h).1)]; rfl
    simp only [he, Bool.false_eq_true, if_false]
    exact hnext
theorem com_l2 {n : Nat} (hn : n ≤ 12) {l : List S55} (hl : Ok n l) (hlen : l.length ≤ 30) {C : List (List Int)} {A : List Int} (hC : CompS n (E l) C) (hA : Tab n C A) : ∀ (d v : Nat), v + d = n → Ev (fun k => wireloomlaw05_DigraphComponents.l2 k true C A v n l) true := by
 intro d
 induction d with
 | zero =>
  intro v hv
  refine Ev.step (fun k => ?_) (com_l4 hn hl hlen hC hA l.length 0 (by omega))
  simp only [wireloomlaw05_DigraphComponents.l2]
  rw [if_neg (by omega)]
  rfl
 | succ d ih =>
  intro v hv
  refine Ev.step (fun k => ?_) (com_l3 hn hl hlen hC hA (v := v) (by omega) (ih (v + 1) (by omega)) n 0 (by omega))
  simp only [wireloomlaw05_DigraphComponents.l2]
  rw [if_pos (by omega), reach_atL hn hl (by omega), Option.bind_some]
  rfl
theorem take_snoc {c : List Int} {j : Nat} (h : j < c.length) : c.take (j + 1) = c.take j ++ [rd c (j : Int)] := by
 rw [List.take_succ_eq_append_getElem h, rd_getL h]
theorem com_l1 {n : Nat} (hn : n ≤ 12) {l : List S55} {C : List (List Int)} (hC : CompS n (E l) C) {i : Nat} (hi : i < C.length)
  (h : ∀ A cnt, VI n C A (i + 1) 0 cnt → Ev (fun k => wireloomlaw05_DigraphComponents.l0 k true C A cnt ((i + 1 : Nat) : Int) n l) true) : ∀ (d j : Nat) (A : List Int) (cnt : Int), j + d = C[i].length → VI n C A i j cnt → Ev (fun k => wireloomlaw05_DigraphComponents.l1 k true C A cnt i j n l) true := by
 obtain ⟨q1, q2⟩ := comp_lens hC
 have hci := List.getElem_mem hi
 have hcl := q2 _ hci
 have hcs := hC.cls _ hci
 have hdis : ∀ (i' : Nat) (h' : i' < C.length), i' ≠ i → ∀ x ∈ C[i], x ∉ C[i'] := fun i' h' hne x hx hx' => by
  have e := hcs.same (hC.cls _ (List.getElem_mem h')) hx hx'
  have hs := List.pairwise_iff_getElem.1 hC.srt
  rcases Nat.lt_or_gt_of_ne hne with hlt | hlt
  ·have := hs i' i h' hi hlt
   rw [e] at this; omega
  ·have := hs i i' hi h' hlt
   rw [e] at this; omega
 intro d
 induction d with
 | zero =>
  intro j A cnt hj hV
  have htk : C.take (i + 1) = C.take i ++ [C[i]] := List.take_succ_eq_append_getElem hi
  have hjt : C[i].take j = C[i] := List.take_of_length_le (by omega)
  have hV' : VI n C A (i + 1) 0 cnt := by
   refine ⟨hV.len, fun i' h' hlt x hx => ?_, fun _ x hx => by simp at hx, fun x x0 hx _ => ?_, ?_⟩
   ·rcases Nat.lt_or_eq_of_le (Nat.le_of_lt_succ hlt) with hlt | he
    ·exact hV.old i' h' hlt x hx
    ·subst he
     exact hV.cur hi x (by rw [hjt]; exact hx)
   ·exact hV.new x x0 (fun i' h' hlt => hx i' h' (by omega)) (fun _ hx' => hx i hi (by omega) (List.mem_of_mem_take hx'))
   ·rw [hV.cnt, htk, List.flatten_append, List.length_append, List.flatten_singleton]
    omega
  have hne := List.length_pos_iff.2 hcs.ne
  refine Ev.step (fun k => ?_) (h A cnt hV')
  simp only [wireloomlaw05_DigraphComponents.l1]
  rw [if_pos (by omega), if_pos (by omega), rdL_getS hi, if_neg (by omega), if_neg (by omega)]
  by_cases hi0 : 0 < i
  ·have hw : wrap64 ((i : Int) - 1) = ((i - 1 : Nat) : Int) := by rw [wrap_ok (by omega) (by omega)]; omega
   have hp := List.length_pos_iff.2 (hC.cls _ (List.getElem_mem (show i - 1 < C.length by omega))).ne
   have hs := List.pairwise_iff_getElem.1 hC.srt (i - 1) i (by omega) hi (by omega)
   rw [if_pos (by omega), hw, rdL_getS (show i - 1 < C.length by omega), if_pos (by omega), if_pos (by omega), if_pos (by omega), if_pos (by omega), if_neg (by omega), wrap_nextW (by omega)]
  ·rw [if_neg (by omega), wrap_nextW (by omega)]
 | succ d ih =>
  intro j A cnt hj hV
  have hjl : j < C[i].length := by omega
  have hx : rd C[i] (j : Int) ∈ C[i] := by rw [rd_getL hjl]; exact List.getElem_mem _
  obtain ⟨x0, x1⟩ := hC.rng _ hci _ hx
  have hxt : rd C[i] (j : Int) ∉ C[i].take j := fun hm => by
   obtain ⟨m, hm, e⟩ := List.getElem_of_mem hm
   rw [List.length_take] at hm
   rw [List.getElem_take, rd_getL hjl] at e
   have := List.pairwise_iff_getElem.1 hcs.srt m j (by omega) hjl (by omega)
   omega
  have hz : rd A (rd C[i] (j : Int)) = 0 := hV.new _ x0 (fun i' h' hlt => hdis i' h' (by omega) _ hx) (fun _ => hxt)
  have hAl := hV.len
  have hcnt := hV.cnt
  have hfl : (C.take i).flatten.length ≤ n := by
   have h1 := flat_len hC
   have h2 : C.flatten.length = (C.take i).flatten.length + (C.drop i).flatten.length := by rw [← List.length_append, ← List.flatten_append, List.take_append_drop]
   omega
  have hset : ∀ y : Int, 0 ≤ y → rd (A.set (rd C[i] (j : Int)).toNat ((i : Int) + 1)) y = if y = rd C[i] (j : Int) then (i : Int) + 1 else rd A y := fun y hy => by
   by_cases e : y = rd C[i] (j : Int)
   ·subst e; rw [if_pos rfl, Mod.rd_set_same _ _ _ x0 (by omega)]
   ·rw [if_neg e, Mod.rd_set_other _ _ _ _ hy x0 e]
  have hV' : VI n C (A.set (rd C[i] (j : Int)).toNat ((i : Int) + 1)) i (j + 1) (cnt + 1) := by
   refine ⟨by rw [List.length_set]; exact hAl, fun i' h' hlt y hy => ?_, fun _ y hy => ?_, fun y y0 hy1 hy2 => ?_, by rw [hcnt]; omega⟩
   ·rw [hset y (hC.rng _ (List.getElem_mem h') y hy).1, if_neg (fun e : y = rd C[i] (j : Int) => hdis i' h' (by omega) _ hx (by rw [← e]; exact hy))]
    exact hV.old i' h' hlt y hy
   ·rw [take_snoc hjl] at hy
    rw [hset y (hC.rng _ hci y (by
     rcases List.mem_append.1 hy with hy | hy
     ·exact List.mem_of_mem_take hy
     ·rw [List.mem_singleton] at hy; rw [hy]; exact hx)).1]
    by_cases e : y = rd C[i] (j : Int)
    ·rw [if_pos e]
    ·rw [if_neg e]
     rcases List.mem_append.1 hy with hy | hy
     ·exact hV.cur hi y hy
     ·rw [List.mem_singleton] at hy; exact absurd hy e
   ·have hy2' := hy2 hi
    rw [take_snoc hjl] at hy2'
    rw [hset y y0, if_neg (fun e => hy2' (by simp [e]))]
    exact hV.new y y0 hy1 (fun _ hm => hy2' (List.mem_append_left _ hm))
  refine Ev.step (fun k => ?_) (ih (j + 1) _ _ (by omega) hV')
  have p1 : (0 : Int) ≤ (i : Int) := by omega
  have p2 : (i : Int) < (C.length : Int) := by omega
  have p3 : (j : Int) < (C[i].length : Int) := by omega
  have p4 : (0 : Int) ≤ (j : Int) := by omega
  have p5 : ¬ rd C[i] (j : Int) < 0 := by omega
  have p6 : ¬ rd C[i] (j : Int) ≥ (n : Int) := by omega
  have p7 : rd C[i] (j : Int) < (A.length : Int) := by omega
  have p8 : ¬ rd A (rd C[i] (j : Int)) > 0 := by omega
  have hwj : wrap64 ((j : Int) + 1) = ((j + 1 : Nat) : Int) := wrap_nextW (by omega)
  have hi1 : -1000000 ≤ (i : Int) + 1 ∧ (i : Int) + 1 ≤ 1000000 := by clear hwj; omega
  have hc1 : -1000000 ≤ cnt + 1 ∧ cnt + 1 ≤ 1000000 := by clear hwj; omega
  have hwi := wrap_ok hi1.1 hi1.2
  have hwc := wrap_ok hc1.1 hc1.2
  by_cases hj0 : 0 < j
  ·obtain ⟨j', rfl⟩ : ∃ j', j = j' + 1 := ⟨j - 1, by clear hwi hwc hwj; omega⟩
   have hw : wrap64 (((j' + 1 : Nat) : Int) - 1) = (j' : Int) := by
    have hx : ((j' + 1 : Nat) : Int) - 1 = (j' : Int) := by clear hwi hwc hwj; omega
    rw [hx]; exact wrap_ok (by clear hwi hwc hwj; omega) (by clear hwi hwc hwj; omega)
   have hs : rd C[i] (j' : Int) < rd C[i] ((j' + 1 : Nat) : Int) := by
    rw [rd_getL (show j' < C[i].length by clear hwi hwc hwj hw; omega), rd_getL hjl]
    exact List.pairwise_iff_getElem.1 hcs.srt j' (j' + 1) (by clear hwi hwc hwj hw; omega) hjl (Nat.lt_succ_self _)
   have g1 : ((j' + 1 : Nat) : Int) > 0 := by clear hwi hwc hwj hw; omega
   have g2 : (0 : Int) ≤ (j' : Int) := Int.natCast_nonneg _
   have g3 : (j' : Int) < (C[i].length : Int) := by clear hwi hwc hwj hw; omega
   have g4 : ¬ rd C[i] (j' : Int) ≥ rd C[i] ((j' + 1 : Nat) : Int) := Int.not_le.2 hs
   simp only [wireloomlaw05_DigraphComponents.l1]
   rw [if_pos p1, if_pos p2, rdL_getS hi, if_pos p3, if_pos p4, if_neg p5, if_neg p6, if_pos g1, hw, if_pos g2, if_pos g3, if_neg g4, if_pos x0, if_pos p7, if_neg p8, hwi, hwc, hwj]
  ·have g1 : ¬ (j : Int) > 0 := by clear hwi hwc hwj; omega
   simp only [wireloomlaw05_DigraphComponents.l1]
   rw [if_pos p1, if_pos p2, rdL_getS hi, if_pos p3, if_pos p4, if_neg p5, if_neg p6, if_neg g1, if_pos x0, if_pos p7, if_neg p8, hwi, hwc, hwj]
theorem com_l0 {n : Nat} (hn : n ≤ 12) {l : List S55} (hl : Ok n l) (hlen : l.length ≤ 30) {C : List (List Int)} (hC : CompS n (E l) C) : ∀ (d i : Nat) (A : List Int) (cnt : Int), i + d = C.length → VI n C A i 0 cnt → Ev (fun k => wireloomlaw05_DigraphComponents.l0 k true C A cnt i n l) true := by
 intro d
 induction d with
 | zero =>
  intro i A cnt hi hV
  obtain rfl : i = C.length := by omega
  have hA : Tab n C A := ⟨hV.len, fun i' h' x hx => hV.old i' h' h' x hx⟩
  have hcnt := hV.cnt
  rw [List.take_length, flat_len hC] at hcnt
  refine Ev.step (fun k => ?_) (com_l2 hn hl hlen hC hA n 0 (by omega))
  simp only [wireloomlaw05_DigraphComponents.l0]
  rw [if_neg (by omega), if_pos (by omega)]
  rfl
 | succ d ih =>
  intro i A cnt hi hV
  have hil : i < C.length := by omega
  refine Ev.step (fun k => ?_) (com_l1 hn hC hil (fun A' cnt' hV' => ih (i + 1) A' cnt' (by omega) hV') C[i].length 0 A cnt (by omega) hV)
  simp only [wireloomlaw05_DigraphComponents.l0]
  rw [if_pos (by omega)]
  rfl
theorem components_pure (a b : Int) (ha : 0 ≤ a) (hb : 0 ≤ b) (B : List Int) (hB : ∀ x ∈ B, 0 ≤ x ∧ x ≤ 255) : ∃ k, wireloomlaw05_DigraphComponents.f k a b B = some true := by
 obtain ⟨n, l, hmade, hn, hl, hlen⟩ := made_spec a b ha hb hB
 refine Ev.rounds (g := fun k => wireloomlaw05_DigraphComponents.f k a b B) ?_
 unfold wireloomlaw05_DigraphComponents.f
 refine Ev.bind examples_ev ?_
 simp only [if_true]
 refine Ev.bind hmade ?_
 obtain ⟨C, hc, hC⟩ := comps_spec (n := n) (by omega) hl
 have hV : VI n C (List.replicate n 0) 0 0 0 := ⟨by simp, fun i' h' hlt => by omega, fun _ x hx => by simp at hx, fun x _ _ _ => rd_rep x, by simp⟩
 refine Ev.congr (fun k => ?_) (com_l0 hn hl hlen hC C.length 0 _ _ (by omega) hV)
 rw [comps_atS hn hl (by omega), hc, Option.bind_some, if_pos (by omega), if_pos (by rw [Int.toNat_natCast]; omega), Int.toNat_natCast]
 rfl
end Go.Proofs.Ytlldjinejckbaaa.PD

end
section
namespace Go.Proofs.Ytlldjinejckbaaa.Op
open Go Go.RowKit Go.Joins Go.ChangeShapes Go.WideShapes Go.Deep Go.Proofs.YtlldjinejckbaaaW.PrintWords Go.Proofs.Ytlldjinejckbaaa.PD
set_option linter.unusedVariables false
def Opens (P : Program) (t : TypeId) {α : Type} (d : Kd α) (wf : α → Prop) : Prop := ∀ (H : Type) (enc : TypeId × Value → H) (w : World) (spare : Nat → Bool) (held : Bool) (fuel : Nat) (cs : List Value) (x : DataW H × List MemPlace),
 DataW.trod enc P w 0 spare held fuel t cs = some x → ∃ a, d.K w a cs ∧ wf a
section
variable {P : Program} {t e : TypeId}
theorem opens_int {k : IntKind} (ht : P.underlying t = some (.int k)) : Opens P t (Kd.int k) (fun n => (Lit.int k n).wf = true) := fun H enc w spare held fuel cs x h => by
 obtain ⟨n, hc, _, hw⟩ := DataW.trod_int ht h
 exact ⟨n, hc, hw⟩
theorem opens_slice {α : Type} {d : Kd α} {wf : α → Prop} (ht : P.underlying t = some (.slice e)) (hc : P.cellsOf e = d.sz) (h : Opens P e d wf) : Opens P t (Kd.slice e d) (fun xs => ∀ x ∈ xs, wf x) := fun H enc w spare held fuel cs x hx => by
 rcases open_slice ht hx with ⟨rfl, _⟩ | ⟨a, len, cap, m, n, D, Pl, rfl, _, hl, hm, hmm, _, hel⟩
 ·exact ⟨[], ⟨none, 0, rfl, Nat.le_refl _, rfl, by simp, fun h => absurd h (by simp)⟩, fun x hx => by simp at hx⟩
 ·have hlm : len ≤ m := by rw [hmm]; split <;> omega
  have each : ∀ i, i < len → ∃ q : α, (∃ c, c.length = d.sz ∧ d.K w q c ∧ ∀ j u, c[j]? = some u → w.cell? (a.add (i * d.sz + j)) = some u) ∧ wf q := fun i hi => by
   obtain ⟨cs', h1, h2⟩ := hel i (by omega)
   obtain ⟨q, hq, hw⟩ := h H enc w spare held n cs' _ h2
   obtain ⟨_, hlen, hcell⟩ := World.cells?_some h1
   refine ⟨q, ⟨cs', by rw [hlen, hc], hq, fun j u hu => ?_⟩, hw⟩
   have hj : j < cs'.length := (List.getElem?_eq_some_iff.1 hu).1
   have := hcell j (by rw [← hlen]; exact hj)
   rw [Deep.add_add, hc] at this
   rw [this, hu]
  have all : ∀ k, k ≤ len → ∃ ps : List α, ps.length = k ∧ ∀ j p, ps[j]? = some p → (∃ c, c.length = d.sz ∧ d.K w p c ∧ ∀ i u, c[i]? = some u → w.cell? (a.add (j * d.sz + i)) = some u) ∧ wf p := by
   intro k
   induction k with
   | zero => intro _; exact ⟨[], rfl, fun j p h => by simp at h⟩
   | succ k ih =>
    intro hk
    obtain ⟨ps, hp, hps⟩ := ih (by omega)
    obtain ⟨q, hq⟩ := each k (by omega)
    refine ⟨ps ++ [q], by simp [hp], fun j p hj => ?_⟩
    rcases Nat.lt_or_ge j ps.length with h | h
    ·rw [List.getElem?_append_left h] at hj
     exact hps j p hj
    ·have hj2 := (List.getElem?_eq_some_iff.1 hj).1
     rw [List.length_append, List.length_singleton] at hj2
     obtain rfl : j = k := by omega
     rw [List.getElem?_append_right h, hp, Nat.sub_self] at hj
     obtain rfl : q = p := by simpa using hj
     exact hq
  obtain ⟨ps, hp, hps⟩ := all len (Nat.le_refl _)
  refine ⟨ps, ⟨some a, cap, by rw [hp], by rw [hp]; exact hl, hp.symm ▸ rfl, by unfold maxLen at hm; omega, fun _ => ⟨a, rfl, fun j p hj => (hps j p hj).1⟩⟩, fun x hx => ?_⟩
  obtain ⟨j, hj⟩ := List.mem_iff_getElem?.1 hx
  exact (hps j x hj).2
end
theorem open_row {α : Type} {d : Kd α} {wf : α → Prop} {t e : TypeId} (h : Opens Try.prog t (Kd.slice e d) (fun xs => ∀ x ∈ xs, wf x)) {H : Type} {enc : TypeId × Value → H} {w : World} {spare : Nat → Bool} {held : Bool} {fuel : Nat} {v : Value} {x : DataW H × List MemPlace}
  (hx : DataW.trod enc Try.prog w 0 spare held fuel t [v] = some x) : ∃ A c l, v = .slice A l.length c ∧ d.C w A l.length l ∧ l.length ≤ c ∧ ∀ x ∈ l, wf x := by
 obtain ⟨xs, ⟨A, c, he, hc, hr⟩, hw⟩ := h H enc w spare held fuel [v] x hx
 injection he with he _
 exact ⟨A, c, xs, he, hr, hc, hw⟩
theorem opens_u8s : Opens Try.prog 22 (Kd.slice 5 (Kd.int .u8)) (fun xs => ∀ x ∈ xs, (Lit.int .u8 x).wf = true) := opens_slice Try.underlying22 (by kernel_rfl) (opens_int Try.underlying5)
section
variable {H : Type} {enc : TypeId × Value → H} {w : World} {spare : Nat → Bool} {held : Bool} {r : Reach} {b0 : Nat} {v : Value} {d : DataW H} {p : List MemPlace}
set_option maxRecDepth 100000 in
theorem open_raw (hv : Value.okWide Try.prog w r b0 24 v) (h : DataW.Trod enc Try.prog w 0 spare held 24 v d p) : ∃ (a b : Int) (A : Option Addr) (c : Nat) (l : List Int), v = .agg #[.int .u8 a, .int .u8 b, .slice A l.length c] ∧ (0 ≤ a ∧ a ≤ 255) ∧ (0 ≤ b ∧ b ≤ 255) ∧ (∀ x ∈ l, 0 ≤ x ∧ x ≤ 255) ∧
  (Kd.int .u8).C w A l.length l ∧ l.length ≤ c := by
 obtain ⟨v0, v1, v2, y0, y1, y2, n, rfl, _, _, h0, h1, h2⟩ := open_agg3 Try.underlying24 (by kernel_rfl) (by kernel_rfl) hv h
 obtain ⟨a, ha, _, hw0⟩ := DataW.trod_int (k := .u8) Try.underlying5 h0
 obtain ⟨b, hb, _, hw1⟩ := DataW.trod_int (k := .u8) Try.underlying5 h1
 obtain ⟨A, c, l, rfl, hC, hl, hw⟩ := open_row opens_u8s h2
 have ea : v0 = .int .u8 a := by injection ha
 have eb : v1 = .int .u8 b := by injection hb
 rw [ea, eb]
 exact ⟨a, b, A, c, l, rfl, bounds_u8 hw0, bounds_u8 hw1, fun x hx => bounds_u8 (hw x hx), hC, hl⟩
end
end Go.Proofs.Ytlldjinejckbaaa.Op

end
section
namespace Go.Proofs.Ytlldjinejckbaaa.digraphComponents
open Go.ChangeShapes Go.WideShapes Go.ChangeAt Go.RowKit Go.Proofs.Ytlldjinejckbaaa.Op
open Go.ChangeMaps (open_string shut_string)
set_option linter.unusedVariables false
theorem own : ownKnob Try.prog.godebug = none := by kernel_rfl
theorem laidOut : laidOutB Try.prog = true := by kernel_rfl
set_option maxRecDepth 100000 in
theorem lifted (os : Os) (started : os.Started) (H : Type) (enc : TypeId × Value → H) :
  ReturnsInHanded {} Try.checked os 8 .any (Rows.digraphComponentsSpec.pre6 enc Try.prog Try.f8 Rows.digraphComponentsRow.domain false) (Rows.digraphComponentsSpec.post enc Try.prog Try.f8 false true false false) := by
 refine returnsInHanded_of_change_sized (C := Try.checked) own started (by kernel_rfl) Try.func8
  (ChangeSpec.witness6 (enc := enc) (C := Try.checked) false ⟨#[], #[.agg #[.int .u8 0, .int .u8 0, .slice none 0 0]], []⟩ 8 (by kernel_rfl) (by kernel_rfl) (by kernel_rfl) (by kernel_rfl)) ?_
 intro W base args ds gs before hval0 hW hcnd hsz0 _
 have hval : ∀ (j : Nat) t v, Try.f8.params[j]? = some t → args[j]? = some v → Value.okWide Try.prog W .any base t v := hval0
 have hW' := hW
 obtain ⟨p, q, hA0, hV, rfl, hfz, hnd⟩ := hW
 have hA : DataW.TrodAll enc Try.prog W 0 (fun _ => true) true Try.f8.params.toList args.toList ds p := hA0
 rw [Try.params8] at hA hval
 obtain ⟨v0, vs0, d0, ds0, p0, q0, hargs, rfl, rfl, h0, r0⟩ := trodAll_cons hA
 obtain ⟨rfl, rfl, rfl⟩ := trodAll_nil r0
 obtain rfl : args = #[v0] := by cases args; simp_all
 obtain ⟨rfl, rfl⟩ := trodVars_none hV
 have lt0 : ∀ x ∈ p0, x.block < W.heap.size := by obtain ⟨m, hm⟩ := h0; exact DataW.trod_lt m _ _ _ hm
 obtain ⟨a0, b0, A0, c0, l0, rfl, ha0, hb0, hB0, hr0, hc0⟩ := open_raw (hval 0 24 v0 rfl rfl) h0
 clear hA0 hval0 hsz0
 obtain ⟨k, hk⟩ := PD.components_pure a0 b0 ha0.1 hb0.1 l0 hB0
 refine (PD.wireloomlaw05_DigraphComponents.calls k a0 b0 A0 c0 l0 true W hr0 hc0 hk).mono fun e W' ⟨he, bel⟩ => ?_
 subst he
 exact ⟨_, rfl, _, _, _, [], _, [], hW', trodAll_mk1 (shut_bool Try.underlying4 _), (trodAll_cons_mk (Below.trod laidOut (by kernel_rfl) (of_decide_eq_true (by kernel_rfl)) h0 bel lt0) trodAll_mk0), rfl, bel.frame _, fun h => by cases h⟩
theorem over : Rows.digraphComponentsRow.holds Try.pinned (OpenSpec.ofChange Rows.digraphComponentsSpec) :=
 OpenClaim.holds_of_wide 8 Try.f8 rfl rfl rfl rfl rfl rfl rfl ⟨rfl, rfl, rfl, rfl, rfl⟩ rfl rfl rfl rfl rfl (by kernel_rfl) Try.func8 (by kernel_rfl)
  (of_decide_eq_true (by kernel_rfl)) (by unfold Func.isWrapper; first | (rw [if_pos (by decide +kernel)]; kernel_rfl) | (rw [if_neg (by decide +kernel)]; exact ⟨rfl, rfl⟩))
  (fun os started H enc _ => lifted os started H enc)
theorem proved : Rows.DigraphComponentsSaid := over
end Go.Proofs.Ytlldjinejckbaaa.digraphComponents
namespace Go.Proofs.Ytlldjinejckbaaa
theorem digraphComponents_holds : Rows.DigraphComponentsSaid := digraphComponents.proved
end Go.Proofs.Ytlldjinejckbaaa

end
