/- The law DigraphDepths of package digraph holds for every input: what it is called with is opened, the printed text of the law and its plain proof are joined. (Part 6 of 6 of its proof.) -/
import Derived.Lib.SmallJoins
import Derived.Deep.Slices
import Derived.OpenShut
import Derived.WideKeyArr2
import Derived.Test.YtlldjinejckbaaaRows
import Derived.WalkKit
import Derived.ProofKit
import Derived.ShutString
import Derived.ChangeOld
import Derived.Below
import Derived.SizedLaws
import Derived.Test.YtlldjinejckbaaaZ04
section
namespace Go.Proofs.Ytlldjinejckbaaa.PD
open Go Go.RowKit Go.Proofs.YtlldjinejckbaaaW.PrintWords Go.Proofs.YtlldjinejckbaaaW.PrintLast Go.Proofs.YtlldjinejckbaaaW.PrintMore
open Go.Proofs.Ytlldjinejckbaaa.Pg Go.Proofs.Ytlldjinejckbaaa.Pe
theorem ex_order1 : wireloomlaw05_order.f 4 g1 = some ([1, 2, 0, 3], 0) := by unfold wireloomlaw05_order.f digraph_Order.f; rw [if_pos (by decide), show (4 : Int).toNat = 4 from rfl, o1]; rfl
theorem ex_order2 : wireloomlaw05_order.f 4 g2 = some ([], 50) := by unfold wireloomlaw05_order.f digraph_Order.f; rw [if_pos (by decide), show (4 : Int).toNat = 4 from rfl, o2]; rfl
theorem ex_order0 : wireloomlaw05_order.f 0 [] = some ([], 0) := by unfold wireloomlaw05_order.f digraph_Order.f; rw [if_pos (by decide), show (0 : Int).toNat = 0 from rfl, o0]; rfl
theorem ex_depth1 : wireloomlaw05_depth.f 4 g1 = some ([1, 0, 0, 2], 0) := by unfold wireloomlaw05_depth.f digraph_Depth.f; rw [if_pos (by decide), show (4 : Int).toNat = 4 from rfl, d1]; rfl
theorem ex_depth2 : wireloomlaw05_depth.f 4 g2 = some ([], 50) := by unfold wireloomlaw05_depth.f digraph_Depth.f; rw [if_pos (by decide), show (4 : Int).toNat = 4 from rfl, d2]; rfl
theorem ex_cycle1 : wireloomlaw05_cycle.f 4 g1 = some ([], 4) := by unfold wireloomlaw05_cycle.f digraph_Cycle.f; rw [if_pos (by decide), show (4 : Int).toNat = 4 from rfl, c1]; rfl
theorem ex_cycle2 : wireloomlaw05_cycle.f 4 g2 = some ([0, 3, 2], 0) := by unfold wireloomlaw05_cycle.f digraph_Cycle.f; rw [if_pos (by decide), show (4 : Int).toNat = 4 from rfl, c2]; rfl
theorem ex_cycle3 : wireloomlaw05_cycle.f 4 g3 = some ([1], 0) := by unfold wireloomlaw05_cycle.f digraph_Cycle.f; rw [if_pos (by decide), show (4 : Int).toNat = 4 from rfl, c3]; rfl
theorem ex_reach1 : digraph_Reach.f 4 g1 2 = some [0, 2, 3] := by unfold digraph_Reach.f; rw [if_pos (by decide), show (4 : Int).toNat = 4 from rfl, r1]
theorem ex_reach2 : digraph_Reach.f 4 g1 4 = some [] := by unfold digraph_Reach.f; rw [if_pos (by decide), show (4 : Int).toNat = 4 from rfl, r2]
theorem ex_comps : digraph_Components.f 4 g2 = some [[0, 2, 3], [1]] := by unfold digraph_Components.f; rw [if_pos (by decide), show (4 : Int).toNat = 4 from rfl, k1]
theorem ex_check1 : digraph_Check.f 4 g1 [2, 0, 1, 3] = some 0 := by unfold digraph_Check.f; rw [if_pos (by decide), show (4 : Int).toNat = 4 from rfl, ch1]
theorem ex_check2 : digraph_Check.f 4 g1 [0, 1, 2, 3] = some 6 := by unfold digraph_Check.f; rw [if_pos (by decide), show (4 : Int).toNat = 4 from rfl, ch2]
theorem ex_with1 : wireloomref05_With.f 4 g1 3 2 = some (4, g2) := by kernel_rfl
theorem ex_with2 : wireloomref05_With.f 4 g1 1 1 = some (4, g3) := by kernel_rfl
theorem ex_valid1 : digraph_Valid.f 20 4 g1 = some true := by kernel_rfl
theorem ex_valid2 : digraph_Valid.f 20 3 g1 = some false := by kernel_rfl
theorem examples_at : wireloomlaw05_examples.f 22 = some true := by
  unfold wireloomlaw05_examples.f
  simp only [Option.bind_some]
  rw [ex_with1, Option.bind_some, ex_with2, Option.bind_some, ex_order1, Option.bind_some]
  rw [show wireloomref05_Alike.f 22 [1, 2, 0, 3] 0 [1, 2, 0, 3] 0 = some true from by kernel_rfl, Option.bind_some, if_pos rfl, ex_depth1, Option.bind_some]
  rw [show wireloomref05_Alike.f 22 [1, 0, 0, 2] 0 [1, 0, 0, 2] 0 = some true from by kernel_rfl, Option.bind_some, if_pos rfl, ex_reach1, Option.bind_some]
  rw [show wireloomref05_Same.f 22 [0, 2, 3] [0, 2, 3] = some true from by kernel_rfl, Option.bind_some, if_pos rfl, ex_cycle1, Option.bind_some]
  show wireloomlaw05_examples.j0 (21 + 1) false 4 g1 4 g2 4 g3 = some true
  simp only [wireloomlaw05_examples.j0]
  rw [if_neg (by decide), ex_order2, Option.bind_some, if_pos rfl, ex_depth2, Option.bind_some, if_pos rfl, ex_cycle2, Option.bind_some]
  rw [show wireloomref05_Alike.f 21 [0, 3, 2] 0 [0, 3, 2] 0 = some true from by kernel_rfl, Option.bind_some, if_pos rfl, ex_cycle3, Option.bind_some]
  rw [show wireloomref05_Alike.f 21 [1] 0 [1] 0 = some true from by kernel_rfl, Option.bind_some, if_pos rfl, ex_comps, Option.bind_some]
  rw [show wireloomref05_SameLists.f 21 [[0, 2, 3], [1]] [[0, 2, 3], [1]] = some true from by kernel_rfl, Option.bind_some]
  show wireloomlaw05_examples.j1 (20 + 1) false 4 g1 = some true
  simp only [wireloomlaw05_examples.j1]
  rw [if_neg (by decide), ex_valid1, Option.bind_some, if_pos rfl, ex_valid2, Option.bind_some, if_neg (by decide), ex_check1, Option.bind_some, if_pos rfl, ex_check2, Option.bind_some, if_pos rfl, ex_order0, Option.bind_some, if_pos rfl, ex_reach2, Option.bind_some]
  rfl
theorem examples_ev : Ev (fun k => wireloomlaw05_examples.f k) true := Ev.of wireloomlaw05_examples.mono examples_at
theorem wrap_ok {x : Int} (h0 : -1000000 ≤ x) (h1 : x ≤ 1000000) : wrap64 x = x := by unfold wrap64; omega
theorem rd_bound {B : List Int} (hB : ∀ x ∈ B, 0 ≤ x ∧ x ≤ 255) {i : Int} (h0 : 0 ≤ i) (h1 : i < (B.length : Int)) : 0 ≤ rd B i ∧ rd B i ≤ 255 := by
  apply hB
  unfold rd
  rw [List.getD_eq_getElem?_getD, List.getElem?_eq_getElem (by omega)]
  exact List.getElem_mem _
theorem ok_add {n : Nat} {l : List S55} (h : Ok n l) {u v : Int} (h0 : 0 ≤ u) (h1 : u < n) (h2 : 0 ≤ v) (h3 : v < n) : Ok n (l ++ [⟨u, v⟩]) := fun e he => by
  rcases List.mem_append.1 he with he | he
  · exact h e he
  · rw [List.mem_singleton] at he; subst he; exact ⟨h0, h1, h2, h3⟩
theorem made_loop {n : Nat} (hn : n ≤ 12) (a b : Int) (hb0 : 0 ≤ b) {B : List Int} (hB : ∀ x ∈ B, 0 ≤ x ∧ x ≤ 255) : ∀ (d j : Nat) (l : List S55), j + d = 30 → l.length ≤ j → Ok n l →
    ∃ lf, Ev (fun k => wireloomref05_Made.l0 k n (2 * (j : Int)) a b B n l) ((n : Int), lf) ∧ Ok n lf ∧ lf.length ≤ 30 := by
  intro d
  induction d with
  | zero =>
    intro j l hj hl hok
    refine ⟨l, ?_, hok, by omega⟩
    obtain rfl : j = 30 := by omega
    have hend : Ev (fun k => wireloomref05_Made.j1 k n (2 * ((30 : Nat) : Int)) false a b B n l) ((n : Int), l) := Ev.step (f := fun _ => some ((n : Int), l)) (fun k => by simp only [wireloomref05_Made.j1]; rw [if_neg (by decide)]) (Ev.now _)
    refine Ev.step (f := fun k => wireloomref05_Made.j1 k n (2 * ((30 : Nat) : Int)) false a b B n l) (fun k => ?_) hend
    simp only [wireloomref05_Made.l0]
    split
    · rw [if_neg (by omega)]
    · rfl
  | succ d ih =>
    intro j l hj hl hok
    have hi : (0 : Int) ≤ 2 * (j : Int) ∧ 2 * (j : Int) ≤ 58 := by omega
    have w1 : wrap64 (2 * (j : Int) + 1) = 2 * (j : Int) + 1 := wrap_ok (by omega) (by omega)
    have w2 : wrap64 (2 * (j : Int) + 2) = 2 * ((j + 1 : Nat) : Int) := by rw [wrap_ok (by omega) (by omega)]; omega
    have hend : Ev (fun k => wireloomref05_Made.j1 k n (2 * (j : Int)) false a b B n l) ((n : Int), l) := Ev.step (f := fun _ => some ((n : Int), l)) (fun k => by simp only [wireloomref05_Made.j1]; rw [if_neg (by decide)]) (Ev.now _)
    by_cases hc : 2 * (j : Int) + 1 < (B.length : Int) ∧ 0 < n
    · obtain ⟨hc1, hc2⟩ := hc
      obtain ⟨r0, r1⟩ := rd_bound hB (i := 2 * (j : Int)) (by omega) (by omega)
      obtain ⟨s0, s1⟩ := rd_bound hB (i := 2 * (j : Int) + 1) (by omega) (by omega)
      have wr : wrap64 (rd B (2 * (j : Int))) = rd B (2 * (j : Int)) := wrap_ok (by omega) (by omega)
      have ws : wrap64 (rd B (2 * (j : Int) + 1)) = rd B (2 * (j : Int) + 1) := wrap_ok (by omega) (by omega)
      obtain ⟨v, hv⟩ : ∃ v, v = Int.tmod (rd B (2 * (j : Int))) n := ⟨_, rfl⟩
      obtain ⟨u, hu⟩ : ∃ u, u = Int.tmod (rd B (2 * (j : Int) + 1)) n := ⟨_, rfl⟩
      have v0 : 0 ≤ v := by rw [hv]; exact Int.tmod_nonneg _ r0
      have v1 : v < n := by rw [hv]; exact Int.tmod_lt_of_pos _ (by omega)
      have u0 : 0 ≤ u := by rw [hu]; exact Int.tmod_nonneg _ s0
      have u1 : u < n := by rw [hu]; exact Int.tmod_lt_of_pos _ (by omega)
      have hlt : l.length < 8796093022208 := by omega
      have next : ∀ l', l'.length ≤ j + 1 → Ok n l' → ∃ lf, Ev (fun k => wireloomref05_Made.l0 k n (wrap64 (2 * (j : Int) + 2)) a b B n l') ((n : Int), lf) ∧ Ok n lf ∧ lf.length ≤ 30 := fun l' h1 h2 => by
        rw [w2]; exact ih (j + 1) l' (by omega) h1 h2
      have swapped : ∀ x y : Int, 0 ≤ x → x < n → 0 ≤ y → y < n → ∃ lf, Ev (fun k => wireloomref05_Made.j2 k n (2 * (j : Int)) x y a b B n l) ((n : Int), lf) ∧ Ok n lf ∧ lf.length ≤ 30 := fun x y x0 x1 y0 y1 => by
        by_cases h4 : Int.tmod b 4 = 2
        · by_cases h5 : Int.tmod (n : Int) 5 = 0
          · obtain ⟨lf, e, o, q⟩ := next l (by omega) hok
            refine ⟨lf, Ev.step (fun k => ?_) e, o, q⟩
            simp only [wireloomref05_Made.j2]
            rw [if_pos h4, if_neg (by omega), if_pos h5]
          · have wx : wrap64 (wrap64 (5 * x) + 3) = 5 * x + 3 := by rw [wrap_ok (x := 5 * x) (by omega) (by omega), wrap_ok (by omega) (by omega)]
            have wy : wrap64 (wrap64 (5 * y) + 3) = 5 * y + 3 := by rw [wrap_ok (x := 5 * y) (by omega) (by omega), wrap_ok (by omega) (by omega)]
            obtain ⟨lf, e, o, q⟩ := next (l ++ [⟨Int.tmod (5 * x + 3) n, Int.tmod (5 * y + 3) n⟩]) (by simp; omega) (ok_add hok (Int.tmod_nonneg _ (by omega)) (Int.tmod_lt_of_pos _ (by omega)) (Int.tmod_nonneg _ (by omega)) (Int.tmod_lt_of_pos _ (by omega)))
            refine ⟨lf, Ev.step (fun k => ?_) e, o, q⟩
            simp only [wireloomref05_Made.j2]
            rw [if_pos h4, if_neg (by omega), if_neg h5, if_pos hlt, wx, wy]
        · obtain ⟨lf, e, o, q⟩ := next (l ++ [⟨x, y⟩]) (by simp; omega) (ok_add hok x0 x1 y0 y1)
          refine ⟨lf, Ev.step (fun k => ?_) e, o, q⟩
          simp only [wireloomref05_Made.j2]
          rw [if_neg h4]
          split <;> first | rfl | rw [if_pos hlt]
      have body : ∃ lf, Ev (fun k => wireloomref05_Made.j1 k n (2 * (j : Int)) true a b B n l) ((n : Int), lf) ∧ Ok n lf ∧ lf.length ≤ 30 := by
        have e0 : ∀ k, wireloomref05_Made.j1 (k + 1) n (2 * (j : Int)) true a b B n l = (if (Int.tmod b 2) = 0 then (if v = u then (wireloomref05_Made.l0 k n (wrap64 (2 * (j : Int) + 2)) a b B n l) else (if v > u then (wireloomref05_Made.j2 k n (2 * (j : Int)) u v a b B n l) else (wireloomref05_Made.j2 k n (2 * (j : Int)) v u a b B n l))) else (wireloomref05_Made.l0 k n (wrap64 (2 * (j : Int) + 2)) a b B n (l ++ [⟨v, u⟩]))) := fun k => by
          simp only [wireloomref05_Made.j1]
          rw [if_pos (by first | rfl | trivial), if_pos (by omega), if_pos (by omega), if_neg (by omega), w1, if_pos (by omega), if_pos (by omega), if_pos hlt, wr, ws, ← hv, ← hu]
        by_cases h2 : Int.tmod b 2 = 0
        · by_cases hvu : v = u
          · obtain ⟨lf, e, o, q⟩ := next l (by omega) hok
            exact ⟨lf, Ev.step (fun k => by rw [e0, if_pos h2, if_pos hvu]) e, o, q⟩
          · by_cases hgt : v > u
            · obtain ⟨lf, e, o, q⟩ := swapped u v u0 u1 v0 v1
              exact ⟨lf, Ev.step (fun k => by rw [e0, if_pos h2, if_neg hvu, if_pos hgt]) e, o, q⟩
            · obtain ⟨lf, e, o, q⟩ := swapped v u v0 v1 u0 u1
              exact ⟨lf, Ev.step (fun k => by rw [e0, if_pos h2, if_neg hvu, if_neg hgt]) e, o, q⟩
        · obtain ⟨lf, e, o, q⟩ := next (l ++ [⟨v, u⟩]) (by simp; omega) (ok_add hok v0 v1 u0 u1)
          exact ⟨lf, Ev.step (fun k => by rw [e0, if_neg h2]) e, o, q⟩
      obtain ⟨lf, e, o, q⟩ := body
      refine ⟨lf, Ev.step (fun k => ?_) e, o, q⟩
      simp only [wireloomref05_Made.l0]
      rw [w1, if_pos hc1, if_pos (by omega), decide_eq_true (by omega)]
    · refine ⟨l, Ev.step (fun k => ?_) hend, hok, by omega⟩
      simp only [wireloomref05_Made.l0]
      rw [w1]
      by_cases h1 : 2 * (j : Int) + 1 < (B.length : Int)
      · rw [if_pos h1, if_pos (by omega), decide_eq_false (by omega)]
      · rw [if_neg h1]
theorem made_spec (a b : Int) (ha : 0 ≤ a) (hb : 0 ≤ b) {B : List Int} (hB : ∀ x ∈ B, 0 ≤ x ∧ x ≤ 255) : ∃ (n : Nat) (l : List S55), Ev (fun k => wireloomref05_Made.f k a b B) ((n : Int), l) ∧ n ≤ 12 ∧ Ok n l ∧ l.length ≤ 30 := by
  obtain ⟨n, hn⟩ : ∃ n : Nat, Int.tmod a 13 = n := ⟨(Int.tmod a 13).toNat, by have := Int.tmod_nonneg 13 ha; omega⟩
  have hn2 : n ≤ 12 := by have := Int.tmod_lt_of_pos a (b := 13) (by omega); omega
  have w : wrap64 (Int.tmod a 13) = n := by rw [hn]; exact wrap_ok (by omega) (by omega)
  obtain ⟨lf, e, o, q⟩ := made_loop hn2 a b hb hB 30 0 [] (by omega) (by simp) (fun e he => by simp at he)
  refine ⟨n, lf, Ev.congr (fun k => ?_) e, hn2, o, q⟩
  unfold wireloomref05_Made.f
  rw [w]
  rfl
end Go.Proofs.Ytlldjinejckbaaa.PD

end
section
namespace Go.Proofs.Ytlldjinejckbaaa.Pc
open Go Go.RowKit Go.Proofs.YtlldjinejckbaaaW.PrintWords Go.Proofs.Ytlldjinejckbaaa.Mod Go.Proofs.Ytlldjinejckbaaa.PD Go.Proofs.Ytlldjinejckbaaa.Pg Go.Proofs.Ytlldjinejckbaaa.Po Go.Proofs.Ytlldjinejckbaaa.Ck
theorem checkGo_some {n : Nat} : ∀ (vs : List Int) (i : Int) (a : List Int), a.length = n → 0 ≤ i → i + vs.length ≤ 1000000 → vs.Nodup → (∀ v ∈ vs, 0 ≤ v ∧ v < (n : Int) ∧ rd a v = 0) →
    ∃ a', checkGo n vs i a = some a' ∧ (∀ j : Nat, j < vs.length → rd a' (rd vs (j : Int)) = i + j + 1) ∧ (∀ y : Int, 0 ≤ y → y ∉ vs → rd a' y = rd a y)
  | [], i, a, _, _, _, _, _ => ⟨a, rfl, fun j hj => absurd hj (Nat.not_lt_zero j), fun y _ _ => rfl⟩
  | v :: vs, i, a, hl, hi, hb, hn, hv => by
    obtain ⟨v0, v1, v2⟩ := hv v (by simp)
    rw [List.nodup_cons] at hn
    simp only [List.length_cons] at hb
    have hw : wrap64 (i + 1) = i + 1 := Po.wrap_small (by omega) (by omega)
    obtain ⟨a', h1, h2, h3⟩ := checkGo_some (n := n) vs (i + 1) (a.set v.toNat (i + 1)) (by rw [List.length_set]; exact hl) (by omega) (by omega) hn.2 (fun u hu => by
      obtain ⟨u0, u1, u2⟩ := hv u (by simp [hu])
      exact ⟨u0, u1, by rw [rd_set_other _ _ _ _ u0 v0 (fun e => hn.1 (by rw [← e]; exact hu))]; exact u2⟩)
    refine ⟨a', ?_, fun j hj => ?_, fun y hy hm => ?_⟩
    · unfold checkGo
      rw [if_neg (by omega), hw]
      exact h1
    · cases j with
      | zero =>
        show rd a' (rd (v :: vs) 0) = _
        rw [show rd (v :: vs) 0 = v from rfl, h3 v v0 hn.1, rd_set_same _ _ _ v0 (by omega)]
        simp
      | succ j =>
        have hj' : j < vs.length := by simpa using hj
        have e : rd (v :: vs) ((j + 1 : Nat) : Int) = rd vs (j : Int) := by rw [rd_get hj, rd_get hj']; rfl
        rw [e, h2 j hj']
        omega
    · rw [h3 y hy (fun h => hm (by simp [h])), rd_set_other _ _ _ _ hy v0 (fun e => hm (by simp [e]))]
theorem rd_zeros (n : Nat) (x : Int) : rd (List.replicate n 0) x = 0 := by
  unfold rd
  rw [List.getD_eq_getElem?_getD, List.getElem?_replicate]
  split <;> rfl
theorem check_spec {n : Nat} (hn : n ≤ 1000) {l : List S55} {s : List Int} (hl : Ok n l) (hs : s.Nodup) (hr : ∀ v ∈ s, 0 ≤ v ∧ v < (n : Int)) (hlen : s.length = n) :
    ∃ a, checkGo n s 0 (List.replicate n 0) = some a ∧ (∀ j : Nat, j < s.length → rd a (rd s (j : Int)) = (j : Int) + 1) ∧ (checkOf n l s = 0 ↔ ∀ i j : Nat, i < n → j < n → E l (rd s (i : Int)) (rd s (j : Int)) → i < j) := by
  obtain ⟨a, h1, h2, _⟩ := checkGo_some (n := n) s 0 (List.replicate n 0) (by simp) (by omega) (by omega) hs (fun v hv => ⟨(hr v hv).1, (hr v hv).2, rd_zeros n v⟩)
  have h2 : ∀ j : Nat, j < s.length → rd a (rd s (j : Int)) = (j : Int) + 1 := fun j hj => by rw [h2 j hj]; omega
  refine ⟨a, h1, h2, ?_⟩
  unfold checkOf
  rw [h1]
  simp only
  rw [if_neg (by omega)]
  have hall := nodup_all hs hr hlen
  have hidx : ∀ v : Int, 0 ≤ v → v < n → ∃ j : Nat, j < n ∧ rd s (j : Int) = v := fun v h0 h1 => by
    obtain ⟨j, hj, e⟩ := List.mem_iff_getElem.1 (hall v h0 h1)
    exact ⟨j, by omega, by rw [rd_get hj]; exact e⟩
  constructor
  · intro h i j hi hj he
    split at h
    · omega
    · rename_i hany
      obtain ⟨e, hem, e1, e2⟩ := he
      have : ¬ (rd a e.f1 ≤ rd a e.f0) := fun hle => hany (List.any_eq_true.2 ⟨e, hem, by simpa using hle⟩)
      rw [e1, e2, h2 i (by omega), h2 j (by omega)] at this
      omega
  · intro h
    rw [if_neg]
    intro hany
    obtain ⟨e, hem, hle⟩ := List.any_eq_true.1 hany
    have hle : rd a e.f1 ≤ rd a e.f0 := by simpa using hle
    obtain ⟨o1, o2, o3, o4⟩ := hl e hem
    obtain ⟨i, hi, ei⟩ := hidx e.f0 o1 o2
    obtain ⟨j, hj, ej⟩ := hidx e.f1 o3 o4
    have := h i j hi hj (by rw [ei, ej]; exact ⟨e, hem, rfl, rfl⟩)
    rw [← ei, ← ej, h2 i (by omega), h2 j (by omega)] at hle
    omega
end Go.Proofs.Ytlldjinejckbaaa.Pc

end
section
namespace Go.Proofs.Ytlldjinejckbaaa.PD
open Go Go.RowKit Go.Proofs.YtlldjinejckbaaaW.PrintWords Go.Proofs.YtlldjinejckbaaaW.PrintLast Go.Proofs.YtlldjinejckbaaaW.PrintMore
open Go.Proofs.Ytlldjinejckbaaa.Pg Go.Proofs.Ytlldjinejckbaaa.Pe Go.Proofs.Ytlldjinejckbaaa.Po Go.Proofs.Ytlldjinejckbaaa.Pd Go.Proofs.Ytlldjinejckbaaa.Pc
theorem wrap_okD {x : Int} (h0 : -1000000 ≤ x) (h1 : x ≤ 1000000) : wrap64 x = x := by unfold wrap64; omega
theorem ok_cond {n : Nat} (hn : n ≤ 12) {l : List S55} (hl : Ok n l) (hlen : l.length ≤ 1000) : 0 ≤ (n : Int) ∧ (n : Int) ≤ 1000 ∧ l.length ≤ 10000 ∧ ∀ e ∈ l, 0 ≤ e.f0 ∧ e.f0 < (n : Int) ∧ 0 ≤ e.f1 ∧ e.f1 < (n : Int) := ⟨by omega, by omega, by omega, hl⟩
theorem order_at {n : Nat} (hn : n ≤ 12) {l : List S55} (hl : Ok n l) (hlen : l.length ≤ 1000) : wireloomlaw05_order.f n l = Od.orderOf n l := by
  unfold wireloomlaw05_order.f digraph_Order.f
  rw [if_pos (ok_cond hn hl hlen), Int.toNat_natCast]
  cases Od.orderOf n l <;> rfl
theorem depth_at {n : Nat} (hn : n ≤ 12) {l : List S55} (hl : Ok n l) (hlen : l.length ≤ 1000) : wireloomlaw05_depth.f n l = Dp.depthOf n l := by
  unfold wireloomlaw05_depth.f digraph_Depth.f
  rw [if_pos (ok_cond hn hl hlen), Int.toNat_natCast]
  cases Dp.depthOf n l <;> rfl
def nodesFrom (D : List Int) (n : Nat) (K V : Nat) : List Int := ((List.range' V (n - V)).map (fun i : Nat => (i : Int))).filter (fun v => decide (rd D v = (K : Int)))
def levels (D : List Int) (n : Nat) : Nat → List Int
  | 0 => []
  | K + 1 => levels D n K ++ nodesFrom D n K 0
theorem nodesFrom_len (D : List Int) (n K V : Nat) : (nodesFrom D n K V).length ≤ n - V := by
  unfold nodesFrom
  exact Nat.le_trans (List.length_filter_le _ _) (by simp)
theorem mem_nodes (D : List Int) (n K : Nat) (v : Int) : v ∈ nodesFrom D n K 0 ↔ 0 ≤ v ∧ v < (n : Int) ∧ rd D v = (K : Int) := by
  unfold nodesFrom
  rw [List.mem_filter, List.mem_map]
  constructor
  · rintro ⟨⟨i, hi, rfl⟩, h⟩
    rw [List.mem_range'_1] at hi
    exact ⟨by omega, by omega, by simpa using h⟩
  · rintro ⟨h0, h1, h⟩
    refine ⟨⟨v.toNat, by rw [List.mem_range'_1]; omega, by omega⟩, by simpa using h⟩
theorem nodes_nodup (D : List Int) (n K : Nat) : (nodesFrom D n K 0).Nodup := by
  unfold nodesFrom
  refine List.Pairwise.filter _ ?_
  rw [List.pairwise_map]
  exact (List.nodup_iff_pairwise_ne.1 (List.nodup_range' (s := 0))).imp (fun h e => h (by omega))
theorem mem_levels (D : List Int) (n : Nat) (v : Int) : ∀ K, v ∈ levels D n K ↔ 0 ≤ v ∧ v < (n : Int) ∧ 0 ≤ rd D v ∧ rd D v < (K : Int)
  | 0 => by
    constructor
    · intro h; simp [levels] at h
    · rintro ⟨_, _, h, h'⟩; omega
  | K + 1 => by
    unfold levels
    rw [List.mem_append, mem_levels D n v K, mem_nodes]
    constructor
    · rintro (⟨a, b, c, d⟩ | ⟨a, b, c⟩)
      · exact ⟨a, b, c, by omega⟩
      · exact ⟨a, b, by omega, by omega⟩
    · rintro ⟨a, b, c, d⟩
      by_cases h : rd D v < (K : Int)
      · exact .inl ⟨a, b, c, h⟩
      · exact .inr ⟨a, b, by omega⟩
theorem levels_spec (D : List Int) (n : Nat) : ∀ K, (levels D n K).Nodup ∧ (levels D n K).Pairwise (fun x y => rd D x ≤ rd D y) ∧ (levels D n K).length ≤ n * K
  | 0 => ⟨List.nodup_nil, List.Pairwise.nil, by simp [levels]⟩
  | K + 1 => by
    obtain ⟨h1, h2, h3⟩ := levels_spec D n K
    unfold levels
    refine ⟨?_, ?_, ?_⟩
    · rw [List.nodup_append]
      refine ⟨h1, nodes_nodup D n K, fun a ha b hb e => ?_⟩
      subst e
      have := (mem_levels D n a K).1 ha
      have := (mem_nodes D n K a).1 hb
      omega
    · rw [List.pairwise_append]
      refine ⟨h2, ?_, fun a ha b hb => ?_⟩
      · exact List.Pairwise.imp_of_mem (fun {a b} ha hb _ => by have := (mem_nodes D n K a).1 ha; have := (mem_nodes D n K b).1 hb; omega) (List.nodup_iff_pairwise_ne.1 (nodes_nodup D n K))
      · have := (mem_levels D n a K).1 ha
        have := (mem_nodes D n K b).1 hb
        omega
    · rw [List.length_append, Nat.mul_succ]
      have := nodesFrom_len D n K 0
      omega
def most (D : List Int) (v : Int) (l : List S55) (m : Int) : Int := l.foldl (fun m e => if e.f1 = v then mx m (rd D e.f0 + 1) else m) m
theorem most_spec (D : List Int) (v : Int) : ∀ (l : List S55) (m : Int), m ≤ most D v l m ∧ (∀ e ∈ l, e.f1 = v → rd D e.f0 + 1 ≤ most D v l m) ∧ (most D v l m = m ∨ ∃ e ∈ l, e.f1 = v ∧ most D v l m = rd D e.f0 + 1)
  | [], m => ⟨Int.le_refl _, fun e he => by simp at he, .inl rfl⟩
  | e :: l, m => by
    have hunf : most D v (e :: l) m = most D v l (if e.f1 = v then mx m (rd D e.f0 + 1) else m) := rfl
    obtain ⟨h1, h2, h3⟩ := most_spec D v l (if e.f1 = v then mx m (rd D e.f0 + 1) else m)
    rw [hunf]
    by_cases he : e.f1 = v
    · rw [if_pos he] at h1 h2 h3 ⊢
      have hm : mx m (rd D e.f0 + 1) = max m (rd D e.f0 + 1) := by unfold mx; omega
      rw [hm] at h1 h2 h3 ⊢
      refine ⟨by omega, fun x hx hxv => ?_, ?_⟩
      · rcases List.mem_cons.1 hx with hx | hx
        · subst hx; omega
        · exact h2 x hx hxv
      · rcases h3 with h3 | ⟨x, hx, hxv, h3⟩
        · rw [h3]
          by_cases hc : m ≤ rd D e.f0 + 1
          · exact .inr ⟨e, by simp, he, by omega⟩
          · exact .inl (by omega)
        · exact .inr ⟨x, by simp [hx], hxv, h3⟩
    · rw [if_neg he] at h1 h2 h3 ⊢
      refine ⟨h1, fun x hx hxv => ?_, ?_⟩
      · rcases List.mem_cons.1 hx with hx | hx
        · subst hx; exact absurd hxv he
        · exact h2 x hx hxv
      · rcases h3 with h3 | ⟨x, hx, hxv, h3⟩
        · exact .inl h3
        · exact .inr ⟨x, by simp [hx], hxv, h3⟩
theorem rdT_get {l : List S55} {i : Nat} (h : i < l.length) : rd_T55 l (i : Int) = l[i] := by
  unfold rd_T55
  rw [Int.toNat_natCast, List.getD_eq_getElem?_getD, List.getElem?_eq_getElem h]
  rfl
theorem dep_l1 {n : Nat} {l : List S55} {D : List Int} (hn : n ≤ 12) (hD : D.length = n) (x3 : Bool) (K : Nat) (hK : K ≤ 12) : ∀ (d V : Nat) (x6 : List Int), V + d = n → x6.length ≤ 12 * K + V → (Ev (fun k => wireloomlaw05_DigraphDepths.l0 k x3 (x6 ++ nodesFrom D n K V) ((K : Int) + 1) n l D 0) true) →
    Ev (fun k => wireloomlaw05_DigraphDepths.l1 k x3 x6 K V n l D 0) true := by
  intro d
  induction d with
  | zero =>
    intro V x6 hV hx h
    obtain rfl : V = n := by omega
    have e : nodesFrom D V K V = [] := by unfold nodesFrom; simp
    rw [e, List.append_nil] at h
    refine Ev.step (fun k => ?_) h
    simp only [wireloomlaw05_DigraphDepths.l1]
    rw [if_neg (by omega), wrap_okD (by omega) (by omega)]
  | succ d ih =>
    intro V x6 hV hx h
    have e : nodesFrom D n K V = (if rd D (V : Int) = (K : Int) then [(V : Int)] else []) ++ nodesFrom D n K (V + 1) := by
      unfold nodesFrom
      rw [show n - V = (n - (V + 1)) + 1 from by omega, List.range'_succ, List.map_cons, List.filter_cons]
      by_cases hk : rd D (V : Int) = (K : Int) <;> simp [hk]
    have hw : wrap64 ((V : Int) + 1) = ((V + 1 : Nat) : Int) := by rw [wrap_okD (by omega) (by omega)]; omega
    rw [e, ← List.append_assoc] at h
    by_cases hk : rd D (V : Int) = (K : Int)
    · rw [if_pos hk] at h
      refine Ev.step (fun k => ?_) (ih (V + 1) (x6 ++ [(V : Int)]) (by omega) (by simp; omega) h)
      simp only [wireloomlaw05_DigraphDepths.l1]
      rw [if_pos (by omega), if_pos (by omega), if_pos (by omega), if_pos hk, if_pos (by omega), hw]
    · rw [if_neg hk, List.append_nil] at h
      refine Ev.step (fun k => ?_) (ih (V + 1) x6 (by omega) (by omega) h)
      simp only [wireloomlaw05_DigraphDepths.l1]
      rw [if_pos (by omega), if_pos (by omega), if_pos (by omega), if_neg hk, hw]
theorem dep_l0 {n : Nat} {l : List S55} {D : List Int} (hn : n ≤ 12) (hD : D.length = n) (x3 : Bool) (h : Ev (fun k => wireloomlaw05_DigraphDepths.l2 k x3 (levels D n n) 0 n l D 0) true) : ∀ (d K : Nat), K + d = n → Ev (fun k => wireloomlaw05_DigraphDepths.l0 k x3 (levels D n K) K n l D 0) true := by
  intro d
  induction d with
  | zero =>
    intro K hK
    obtain rfl : K = n := by omega
    refine Ev.step (fun k => ?_) h
    simp only [wireloomlaw05_DigraphDepths.l0]
    rw [if_neg (by omega)]
  | succ d ih =>
    intro K hK
    have h1 := ih (K + 1) (by omega)
    have hl := (levels_spec D n K).2.2
    have h2 : (levels D n K).length ≤ 12 * K := Nat.le_trans hl (Nat.mul_le_mul_right K hn)
    refine Ev.step (fun k => ?_) (dep_l1 hn hD x3 K (by omega) n 0 (levels D n K) (by omega) (by omega) (by
      have e : ((K : Int) + 1) = ((K + 1 : Nat) : Int) := by omega
      rw [e]
      exact h1))
    simp only [wireloomlaw05_DigraphDepths.l0]
    rw [if_pos (by omega)]
    rfl
theorem dep_l3 {n : Nat} {l : List S55} {D : List Int} (hn : n ≤ 12) (hl : Ok n l) (hlen : l.length ≤ 30) (hD : D.length = n) (hb : ∀ v : Int, 0 ≤ v → v < n → 0 ≤ rd D v ∧ rd D v < (n : Int)) (x3 : Bool) (S : List Int) (v : Nat) (hv : v < n) (h : Ev (fun k => wireloomlaw05_DigraphDepths.l2 k x3 S ((v + 1 : Nat) : Int) n l D 0) true) : ∀ (d i : Nat) (m : Int), i + d = l.length → 0 ≤ m → m ≤ 100 → most D v (l.drop i) m = rd D (v : Int) →
    Ev (fun k => wireloomlaw05_DigraphDepths.l3 k x3 S v m i n l D 0) true := by
  intro d
  induction d with
  | zero =>
    intro i m hi hm0 hm1 hm
    obtain rfl : i = l.length := by omega
    rw [List.drop_length] at hm
    have hm : m = rd D (v : Int) := hm
    refine Ev.step (fun k => ?_) h
    simp only [wireloomlaw05_DigraphDepths.l3]
    rw [if_neg (by omega), if_pos (by omega), if_pos (by omega), if_pos hm.symm, wrap_okD (by omega) (by omega)]
    rfl
  | succ d ih =>
    intro i m hi hm0 hm1 hm
    have hil : i < l.length := by omega
    have e : l.drop i = l[i] :: l.drop (i + 1) := List.drop_eq_getElem_cons hil
    rw [e] at hm
    have hm : most D v (l.drop (i + 1)) (if l[i].f1 = (v : Int) then mx m (rd D l[i].f0 + 1) else m) = rd D (v : Int) := hm
    obtain ⟨o1, o2, o3, o4⟩ := hl l[i] (List.getElem_mem hil)
    have hw : wrap64 ((i : Int) + 1) = ((i + 1 : Nat) : Int) := by rw [wrap_okD (by omega) (by omega)]; omega
    obtain ⟨b0, b1⟩ := hb l[i].f0 o1 o2
    by_cases he : l[i].f1 = (v : Int)
    · rw [if_pos he] at hm
      obtain ⟨hx0, hx1⟩ : 0 ≤ mx m (rd D l[i].f0 + 1) ∧ mx m (rd D l[i].f0 + 1) ≤ 100 := by unfold mx; omega
      refine Ev.step (fun k => ?_) (ih (i + 1) (mx m (rd D l[i].f0 + 1)) (by omega) hx0 hx1 hm)
      clear hx0 hx1 hm
      simp only [wireloomlaw05_DigraphDepths.l3]
      rw [if_pos (Int.ofNat_lt.2 hil), if_pos (Int.natCast_nonneg i), rdT_get hil, if_pos he, if_pos o1, if_pos (by rw [hD]; exact o2), hw, wrap_okD (x := rd D l[i].f0 + 1) (by omega) (by omega)]
    · rw [if_neg he] at hm
      refine Ev.step (fun k => ?_) (ih (i + 1) m (by omega) hm0 hm1 hm)
      simp only [wireloomlaw05_DigraphDepths.l3]
      rw [if_pos (Int.ofNat_lt.2 hil), if_pos (Int.natCast_nonneg i), rdT_get hil, if_neg he, hw]
theorem dep_l2 {n : Nat} {l : List S55} {D : List Int} (hn : n ≤ 12) (hl : Ok n l) (hlen : l.length ≤ 30) (hD : D.length = n) (hb : ∀ v : Int, 0 ≤ v → v < n → 0 ≤ rd D v ∧ rd D v < (n : Int)) (S : List Int) (hm : ∀ v : Nat, v < n → most D v l 0 = rd D (v : Int)) (hc : digraph_Check.f n l S = some 0) : ∀ (d v : Nat), v + d = n → Ev (fun k => wireloomlaw05_DigraphDepths.l2 k true S v n l D 0) true := by
  intro d
  induction d with
  | zero =>
    intro v hv
    obtain rfl : v = n := by omega
    refine Ev.step (f := fun _ => some true) (fun k => ?_) (Ev.now _)
    simp only [wireloomlaw05_DigraphDepths.l2]
    rw [if_neg (by omega), hc, Option.bind_some, if_pos rfl]
  | succ d ih =>
    intro v hv
    refine Ev.step (fun k => ?_) (dep_l3 hn hl hlen hD hb true S v (by omega) (ih (v + 1) (by omega)) l.length 0 0 (by omega) (by omega) (by omega) (hm v (by omega)))
    simp only [wireloomlaw05_DigraphDepths.l2]
    rw [if_pos (by omega)]
    rfl
theorem depths_pure (a b : Int) (ha : 0 ≤ a) (hb : 0 ≤ b) (B : List Int) (hB : ∀ x ∈ B, 0 ≤ x ∧ x ≤ 255) : ∃ k, wireloomlaw05_DigraphDepths.f k a b B = some true := by
  obtain ⟨n, l, hmade, hn, hl, hlen⟩ := made_spec a b ha hb hB
  obtain ⟨o, ho, hg, hav⟩ := order_spec (n := n) (by omega) hl
  refine Ev.rounds (g := fun k => wireloomlaw05_DigraphDepths.f k a b B) ?_
  unfold wireloomlaw05_DigraphDepths.f
  refine Ev.bind examples_ev ?_
  simp only [if_true]
  refine Ev.bind hmade ?_
  simp only [order_at hn hl (by omega), depth_at hn hl (by omega)]
  by_cases hlt : o.length < n
  · rw [if_pos hlt] at ho
    have hd : Dp.depthOf n l = some ([], 50) := by unfold Dp.depthOf; rw [ho]; rfl
    rw [hd, ho]
    simp only [Option.bind_some]
    refine Ev.congr (f := fun k => wireloomlaw05_DigraphDepths.j0 k true false n l [] 50) (fun k => ?_) ?_
    · rw [if_neg (by decide), if_neg (by decide)]; rfl
    · refine Ev.step (f := fun _ => some true) (fun k => ?_) (Ev.now _)
      simp only [wireloomlaw05_DigraphDepths.j0]
      rw [if_neg (by decide), if_neg (by decide)]
  · rw [if_neg hlt] at ho
    obtain ⟨D, hDe⟩ : ∃ D, D = Dp.depthGo (nx n l) o (List.replicate n 0) := ⟨_, rfl⟩
    have hd : Dp.depthOf n l = some (D, 0) := by unfold Dp.depthOf; rw [ho, hDe]; rfl
    have hI := depthGo_spec (by omega) hl hg
    rw [← hDe] at hI
    have hol : o.length = n := by have := hg.len; omega
    have hin : ∀ v : Int, 0 ≤ v → v < n → v ∈ o := nodup_all hg.nodup hg.range hol
    have hbd : ∀ v : Int, 0 ≤ v → v < n → 0 ≤ rd D v ∧ rd D v < (n : Int) := fun v h0 h1 => ⟨(hI.lo v h0 h1).1, by have := hI.inP v (hin v h0 h1); rw [hol] at this; exact this⟩
    have hmost : ∀ v : Nat, v < n → most D v l 0 = rd D (v : Int) := fun v hv => by
      obtain ⟨m1, m2, m3⟩ := most_spec D (v : Int) l 0
      have h0 := (hbd v (by omega) (by omega)).1
      have hle : most D v l 0 ≤ rd D (v : Int) := by
        rcases m3 with m3 | ⟨e, he, hev, m3⟩
        · rw [m3]; exact h0
        · rw [m3]
          have hE : E l e.f0 v := ⟨e, he, rfl, hev⟩
          exact hI.ge e.f0 v (hin _ (hE.ok hl).1 (hE.ok hl).2.1) hE
      have hge : rd D (v : Int) ≤ most D v l 0 := by
        rcases hI.at_ v (by omega) (by omega) with h | ⟨u, _, ⟨e, he, e0, e1⟩, h⟩
        · rw [h]; exact m1
        · rw [h, ← e0]; exact m2 e he e1
      omega
    obtain ⟨s1, s2, _⟩ := levels_spec D n n
    have hS : ∀ v, v ∈ levels D n n ↔ 0 ≤ v ∧ v < (n : Int) := fun v => by
      rw [mem_levels]
      exact ⟨fun h => ⟨h.1, h.2.1⟩, fun h => ⟨h.1, h.2, hbd v h.1 h.2⟩⟩
    have hSl : (levels D n n).length = n := by
      have hp : (levels D n n).Perm o := (List.perm_ext_iff_of_nodup s1 hg.nodup).2 (fun v => by rw [hS]; exact ⟨fun h => hin v h.1 h.2, fun h => hg.range v h⟩)
      rw [hp.length_eq, hol]
    have hchk : digraph_Check.f n l (levels D n n) = some 0 := by
      unfold digraph_Check.f
      rw [if_pos ⟨ok_cond hn hl (by omega), by omega⟩, Int.toNat_natCast]
      obtain ⟨_, _, _, hiff⟩ := check_spec (n := n) (by omega) hl s1 (fun v hv => (hS v).1 hv) hSl
      rw [hiff.2]
      intro i j hi hj he
      refine Classical.byContradiction fun hij => ?_
      have h1 := hI.ge _ _ (hin _ (he.ok hl).1 (he.ok hl).2.1) he
      rcases Nat.lt_or_eq_of_le (Nat.le_of_not_lt hij) with h2 | h2
      · have := List.pairwise_iff_getElem.1 s2 j i (by omega) (by omega) h2
        rw [← rd_get (by omega), ← rd_get (by omega)] at this
        omega
      · subst h2; omega
    rw [hd, ho]
    simp only [Option.bind_some]
    refine Ev.congr (f := fun k => wireloomlaw05_DigraphDepths.j0 k true false n l D 0) (fun k => ?_) ?_
    · rw [if_neg (by decide), if_pos (by trivial)]
    · refine Ev.step (f := fun k => wireloomlaw05_DigraphDepths.l0 k true [] 0 n l D 0) (fun k => ?_) ?_
      · simp only [wireloomlaw05_DigraphDepths.j0]
        rw [if_neg (by decide), if_pos (by trivial), if_pos (by rw [hI.len])]
      · exact dep_l0 hn hI.len true (dep_l2 hn hl hlen hI.len hbd _ hmost hchk n 0 (by omega)) n 0 (by omega)
end Go.Proofs.Ytlldjinejckbaaa.PD

end
section
namespace Go.Proofs.Ytlldjinejckbaaa.Op
open Go Go.RowKit Go.Joins Go.ChangeShapes Go.WideShapes Go.Deep Go.Proofs.YtlldjinejckbaaaW.PrintWords Go.Proofs.Ytlldjinejckbaaa.PD
set_option linter.unusedVariables false
def Opens (P : Program) (t : TypeId) {α : Type} (d : Kd α) (wf : α → Prop) : Prop := ∀ (H : Type) (enc : TypeId × Value → H) (w : World) (spare : Nat → Bool) (held : Bool) (fuel : Nat) (cs : List Value) (x : DataW H × List MemPlace),
  DataW.trod enc P w 0 spare held fuel t cs = some x → ∃ a, d.K w a cs ∧ wf a
section
variable {P : Program} {t e : TypeId}
theorem opens_int {k : IntKind} (ht : P.underlying t = some (.int k)) : Opens P t (Kd.int k) (fun n => (Lit.int k n).wf = true) := fun H enc w spare held fuel cs x h => by
  obtain ⟨n, hc, _, hw⟩ := DataW.trod_int ht h
  exact ⟨n, hc, hw⟩
theorem opens_slice {α : Type} {d : Kd α} {wf : α → Prop} (ht : P.underlying t = some (.slice e)) (hc : P.cellsOf e = d.sz) (h : Opens P e d wf) : Opens P t (Kd.slice e d) (fun xs => ∀ x ∈ xs, wf x) := fun H enc w spare held fuel cs x hx => by
  rcases open_slice ht hx with ⟨rfl, _⟩ | ⟨a, len, cap, m, n, D, Pl, rfl, _, hl, hm, hmm, _, hel⟩
  · exact ⟨[], ⟨none, 0, rfl, Nat.le_refl _, rfl, by simp, fun h => absurd h (by simp)⟩, fun x hx => by simp at hx⟩
  · have hlm : len ≤ m := by rw [hmm]; split <;> omega
    have each : ∀ i, i < len → ∃ q : α, (∃ c, c.length = d.sz ∧ d.K w q c ∧ ∀ j u, c[j]? = some u → w.cell? (a.add (i * d.sz + j)) = some u) ∧ wf q := fun i hi => by
      obtain ⟨cs', h1, h2⟩ := hel i (by omega)
      obtain ⟨q, hq, hw⟩ := h H enc w spare held n cs' _ h2
      obtain ⟨_, hlen, hcell⟩ := World.cells?_some h1
      refine ⟨q, ⟨cs', by rw [hlen, hc], hq, fun j u hu => ?_⟩, hw⟩
      have hj : j < cs'.length := (List.getElem?_eq_some_iff.1 hu).1
      have := hcell j (by rw [← hlen]; exact hj)
      rw [Deep.add_add, hc] at this
      rw [this, hu]
    have all : ∀ k, k ≤ len → ∃ ps : List α, ps.length = k ∧ ∀ j p, ps[j]? = some p → (∃ c, c.length = d.sz ∧ d.K w p c ∧ ∀ i u, c[i]? = some u → w.cell? (a.add (j * d.sz + i)) = some u) ∧ wf p := by
      intro k
      induction k with
      | zero => intro _; exact ⟨[], rfl, fun j p h => by simp at h⟩
      | succ k ih =>
        intro hk
        obtain ⟨ps, hp, hps⟩ := ih (by omega)
        obtain ⟨q, hq⟩ := each k (by omega)
        refine ⟨ps ++ [q], by simp [hp], fun j p hj => ?_⟩
        rcases Nat.lt_or_ge j ps.length with h | h
        · rw [List.getElem?_append_left h] at hj
          exact hps j p hj
        · have hj2 := (List.getElem?_eq_some_iff.1 hj).1
          rw [List.length_append, List.length_singleton] at hj2
          obtain rfl : j = k := by omega
          rw [List.getElem?_append_right h, hp, Nat.sub_self] at hj
          obtain rfl : q = p := by simpa using hj
          exact hq
    obtain ⟨ps, hp, hps⟩ := all len (Nat.le_refl _)
    refine ⟨ps, ⟨some a, cap, by rw [hp], by rw [hp]; exact hl, hp.symm ▸ rfl, by unfold maxLen at hm; omega, fun _ => ⟨a, rfl, fun j p hj => (hps j p hj).1⟩⟩, fun x hx => ?_⟩
    obtain ⟨j, hj⟩ := List.mem_iff_getElem?.1 hx
    exact (hps j x hj).2
end
theorem open_row {α : Type} {d : Kd α} {wf : α → Prop} {t e : TypeId} (h : Opens Try.prog t (Kd.slice e d) (fun xs => ∀ x ∈ xs, wf x)) {H : Type} {enc : TypeId × Value → H} {w : World} {spare : Nat → Bool} {held : Bool} {fuel : Nat} {v : Value} {x : DataW H × List MemPlace}
    (hx : DataW.trod enc Try.prog w 0 spare held fuel t [v] = some x) : ∃ A c l, v = .slice A l.length c ∧ d.C w A l.length l ∧ l.length ≤ c ∧ ∀ x ∈ l, wf x := by
  obtain ⟨xs, ⟨A, c, he, hc, hr⟩, hw⟩ := h H enc w spare held fuel [v] x hx
  injection he with he _
  exact ⟨A, c, xs, he, hr, hc, hw⟩
theorem opens_u8s : Opens Try.prog 22 (Kd.slice 5 (Kd.int .u8)) (fun xs => ∀ x ∈ xs, (Lit.int .u8 x).wf = true) := opens_slice Try.underlying22 (by kernel_rfl) (opens_int Try.underlying5)
section
variable {H : Type} {enc : TypeId × Value → H} {w : World} {spare : Nat → Bool} {held : Bool} {r : Reach} {b0 : Nat} {v : Value} {d : DataW H} {p : List MemPlace}
set_option maxRecDepth 100000 in
theorem open_raw (hv : Value.okWide Try.prog w r b0 24 v) (h : DataW.Trod enc Try.prog w 0 spare held 24 v d p) : ∃ (a b : Int) (A : Option Addr) (c : Nat) (l : List Int), v = .agg #[.int .u8 a, .int .u8 b, .slice A l.length c] ∧ (0 ≤ a ∧ a ≤ 255) ∧ (0 ≤ b ∧ b ≤ 255) ∧ (∀ x ∈ l, 0 ≤ x ∧ x ≤ 255) ∧
    (Kd.int .u8).C w A l.length l ∧ l.length ≤ c := by
  obtain ⟨v0, v1, v2, y0, y1, y2, n, rfl, _, _, h0, h1, h2⟩ := open_agg3 Try.underlying24 (by kernel_rfl) (by kernel_rfl) hv h
  obtain ⟨a, ha, _, hw0⟩ := DataW.trod_int (k := .u8) Try.underlying5 h0
  obtain ⟨b, hb, _, hw1⟩ := DataW.trod_int (k := .u8) Try.underlying5 h1
  obtain ⟨A, c, l, rfl, hC, hl, hw⟩ := open_row opens_u8s h2
  have ea : v0 = .int .u8 a := by injection ha
  have eb : v1 = .int .u8 b := by injection hb
  rw [ea, eb]
  exact ⟨a, b, A, c, l, rfl, bounds_u8 hw0, bounds_u8 hw1, fun x hx => bounds_u8 (hw x hx), hC, hl⟩
end
end Go.Proofs.Ytlldjinejckbaaa.Op

end
section
namespace Go.Proofs.Ytlldjinejckbaaa.digraphDepths
open Go.ChangeShapes Go.WideShapes Go.ChangeAt Go.RowKit Go.Proofs.Ytlldjinejckbaaa.Op
open Go.ChangeMaps (open_string shut_string)
set_option linter.unusedVariables false
theorem own : ownKnob Try.prog.godebug = none := by kernel_rfl
theorem laidOut : laidOutB Try.prog = true := by kernel_rfl
set_option maxRecDepth 100000 in
theorem lifted (os : Os) (started : os.Started) (H : Type) (enc : TypeId × Value → H) :
    ReturnsInHanded {} Try.checked os 7 .any (Rows.digraphDepthsSpec.pre6 enc Try.prog Try.f7 Rows.digraphDepthsRow.domain false) (Rows.digraphDepthsSpec.post enc Try.prog Try.f7 false true false false) := by
  refine returnsInHanded_of_change_sized (C := Try.checked) own started (by kernel_rfl) Try.func7
    (ChangeSpec.witness6 (enc := enc) (C := Try.checked) false ⟨#[], #[.agg #[.int .u8 0, .int .u8 0, .slice none 0 0]], []⟩ 8 (by kernel_rfl) (by kernel_rfl) (by kernel_rfl) (by kernel_rfl)) ?_
  intro W base args ds gs before hval0 hW hcnd hsz0 _
  have hval : ∀ (j : Nat) t v, Try.f7.params[j]? = some t → args[j]? = some v → Value.okWide Try.prog W .any base t v := hval0
  have hW' := hW
  obtain ⟨p, q, hA0, hV, rfl, hfz, hnd⟩ := hW
  have hA : DataW.TrodAll enc Try.prog W 0 (fun _ => true) true Try.f7.params.toList args.toList ds p := hA0
  rw [Try.params7] at hA hval
  obtain ⟨v0, vs0, d0, ds0, p0, q0, hargs, rfl, rfl, h0, r0⟩ := trodAll_cons hA
  obtain ⟨rfl, rfl, rfl⟩ := trodAll_nil r0
  obtain rfl : args = #[v0] := by cases args; simp_all
  obtain ⟨rfl, rfl⟩ := trodVars_none hV
  have lt0 : ∀ x ∈ p0, x.block < W.heap.size := by obtain ⟨m, hm⟩ := h0; exact DataW.trod_lt m _ _ _ hm
  obtain ⟨a0, b0, A0, c0, l0, rfl, ha0, hb0, hB0, hr0, hc0⟩ := open_raw (hval 0 24 v0 rfl rfl) h0
  clear hA0 hval0 hsz0
  obtain ⟨k, hk⟩ := PD.depths_pure a0 b0 ha0.1 hb0.1 l0 hB0
  refine (PD.wireloomlaw05_DigraphDepths.calls k a0 b0 A0 c0 l0 true W hr0 hc0 hk).mono fun e W' ⟨he, bel⟩ => ?_
  subst he
  exact ⟨_, rfl, _, _, _, [], _, [], hW', trodAll_mk1 (shut_bool Try.underlying4 _), (trodAll_cons_mk (Below.trod laidOut (by kernel_rfl) (of_decide_eq_true (by kernel_rfl)) h0 bel lt0) trodAll_mk0), rfl, bel.frame _, fun h => by cases h⟩
theorem over : Rows.digraphDepthsRow.holds Try.pinned (OpenSpec.ofChange Rows.digraphDepthsSpec) :=
  OpenClaim.holds_of_wide 7 Try.f7 rfl rfl rfl rfl rfl rfl rfl ⟨rfl, rfl, rfl, rfl, rfl⟩ rfl rfl rfl rfl rfl (by kernel_rfl) Try.func7 (by kernel_rfl)
    (of_decide_eq_true (by kernel_rfl)) (by unfold Func.isWrapper; first | (rw [if_pos (by decide +kernel)]; kernel_rfl) | (rw [if_neg (by decide +kernel)]; exact ⟨rfl, rfl⟩))
    (fun os started H enc _ => lifted os started H enc)
theorem proved : Rows.DigraphDepthsSaid := over
end Go.Proofs.Ytlldjinejckbaaa.digraphDepths
namespace Go.Proofs.Ytlldjinejckbaaa
theorem digraphDepths_holds : Rows.DigraphDepthsSaid := digraphDepths.proved
end Go.Proofs.Ytlldjinejckbaaa

end
