/- The law DigraphComponents of package digraph holds for every input: what it is called with is opened, the printed text of the law and its plain proof are joined. (Part 4 of 6 of its proof.) -/
import Derived.Test.YtlldjinejckbaaaZ02
set_option linter.unusedVariables false
set_option linter.unusedSimpArgs false
section
namespace Go.Proofs.Ytlldjinejckbaaa.PD
open Go.RowKit Go.Proofs.YtlldjinejckbaaaW.PrintWords Go.Proofs.YtlldjinejckbaaaW.PrintLast Go.Proofs.YtlldjinejckbaaaW.PrintMore
attribute [local go_sem] max2_int min2_int max_two min_two max_three min_three max_four min_four
set_option linter.unusedVariables false
set_option linter.unusedSimpArgs false
mutual
def wireloomlaw05_examples.j0 : Nat → Bool → Int → List (S55) → Int → List (S55) → Int → List (S55) → Option (Bool)
 | 0, _, _, _, _, _, _, _ => none
 | k + 1, x40, x165000, x165001, x170000, x170001, x175000, x175001 => if x40 = true then (none) else ((wireloomlaw05_order.f x170000 x170001).bind fun bt202 => (if bt202.2 = 50 then ((wireloomlaw05_depth.f x170000 x170001).bind fun bt206 => (if bt206.2 = 50 then ((wireloomlaw05_cycle.f x170000 x170001).bind fun bt210 => ((wireloomref05_Alike.f k bt210.1 bt210.2 (([0, 3, 2] : List Int)) 0).bind fun t217 => (if t217 = true then ((wireloomlaw05_cycle.f x175000 x175001).bind fun bt218 => ((wireloomref05_Alike.f k bt218.1 bt218.2 (([1] : List Int)) 0).bind fun t225 => (if t225 = true then ((digraph_Components.f 4 x170001).bind fun t226 => ((wireloomref05_SameLists.f k t226 (([(([0, 2, 3] : List Int)), (([1] : List Int))] : List (List Int)))).bind fun t238 => (wireloomlaw05_examples.j1 k (!t238) x165000 x165001))) else (wireloomlaw05_examples.j1 k true x165000 x165001)))) else (none)))) else (none))) else (none)))
def wireloomlaw05_examples.j1 : Nat → Bool → Int → List (S55) → Option (Bool)
 | 0, _, _, _ => none
 | k + 1, x76, x165000, x165001 => if x76 = true then (none) else ((digraph_Valid.f k 4 x165001).bind fun t239 => (if t239 = true then ((digraph_Valid.f k 3 x165001).bind fun t240 => (if t240 = true then (none) else ((digraph_Check.f 4 x165001 (([2, 0, 1, 3] : List Int))).bind fun t244 => (if t244 = 0 then ((digraph_Check.f 4 x165001 (([0, 1, 2, 3] : List Int))).bind fun t248 => (if t248 = 6 then ((wireloomlaw05_order.f 0 ([] : List (S55))).bind fun bt249 => (if bt249.2 = 0 then ((digraph_Reach.f 4 x165001 4).bind fun t253 => (some ((t253.length : Int) == 0))) else (none))) else (none))) else (none))))) else (none)))
end
def wireloomlaw05_examples.f (k : Nat)  : Option (Bool) := (some (([(⟨2, 0⟩ : S55), (⟨0, 3⟩ : S55), (⟨1, 3⟩ : S55)] : List (S55)) : List (S55))).bind fun y161 => ((wireloomref05_With.f 4 y161 3 2).bind fun bt165 => ((wireloomref05_With.f 4 y161 1 1).bind fun bt170 => ((wireloomlaw05_order.f 4 y161).bind fun bt175 => ((wireloomref05_Alike.f k bt175.1 bt175.2 (([1, 2, 0, 3] : List Int)) 0).bind fun t182 => (if t182 = true then ((wireloomlaw05_depth.f 4 y161).bind fun bt183 => ((wireloomref05_Alike.f k bt183.1 bt183.2 (([1, 0, 0, 2] : List Int)) 0).bind fun t190 => (if t190 = true then ((digraph_Reach.f 4 y161 2).bind fun t191 => ((wireloomref05_Same.f k t191 (([0, 2, 3] : List Int))).bind fun t197 => (if t197 = true then ((wireloomlaw05_cycle.f 4 y161).bind fun bt198 => (wireloomlaw05_examples.j0 k (bt198.2 != 4) 4 y161 bt165.1 bt165.2 bt170.1 bt170.2)) else (wireloomlaw05_examples.j0 k true 4 y161 bt165.1 bt165.2 bt170.1 bt170.2)))) else (none)))) else (none))))))
theorem wireloomlaw05_examples.mono_l : ∀ k, (∀ y0 y1 y2 y3 y4 y5 y6, LeO (wireloomlaw05_examples.j0 k y0 y1 y2 y3 y4 y5 y6) (wireloomlaw05_examples.j0 (k + 1) y0 y1 y2 y3 y4 y5 y6)) ∧ (∀ y0 y1 y2, LeO (wireloomlaw05_examples.j1 k y0 y1 y2) (wireloomlaw05_examples.j1 (k + 1) y0 y1 y2))
 | 0 => ⟨fun _ _ _ _ _ _ _ r h => by simp [wireloomlaw05_examples.j0] at h, fun _ _ _ r h => by simp [wireloomlaw05_examples.j1] at h⟩
 | k + 1 => by
  obtain ⟨ih0, ih1⟩ := wireloomlaw05_examples.mono_l k
  refine ⟨?_, ?_⟩
  ·intro y0 y1 y2 y3 y4 y5 y6
   unfold wireloomlaw05_examples.j0
   repeat' first
   | (with_reducible exact ih0 _ _ _ _ _ _ _)
   | (with_reducible exact ih1 _ _ _)
   | (with_reducible exact digraph_Valid.mono _ _ _)
   | (with_reducible exact wireloomref05_Alike.mono _ _ _ _ _)
   | (with_reducible exact wireloomref05_Same.mono _ _ _)
   | (with_reducible exact wireloomref05_SameLists.mono _ _ _)
   | (with_reducible exact LeO.refl _)
   | (with_reducible exact LeO.none _)
   | (with_reducible refine LeO.ite ?_ ?_)
   | (with_reducible refine LeO.bind ?_ (fun _ => ?_))
   | exact ih0 _ _ _ _ _ _ _
   | exact ih1 _ _ _
   | exact digraph_Valid.mono _ _ _
   | exact wireloomref05_Alike.mono _ _ _ _ _
   | exact wireloomref05_Same.mono _ _ _
   | exact wireloomref05_SameLists.mono _ _ _
   | exact LeO.none _
   | refine LeO.ite ?_ ?_
   | refine LeO.bind ?_ (fun _ => ?_)
  ·intro y0 y1 y2
   unfold wireloomlaw05_examples.j1
   repeat' first
   | (with_reducible exact ih0 _ _ _ _ _ _ _)
   | (with_reducible exact ih1 _ _ _)
   | (with_reducible exact digraph_Valid.mono _ _ _)
   | (with_reducible exact wireloomref05_Alike.mono _ _ _ _ _)
   | (with_reducible exact wireloomref05_Same.mono _ _ _)
   | (with_reducible exact wireloomref05_SameLists.mono _ _ _)
   | (with_reducible exact LeO.refl _)
   | (with_reducible exact LeO.none _)
   | (with_reducible refine LeO.ite ?_ ?_)
   | (with_reducible refine LeO.bind ?_ (fun _ => ?_))
   | exact ih0 _ _ _ _ _ _ _
   | exact ih1 _ _ _
   | exact digraph_Valid.mono _ _ _
   | exact wireloomref05_Alike.mono _ _ _ _ _
   | exact wireloomref05_Same.mono _ _ _
   | exact wireloomref05_SameLists.mono _ _ _
   | exact LeO.none _
   | refine LeO.ite ?_ ?_
   | refine LeO.bind ?_ (fun _ => ?_)
theorem wireloomlaw05_examples.mono : ∀ k, LeO (wireloomlaw05_examples.f k ) (wireloomlaw05_examples.f (k + 1) ) := by
 intro  k
 obtain ⟨ih0, ih1⟩ := wireloomlaw05_examples.mono_l k
 unfold wireloomlaw05_examples.f
 repeat' first
   | (with_reducible exact ih0 _ _ _ _ _ _ _)
   | (with_reducible exact ih1 _ _ _)
   | (with_reducible exact digraph_Valid.mono _ _ _)
   | (with_reducible exact wireloomref05_Alike.mono _ _ _ _ _)
   | (with_reducible exact wireloomref05_Same.mono _ _ _)
   | (with_reducible exact wireloomref05_SameLists.mono _ _ _)
   | (with_reducible exact LeO.refl _)
   | (with_reducible exact LeO.none _)
   | (with_reducible refine LeO.ite ?_ ?_)
   | (with_reducible refine LeO.bind ?_ (fun _ => ?_))
   | exact ih0 _ _ _ _ _ _ _
   | exact ih1 _ _ _
   | exact digraph_Valid.mono _ _ _
   | exact wireloomref05_Alike.mono _ _ _ _ _
   | exact wireloomref05_Same.mono _ _ _
   | exact wireloomref05_SameLists.mono _ _ _
   | exact LeO.none _
   | refine LeO.ite ?_ ?_
   | refine LeO.bind ?_ (fun _ => ?_)
set_option maxHeartbeats 8000000 in
set_option maxRecDepth 100000 in
theorem wireloomlaw05_examples.calls (k : Nat)  (r : Bool) (w : World) (h : wireloomlaw05_examples.f k  = some r) :
  Calls Try.prog 10 #[] w fun e w' => e = .returned (.bool r) ∧ Below w.heap.size w w' := by
 have hu55 := Try.underlying55
 have hu31 := Try.underlying31
 have hu37 := Try.underlying37
 have hfd37_1 : ∀ (x0 x1 : Value) (W : World), (Instr.field 37 (.agg #[x0, x1]) 1).run Try.prog W = .ok x1 W := fun _ _ _ => by rfl
 have HB := Aside0.mk (Below.refl w.heap.size w)
 have H : ((some (([(⟨2, 0⟩ : S55), (⟨0, 3⟩ : S55), (⟨1, 3⟩ : S55)] : List (S55)) : List (S55))).bind fun y161 => ((wireloomref05_With.f 4 y161 3 2).bind fun bt165 => ((wireloomref05_With.f 4 y161 1 1).bind fun bt170 => ((wireloomlaw05_order.f 4 y161).bind fun bt175 => ((wireloomref05_Alike.f k bt175.1 bt175.2 (([1, 2, 0, 3] : List Int)) 0).bind fun t182 => (if t182 = true then ((wireloomlaw05_depth.f 4 y161).bind fun bt183 => ((wireloomref05_Alike.f k bt183.1 bt183.2 (([1, 0, 0, 2] : List Int)) 0).bind fun t190 => (if t190 = true then ((digraph_Reach.f 4 y161 2).bind fun t191 => ((wireloomref05_Same.f k t191 (([0, 2, 3] : List Int))).bind fun t197 => (if t197 = true then ((wireloomlaw05_cycle.f 4 y161).bind fun bt198 => (wireloomlaw05_examples.j0 k (bt198.2 != 4) 4 y161 bt165.1 bt165.2 bt170.1 bt170.2)) else (wireloomlaw05_examples.j0 k true 4 y161 bt165.1 bt165.2 bt170.1 bt170.2)))) else (none)))) else (none))))))) = some r := h
 clear h
 obtain ⟨y161, hy161⟩ : ∃ y_ : List (S55), y_ = (([(⟨2, 0⟩ : S55), (⟨0, 3⟩ : S55), (⟨1, 3⟩ : S55)] : List (S55))) := ⟨_, rfl⟩
 replace H : ((wireloomref05_With.f 4 y161 3 2).bind fun bt165 => ((wireloomref05_With.f 4 y161 1 1).bind fun bt170 => ((wireloomlaw05_order.f 4 y161).bind fun bt175 => ((wireloomref05_Alike.f k bt175.1 bt175.2 (([1, 2, 0, 3] : List Int)) 0).bind fun t182 => (if t182 = true then ((wireloomlaw05_depth.f 4 y161).bind fun bt183 => ((wireloomref05_Alike.f k bt183.1 bt183.2 (([1, 0, 0, 2] : List Int)) 0).bind fun t190 => (if t190 = true then ((digraph_Reach.f 4 y161 2).bind fun t191 => ((wireloomref05_Same.f k t191 (([0, 2, 3] : List Int))).bind fun t197 => (if t197 = true then ((wireloomlaw05_cycle.f 4 y161).bind fun bt198 => (wireloomlaw05_examples.j0 k (bt198.2 != 4) 4 y161 bt165.1 bt165.2 bt170.1 bt170.2)) else (wireloomlaw05_examples.j0 k true 4 y161 bt165.1 bt165.2 bt170.1 bt170.2)))) else (none)))) else (none)))))) = some r := by first | (rw [hy161]; with_reducible exact H) | (have H2_ := (Option.bind_some _ _).symm.trans H; rw [hy161]; with_reducible exact H2_) | (have H2_ := (Option.bind_some _ _).symm.trans H; with_reducible exact H2_) | with_reducible exact H | (rw [hy161]; exact H) | exact H
 have Ny161 := Aside0.mk hy161
 clear hy161
 replace H := Option.bind_eq_some_iff.mp H
 obtain ⟨⟨t165, t166⟩, A10, H⟩ := H
 replace H : ((wireloomref05_With.f 4 y161 1 1).bind fun bt170 => ((wireloomlaw05_order.f 4 y161).bind fun bt175 => ((wireloomref05_Alike.f k bt175.1 bt175.2 (([1, 2, 0, 3] : List Int)) 0).bind fun t182 => (if t182 = true then ((wireloomlaw05_depth.f 4 y161).bind fun bt183 => ((wireloomref05_Alike.f k bt183.1 bt183.2 (([1, 0, 0, 2] : List Int)) 0).bind fun t190 => (if t190 = true then ((digraph_Reach.f 4 y161 2).bind fun t191 => ((wireloomref05_Same.f k t191 (([0, 2, 3] : List Int))).bind fun t197 => (if t197 = true then ((wireloomlaw05_cycle.f 4 y161).bind fun bt198 => (wireloomlaw05_examples.j0 k (bt198.2 != 4) 4 y161 t165 t166 bt170.1 bt170.2)) else (wireloomlaw05_examples.j0 k true 4 y161 t165 t166 bt170.1 bt170.2)))) else (none)))) else (none))))) = some r := H
 have A1 := Aside0.mk A10
 clear A10
 replace H := Option.bind_eq_some_iff.mp H
 obtain ⟨⟨t170, t171⟩, A20, H⟩ := H
 replace H : ((wireloomlaw05_order.f 4 y161).bind fun bt175 => ((wireloomref05_Alike.f k bt175.1 bt175.2 (([1, 2, 0, 3] : List Int)) 0).bind fun t182 => (if t182 = true then ((wireloomlaw05_depth.f 4 y161).bind fun bt183 => ((wireloomref05_Alike.f k bt183.1 bt183.2 (([1, 0, 0, 2] : List Int)) 0).bind fun t190 => (if t190 = true then ((digraph_Reach.f 4 y161 2).bind fun t191 => ((wireloomref05_Same.f k t191 (([0, 2, 3] : List Int))).bind fun t197 => (if t197 = true then ((wireloomlaw05_cycle.f 4 y161).bind fun bt198 => (wireloomlaw05_examples.j0 k (bt198.2 != 4) 4 y161 t165 t166 t170 t171)) else (wireloomlaw05_examples.j0 k true 4 y161 t165 t166 t170 t171)))) else (none)))) else (none)))) = some r := H
 have A2 := Aside0.mk A20
 clear A20
 have HC3 := Aside0.mk H
 clear H
 go_enter Try.func10, Try.ntmps10
 go_upto_region 4 with (first | ((with_reducible refine gate_dst (N := 7) rfl ?_); (try (refine gate_guard (by rfl) ?_; dsimp only)); refine Kd.R_lit k55 _ 55 ?hg (N := 7) ?hd (xs := ([(⟨2, 0⟩ : S55), (⟨0, 3⟩ : S55), (⟨1, 3⟩ : S55)] : List (S55))) (inner := [.int .i64 2, .int .i64 0, .int .i64 0, .int .i64 3, .int .i64 1, .int .i64 3]) (ok := fun _ => True) (okp := fun _ => True) ?hr ?hp (fun _ hk => hk) trivial (Below.refl _ _) (Nat.le_refl _) (by simp) ?_; (case hd => rfl); (case hg => rfl); (case hr => first | (go_simp; done) | (go_simp; rfl)); (case hp => exact (Reps.c2 (show Kd.M k55 _ _ _ (⟨2, 0⟩ : S55) [.int .i64 2, .int .i64 0] from (k55_mkM _ _ _ (⟨2, 0⟩ : S55) )) (Reps.c2 (show Kd.M k55 _ _ _ (⟨0, 3⟩ : S55) [.int .i64 0, .int .i64 3] from (k55_mkM _ _ _ (⟨0, 3⟩ : S55) )) (Reps.c2 (show Kd.M k55 _ _ _ (⟨1, 3⟩ : S55) [.int .i64 1, .int .i64 3] from (k55_mkM _ _ _ (⟨1, 3⟩ : S55) )) (Reps.none _ _))))); intro v162 w4 ho5 hb hg_ hnew_; clear hg_ hnew_; (first | rw [← Ny161.out] at ho5 | (simp only [Int.reduceToNat] at ho5; rw [← Ny161.out] at ho5)); have n0_ := Aside0.mk (Kd.R_lower ho5 (below_size (by repeat (first | (with_reducible first | exact HB.out | apply below_alloc | apply pw_below_drewN | apply below_drew1) | exact HB.out)))); have n1_ := Aside0.mk (below_step (by repeat (first | (with_reducible first | exact HB.out | apply below_alloc | apply pw_below_drewN | apply below_drew1) | exact HB.out)) hb); clear HB; have HO163 := n0_; have HB := n1_; clear n0_ n1_; clear hb ho5; obtain ⟨Ao6, co6, eo6⟩ := Kd.R_slice HO163.out; subst eo6) | ((with_reducible refine gate_dst (N := 1) rfl ?_); (try (refine gate_guard (by rfl) ?_; dsimp only)); refine box_event ?hg (N := 1) ?hd (cs := #[.int .i64 0, .slice none 0 0]) (t := 31) ?hr ?_; (case hd => rfl); (case hg => rfl); (case hr => first | (go_simp; done) | (go_simp; rfl)); intro gb164 hg w7 hbox hb; have n0_ := Aside0.mk (Kd.R_below (rA HO163.out) hb); have n1_ := Aside0.mk (below_step (by repeat (first | (with_reducible first | exact HB.out | apply below_alloc | apply pw_below_drewN | apply below_drew1) | exact HB.out)) hb); have n2_ := Aside0.mk (hbox); have n3_ := Aside0.mk ((by rw [hg]; exact (below_size (by repeat (first | (with_reducible first | exact HB.out | apply below_alloc | apply pw_below_drewN | apply below_drew1) | exact HB.out))) : w.heap.size ≤ gb164)); have n4_ := Aside0.mk ((by rw [hg]; exact (below_size (by repeat (first | (with_reducible first | exact HB.out | apply below_alloc | apply pw_below_drewN | apply below_drew1) | exact HB.out))) : w.heap.size ≤ gb164)); clear HO163; clear HB; have HO163 := n0_; have HB := n1_; have BK164 := n2_; have GW164 := n3_; have GE164 := n4_; clear n0_ n1_ n2_ n3_ n4_; clear hb hbox hg; have hcz8_0 : w7.cell? ⟨gb164, 0, none⟩ = some (.int .i64 0) := (blk_cell BK164.out 0).trans rfl; have hcz8_1 : w7.cell? ⟨gb164, 1, none⟩ = some (.slice none 0 0) := (blk_cell BK164.out 1).trans rfl; have hfz8_0 := blk_frozen BK164.out 0; have hfz8_1 := blk_frozen BK164.out 1) | ((with_reducible refine gate_callee (f := 32) rfl ?_); refine goesL_ (some 10) rfl rfl Try.func32 (by kernel_rfl) rfl #[.agg #[.int .i64 4, .slice Ao6 y161.length co6], .int .i64 3, .int .i64 2] rfl (by (try simp only [List.map_toArray, List.map_cons, List.map_nil]); first | done | rfl | (simp only [List.length_drop, List.length_take]; rfl)) ?_; (with_reducible refine (wireloomref05_With.calls 4 _ _ y161 3 2 t165 t166 _ ?side1 ?side2 A1.out).mono ?_); (case side1 => refine (Kd.R_reads' (e := 55) (base := w.heap.size) (ok := fun k_ => True) (n := y161.length) (c := co6) ?_).2.2; exact (by (with_reducible repeat (first | apply Kd.R_alloc | apply Kd.R_drewN | apply Kd.R_drew)); exact (Kd.R_mono (Kd.R_far (p := ⟨gb164, 1, none⟩) (Kd.R_far (p := ⟨gb164, 0, none⟩) (Kd.R_types HO163.out BK164.out (by decide)) (fun _ hk => hk.2) (.int .i64 4)) (fun _ hk => hk.2) (.slice Ao6 y161.length co6)) (fun _ h_ => h_.1)))); (case side2 => exact (Kd.R_reads' HO163.out).2.1); rintro e w9 ⟨v167, rfl, ho0, hb⟩; refine ⟨_, rfl, ?_⟩; have n0_ := Aside0.mk (Kd.R_elder' (by (with_reducible repeat (first | apply Kd.R_alloc | apply Kd.R_drewN | apply Kd.R_drew)); exact (Kd.R_mono (Kd.R_far (p := ⟨gb164, 1, none⟩) (Kd.R_far (p := ⟨gb164, 0, none⟩) (Kd.R_types HO163.out BK164.out (by decide)) (fun _ hk => hk.2) (.int .i64 4)) (fun _ hk => hk.2) (.slice Ao6 y161.length co6)) (fun _ h_ => h_.1))) (Kd.R_base ho0) hb); have n1_ := Aside0.mk (Kd.R_lower (Kd.R_new' ho0 (Kd.R_lt (by (with_reducible repeat (first | apply Kd.R_alloc | apply Kd.R_drewN | apply Kd.R_drew)); exact (Kd.R_mono (Kd.R_far (p := ⟨gb164, 1, none⟩) (Kd.R_far (p := ⟨gb164, 0, none⟩) (Kd.R_types HO163.out BK164.out (by decide)) (fun _ hk => hk.2) (.int .i64 4)) (fun _ hk => hk.2) (.slice Ao6 y161.length co6)) (fun _ h_ => h_.1))))) (below_size (by repeat (first | (with_reducible first | exact HB.out | apply below_alloc | apply pw_below_drewN | apply below_drew1 | refine below_set ?_ GE164.out) | exact HB.out)))); have n2_ := Aside0.mk (blk_below (g := gb164) (o := .cells #[.int .i64 4, .slice Ao6 y161.length co6] 31 (0, 0)) (by (with_reducible repeat (first | refine blk_drewN ?_ _ | refine blk_drew ?_ | refine blk_alloc ?_ _)); refine blk_put (cs := #[.int .i64 4, .slice none 0 0]) ?_ 1 _ rfl; (with_reducible repeat (first | refine blk_drewN ?_ _ | refine blk_drew ?_ | refine blk_alloc ?_ _)); refine blk_put (cs := #[.int .i64 0, .slice none 0 0]) ?_ 0 _ rfl; (with_reducible repeat (first | refine blk_drewN ?_ _ | refine blk_drew ?_ | refine blk_alloc ?_ _)); exact BK164.out) hb); have n3_ := Aside0.mk (below_step (by repeat (first | (with_reducible first | exact HB.out | apply below_alloc | apply pw_below_drewN | apply below_drew1 | refine below_set ?_ GE164.out) | exact HB.out)) hb); clear HO163; clear BK164; clear HB; have HO163 := n0_; have HO168 := n1_; have BK164 := n2_; have HB := n3_; clear n0_ n1_ n2_ n3_; (try clear hb); (try clear hb2); (try clear hk); (try clear hi); (try clear ho0)) | ((with_reducible refine gate_dst (N := 2) rfl ?_); (try (refine gate_guard (by rfl) ?_; dsimp only)); refine box_event ?hg (N := 2) ?hd (cs := #[.int .i64 0, .slice none 0 0]) (t := 31) ?hr ?_; (case hd => rfl); (case hg => rfl); (case hr => first | (go_simp; done) | (go_simp; rfl)); intro gb169 hg w10 hbox hb; have n0_ := Aside0.mk (Kd.R_below (rA HO163.out) hb); have n1_ := Aside0.mk (Kd.R_below (rA HO168.out) hb); have n2_ := Aside0.mk (blk_below (g := gb164) (o := .cells #[.int .i64 4, .slice Ao6 y161.length co6] 31 (0, 0)) (bA BK164.out) hb); have n3_ := Aside0.mk (below_step (by repeat (first | (with_reducible first | exact HB.out | apply below_alloc | apply pw_below_drewN | apply below_drew1 | refine below_set ?_ GE164.out) | exact HB.out)) hb); have n4_ := Aside0.mk (hbox); have n5_ := Aside0.mk ((by rw [hg]; exact (below_size (by repeat (first | (with_reducible first | exact HB.out | apply below_alloc | apply pw_below_drewN | apply below_drew1 | refine below_set ?_ GE164.out) | exact HB.out))) : w.heap.size ≤ gb169)); have n6_ := Aside0.mk ((by rw [hg]; exact (below_size (by repeat (first | (with_reducible first | exact HB.out | apply below_alloc | apply pw_below_drewN | apply below_drew1 | refine below_set ?_ GE164.out) | exact HB.out))) : w.heap.size ≤ gb169)); have n7_ := Aside0.mk ((by rw [hg]; exact Nat.ne_of_lt (blk_lt (g := gb164) (o := .cells #[.int .i64 4, .slice Ao6 y161.length co6] 31 (0, 0)) (bA BK164.out)) : gb164 ≠ gb169)); have n8_ := Aside0.mk ((by rw [hg]; exact Nat.ne_of_gt (blk_lt (g := gb164) (o := .cells #[.int .i64 4, .slice Ao6 y161.length co6] 31 (0, 0)) (bA BK164.out)) : gb169 ≠ gb164)); clear HO163; clear HO168; clear BK164; clear HB; have HO163 := n0_; have HO168 := n1_; have BK164 := n2_; have HB := n3_; have BK169 := n4_; have GW169 := n5_; have GE169 := n6_; have NB164_169 := n7_; have NB169_164 := n8_; clear n0_ n1_ n2_ n3_ n4_ n5_ n6_ n7_ n8_; clear hb hbox hg; have hnb11 := NB169_164.out; have hnc11 := NB164_169.out; have hcz12_0 : w10.cell? ⟨gb169, 0, none⟩ = some (.int .i64 0) := (blk_cell BK169.out 0).trans rfl; have hcz12_1 : w10.cell? ⟨gb169, 1, none⟩ = some (.slice none 0 0) := (blk_cell BK169.out 1).trans rfl; have hfz12_0 := blk_frozen BK169.out 0; have hfz12_1 := blk_frozen BK169.out 1; obtain ⟨Ao13, co13, eo13⟩ := Kd.R_slice HO168.out; subst eo13; have hcz14_0 : w10.cell? ⟨gb164, 0, none⟩ = some (.int .i64 4) := (blk_cell BK164.out 0).trans rfl; have hcz14_1 : w10.cell? ⟨gb164, 1, none⟩ = some (.slice Ao6 y161.length co6) := (blk_cell BK164.out 1).trans rfl; have hfz14_0 := blk_frozen BK164.out 0; have hfz14_1 := blk_frozen BK164.out 1) | ((with_reducible refine gate_callee (f := 32) rfl ?_); refine goesL_ (some 12) rfl rfl Try.func32 (by kernel_rfl) rfl #[.agg #[.int .i64 4, .slice Ao6 y161.length co6], .int .i64 1, .int .i64 1] rfl (by (try simp only [List.map_toArray, List.map_cons, List.map_nil]); first | done | rfl | (simp only [List.length_drop, List.length_take]; rfl)) ?_; (with_reducible refine (wireloomref05_With.calls 4 _ _ y161 1 1 t170 t171 _ ?side1 ?side2 A2.out).mono ?_); (case side1 => refine (Kd.R_reads' (e := 55) (base := w.heap.size) (ok := fun k_ => (True ∧ some k_ ≠ (.slice Ao13 t166.length co13 : Value).ownBlock)) (n := y161.length) (c := co6) ?_).2.2; exact (by (with_reducible repeat (first | apply Kd.R_alloc | apply Kd.R_drewN | apply Kd.R_drew)); exact (Kd.R_mono (Kd.R_far (p := ⟨gb169, 1, none⟩) (Kd.R_far (p := ⟨gb169, 0, none⟩) (Kd.R_types HO163.out BK169.out (by decide)) (fun _ hk => hk.2) (.int .i64 t165)) (fun _ hk => hk.2) (.slice Ao13 t166.length co13)) (fun _ h_ => h_.1)))); (case side2 => exact (Kd.R_reads' HO163.out).2.1); rintro e w15 ⟨v172, rfl, ho0, hb⟩; refine ⟨_, rfl, ?_⟩; have n0_ := Aside0.mk (Kd.R_elder' (by (with_reducible repeat (first | apply Kd.R_alloc | apply Kd.R_drewN | apply Kd.R_drew)); exact (Kd.R_mono (Kd.R_far (p := ⟨gb169, 1, none⟩) (Kd.R_far (p := ⟨gb169, 0, none⟩) (Kd.R_types HO163.out BK169.out (by decide)) (fun _ hk => hk.2) (.int .i64 t165)) (fun _ hk => hk.2) (.slice Ao13 t166.length co13)) (fun _ h_ => h_.1))) (Kd.R_base ho0) hb); have n1_ := Aside0.mk (Kd.R_elder' (by (with_reducible repeat (first | apply Kd.R_alloc | apply Kd.R_drewN | apply Kd.R_drew)); exact (Kd.R_mono (Kd.R_far (p := ⟨gb169, 1, none⟩) (Kd.R_far (p := ⟨gb169, 0, none⟩) (Kd.R_types HO168.out BK169.out (by decide)) (fun _ hk => hk.2) (.int .i64 t165)) (fun _ hk => hk.2) (.slice Ao13 t166.length co13)) (fun _ h_ => h_.1))) (Kd.R_base ho0) hb); have n2_ := Aside0.mk (Kd.R_lower (Kd.R_new' (Kd.R_new' ho0 (Kd.R_lt (by (with_reducible repeat (first | apply Kd.R_alloc | apply Kd.R_drewN | apply Kd.R_drew)); exact (Kd.R_mono (Kd.R_far (p := ⟨gb169, 1, none⟩) (Kd.R_far (p := ⟨gb169, 0, none⟩) (Kd.R_types HO163.out BK169.out (by decide)) (fun _ hk => hk.2) (.int .i64 t165)) (fun _ hk => hk.2) (.slice Ao13 t166.length co13)) (fun _ h_ => h_.1))))) (Kd.R_lt (by (with_reducible repeat (first | apply Kd.R_alloc | apply Kd.R_drewN | apply Kd.R_drew)); exact (Kd.R_mono (Kd.R_far (p := ⟨gb169, 1, none⟩) (Kd.R_far (p := ⟨gb169, 0, none⟩) (Kd.R_types HO168.out BK169.out (by decide)) (fun _ hk => hk.2) (.int .i64 t165)) (fun _ hk => hk.2) (.slice Ao13 t166.length co13)) (fun _ h_ => h_.1))))) (below_size (by repeat (first | (with_reducible first | exact HB.out | apply below_alloc | apply pw_below_drewN | apply below_drew1 | refine below_set ?_ GE164.out | refine below_set ?_ GE169.out) | exact HB.out)))); have n3_ := Aside0.mk (blk_below (g := gb164) (o := .cells #[.int .i64 4, .slice Ao6 y161.length co6] 31 (0, 0)) (by (with_reducible repeat (first | refine blk_drewN ?_ _ | refine blk_drew ?_ | refine blk_alloc ?_ _)); refine blk_far ?_ NB164_169.out _; (with_reducible repeat (first | refine blk_drewN ?_ _ | refine blk_drew ?_ | refine blk_alloc ?_ _)); refine blk_far ?_ NB164_169.out _; (with_reducible repeat (first | refine blk_drewN ?_ _ | refine blk_drew ?_ | refine blk_alloc ?_ _)); exact BK164.out) hb); have n4_ := Aside0.mk (blk_below (g := gb169) (o := .cells #[.int .i64 t165, .slice Ao13 t166.length co13] 31 (0, 0)) (by (with_reducible repeat (first | refine blk_drewN ?_ _ | refine blk_drew ?_ | refine blk_alloc ?_ _)); refine blk_put (cs := #[.int .i64 t165, .slice none 0 0]) ?_ 1 _ rfl; (with_reducible repeat (first | refine blk_drewN ?_ _ | refine blk_drew ?_ | refine blk_alloc ?_ _)); refine blk_put (cs := #[.int .i64 0, .slice none 0 0]) ?_ 0 _ rfl; (with_reducible repeat (first | refine blk_drewN ?_ _ | refine blk_drew ?_ | refine blk_alloc ?_ _)); exact BK169.out) hb); have n5_ := Aside0.mk (below_step (by repeat (first | (with_reducible first | exact HB.out | apply below_alloc | apply pw_below_drewN | apply below_drew1 | refine below_set ?_ GE164.out | refine below_set ?_ GE169.out) | exact HB.out)) hb); clear HO163; clear HO168; clear BK164; clear BK169; clear HB; have HO163 := n0_; have HO168 := n1_; have HO173 := n2_; have BK164 := n3_; have BK169 := n4_; have HB := n5_; clear n0_ n1_ n2_ n3_ n4_ n5_; (try clear hb); (try clear hb2); (try clear hk); (try clear hi); (try clear ho0)) | ((with_reducible refine gate_dst (N := 3) rfl ?_); (try (refine gate_guard (by rfl) ?_; dsimp only)); refine box_event ?hg (N := 3) ?hd (cs := #[.int .i64 0, .slice none 0 0]) (t := 31) ?hr ?_; (case hd => rfl); (case hg => rfl); (case hr => first | (go_simp; done) | (go_simp; rfl)); intro gb174 hg w16 hbox hb; have n0_ := Aside0.mk (Kd.R_below (rA HO163.out) hb); have n1_ := Aside0.mk (Kd.R_below (rA HO168.out) hb); have n2_ := Aside0.mk (Kd.R_below (rA HO173.out) hb); have n3_ := Aside0.mk (blk_below (g := gb164) (o := .cells #[.int .i64 4, .slice Ao6 y161.length co6] 31 (0, 0)) (bA BK164.out) hb); have n4_ := Aside0.mk (blk_below (g := gb169) (o := .cells #[.int .i64 t165, .slice Ao13 t166.length co13] 31 (0, 0)) (bA BK169.out) hb); have n5_ := Aside0.mk (below_step (by repeat (first | (with_reducible first | exact HB.out | apply below_alloc | apply pw_below_drewN | apply below_drew1 | refine below_set ?_ GE164.out | refine below_set ?_ GE169.out) | exact HB.out)) hb); have n6_ := Aside0.mk (hbox); have n7_ := Aside0.mk ((by rw [hg]; exact (below_size (by repeat (first | (with_reducible first | exact HB.out | apply below_alloc | apply pw_below_drewN | apply below_drew1 | refine below_set ?_ GE164.out | refine below_set ?_ GE169.out) | exact HB.out))) : w.heap.size ≤ gb174)); have n8_ := Aside0.mk ((by rw [hg]; exact (below_size (by repeat (first | (with_reducible first | exact HB.out | apply below_alloc | apply pw_below_drewN | apply below_drew1 | refine below_set ?_ GE164.out | refine below_set ?_ GE169.out) | exact HB.out))) : w.heap.size ≤ gb174)); have n9_ := Aside0.mk ((by rw [hg]; exact Nat.ne_of_lt (blk_lt (g := gb164) (o := .cells #[.int .i64 4, .slice Ao6 y161.length co6] 31 (0, 0)) (bA BK164.out)) : gb164 ≠ gb174)); have n10_ := Aside0.mk ((by rw [hg]; exact Nat.ne_of_gt (blk_lt (g := gb164) (o := .cells #[.int .i64 4, .slice Ao6 y161.length co6] 31 (0, 0)) (bA BK164.out)) : gb174 ≠ gb164)); have n11_ := Aside0.mk ((by rw [hg]; exact Nat.ne_of_lt (blk_lt (g := gb169) (o := .cells #[.int .i64 t165, .slice Ao13 t166.length co13] 31 (0, 0)) (bA BK169.out)) : gb169 ≠ gb174)); have n12_ := Aside0.mk ((by rw [hg]; exact Nat.ne_of_gt (blk_lt (g := gb169) (o := .cells #[.int .i64 t165, .slice Ao13 t166.length co13] 31 (0, 0)) (bA BK169.out)) : gb174 ≠ gb169)); clear HO163; clear HO168; clear HO173; clear BK164; clear BK169; clear HB; have HO163 := n0_; have HO168 := n1_; have HO173 := n2_; have BK164 := n3_; have BK169 := n4_; have HB := n5_; have BK174 := n6_; have GW174 := n7_; have GE174 := n8_; have NB164_174 := n9_; have NB174_164 := n10_; have NB169_174 := n11_; have NB174_169 := n12_; clear n0_ n1_ n2_ n3_ n4_ n5_ n6_ n7_ n8_ n9_ n10_ n11_ n12_; clear hb hbox hg; have hnb17 := NB174_164.out; have hnc17 := NB164_174.out; have hnb18 := NB174_169.out; have hnc18 := NB169_174.out; have hcz19_0 : w16.cell? ⟨gb174, 0, none⟩ = some (.int .i64 0) := (blk_cell BK174.out 0).trans rfl; have hcz19_1 : w16.cell? ⟨gb174, 1, none⟩ = some (.slice none 0 0) := (blk_cell BK174.out 1).trans rfl; have hfz19_0 := blk_frozen BK174.out 0; have hfz19_1 := blk_frozen BK174.out 1; obtain ⟨Ao20, co20, eo20⟩ := Kd.R_slice HO173.out; subst eo20))
 (try simp only [Act.put, List.setIfInBounds_toArray, List.set_cons_zero, List.set_cons_succ])
 go_cut [40] (fun v40 wc => ∃ (kq : Nat) (x40_2 : Bool), v40 = .bool x40_2 ∧ Aside0 (wireloomlaw05_examples.j0 kq x40_2 4 y161 t165 t166 t170 t171 = some r) ∧ Aside0 (kq ≤ k) ∧ Aside0 (Kd.R k55 55 wc w.heap.size (fun k_ => some k_ ≠ ((.slice Ao13 t166.length co13) : Value).ownBlock ∧ some k_ ≠ ((.slice Ao20 t171.length co20) : Value).ownBlock) (.slice Ao6 y161.length co6) y161) ∧ Aside0 (Kd.R k55 55 wc w.heap.size (fun k_ => some k_ ≠ ((.slice Ao6 y161.length co6) : Value).ownBlock ∧ some k_ ≠ ((.slice Ao20 t171.length co20) : Value).ownBlock) (.slice Ao13 t166.length co13) t166) ∧ Aside0 (Kd.R k55 55 wc w.heap.size (fun k_ => some k_ ≠ ((.slice Ao6 y161.length co6) : Value).ownBlock ∧ some k_ ≠ ((.slice Ao13 t166.length co13) : Value).ownBlock) (.slice Ao20 t171.length co20) t171) ∧ Aside0 (wc.heap[gb164]? = some (.cells #[.int .i64 4, (.slice Ao6 y161.length co6)] 31 (0, 0))) ∧ Aside0 (wc.heap[gb169]? = some (.cells #[.int .i64 t165, (.slice Ao13 t166.length co13)] 31 (0, 0))) ∧ Aside0 (wc.heap[gb174]? = some (.cells #[.int .i64 t170, (.slice Ao20 t171.length co20)] 31 (0, 0))) ∧ Aside0 (Below w.heap.size w wc))
 case first =>
  have H := HC3.out
  clear HC3
  replace H := Option.bind_eq_some_iff.mp H
  obtain ⟨⟨t175, t178⟩, A210, H⟩ := H
  replace H : ((wireloomref05_Alike.f k t175 t178 (([1, 2, 0, 3] : List Int)) 0).bind fun t182 => (if t182 = true then ((wireloomlaw05_depth.f 4 y161).bind fun bt183 => ((wireloomref05_Alike.f k bt183.1 bt183.2 (([1, 0, 0, 2] : List Int)) 0).bind fun t190 => (if t190 = true then ((digraph_Reach.f 4 y161 2).bind fun t191 => ((wireloomref05_Same.f k t191 (([0, 2, 3] : List Int))).bind fun t197 => (if t197 = true then ((wireloomlaw05_cycle.f 4 y161).bind fun bt198 => (wireloomlaw05_examples.j0 k (bt198.2 != 4) 4 y161 t165 t166 t170 t171)) else (wireloomlaw05_examples.j0 k true 4 y161 t165 t166 t170 t171)))) else (none)))) else (none))) = some r := H
  have A21 := Aside0.mk A210
  clear A210
  obtain ⟨y179, hy179⟩ : ∃ y_ : List Int, y_ = (([1, 2, 0, 3] : List Int)) := ⟨_, rfl⟩
  replace H : ((wireloomref05_Alike.f k t175 t178 y179 0).bind fun t182 => (if t182 = true then ((wireloomlaw05_depth.f 4 y161).bind fun bt183 => ((wireloomref05_Alike.f k bt183.1 bt183.2 (([1, 0, 0, 2] : List Int)) 0).bind fun t190 => (if t190 = true then ((digraph_Reach.f 4 y161 2).bind fun t191 => ((wireloomref05_Same.f k t191 (([0, 2, 3] : List Int))).bind fun t197 => (if t197 = true then ((wireloomlaw05_cycle.f 4 y161).bind fun bt198 => (wireloomlaw05_examples.j0 k (bt198.2 != 4) 4 y161 t165 t166 t170 t171)) else (wireloomlaw05_examples.j0 k true 4 y161 t165 t166 t170 t171)))) else (none)))) else (none))) = some r := by first | (rw [hy179]; with_reducible exact H) | (have H2_ := (Option.bind_some _ _).symm.trans H; rw [hy179]; with_reducible exact H2_) | (have H2_ := (Option.bind_some _ _).symm.trans H; with_reducible exact H2_) | with_reducible exact H | (rw [hy179]; exact H) | exact H
  have Ny179 := Aside0.mk hy179
  clear hy179
  replace H := Option.bind_eq_some_iff.mp H
  obtain ⟨t182, A220, H⟩ := H
  replace H : (if t182 = true then ((wireloomlaw05_depth.f 4 y161).bind fun bt183 => ((wireloomref05_Alike.f k bt183.1 bt183.2 (([1, 0, 0, 2] : List Int)) 0).bind fun t190 => (if t190 = true then ((digraph_Reach.f 4 y161 2).bind fun t191 => ((wireloomref05_Same.f k t191 (([0, 2, 3] : List Int))).bind fun t197 => (if t197 = true then ((wireloomlaw05_cycle.f 4 y161).bind fun bt198 => (wireloomlaw05_examples.j0 k (bt198.2 != 4) 4 y161 t165 t166 t170 t171)) else (wireloomlaw05_examples.j0 k true 4 y161 t165 t166 t170 t171)))) else (none)))) else (none)) = some r := H
  have A22 := Aside0.mk A220
  clear A220
  by_cases c23 : t182 = true
  ·subst c23
   have H1 : ((wireloomlaw05_depth.f 4 y161).bind fun bt183 => ((wireloomref05_Alike.f k bt183.1 bt183.2 (([1, 0, 0, 2] : List Int)) 0).bind fun t190 => (if t190 = true then ((digraph_Reach.f 4 y161 2).bind fun t191 => ((wireloomref05_Same.f k t191 (([0, 2, 3] : List Int))).bind fun t197 => (if t197 = true then ((wireloomlaw05_cycle.f 4 y161).bind fun bt198 => (wireloomlaw05_examples.j0 k (bt198.2 != 4) 4 y161 t165 t166 t170 t171)) else (wireloomlaw05_examples.j0 k true 4 y161 t165 t166 t170 t171)))) else (none)))) = some r := by rw [if_pos rfl] at H; exact H
   clear H
   have H := H1
   clear H1
   replace H := Option.bind_eq_some_iff.mp H
   obtain ⟨⟨t183, t186⟩, A240, H⟩ := H
   replace H : ((wireloomref05_Alike.f k t183 t186 (([1, 0, 0, 2] : List Int)) 0).bind fun t190 => (if t190 = true then ((digraph_Reach.f 4 y161 2).bind fun t191 => ((wireloomref05_Same.f k t191 (([0, 2, 3] : List Int))).bind fun t197 => (if t197 = true then ((wireloomlaw05_cycle.f 4 y161).bind fun bt198 => (wireloomlaw05_examples.j0 k (bt198.2 != 4) 4 y161 t165 t166 t170 t171)) else (wireloomlaw05_examples.j0 k true 4 y161 t165 t166 t170 t171)))) else (none))) = some r := H
   have A24 := Aside0.mk A240
   clear A240
   obtain ⟨y187, hy187⟩ : ∃ y_ : List Int, y_ = (([1, 0, 0, 2] : List Int)) := ⟨_, rfl⟩
   replace H : ((wireloomref05_Alike.f k t183 t186 y187 0).bind fun t190 => (if t190 = true then ((digraph_Reach.f 4 y161 2).bind fun t191 => ((wireloomref05_Same.f k t191 (([0, 2, 3] : List Int))).bind fun t197 => (if t197 = true then ((wireloomlaw05_cycle.f 4 y161).bind fun bt198 => (wireloomlaw05_examples.j0 k (bt198.2 != 4) 4 y161 t165 t166 t170 t171)) else (wireloomlaw05_examples.j0 k true 4 y161 t165 t166 t170 t171)))) else (none))) = some r := by first | (rw [hy187]; with_reducible exact H) | (have H2_ := (Option.bind_some _ _).symm.trans H; rw [hy187]; with_reducible exact H2_) | (have H2_ := (Option.bind_some _ _).symm.trans H; with_reducible exact H2_) | with_reducible exact H | (rw [hy187]; exact H) | exact H
   have Ny187 := Aside0.mk hy187
   clear hy187
   replace H := Option.bind_eq_some_iff.mp H
   obtain ⟨t190, A250, H⟩ := H
   replace H : (if t190 = true then ((digraph_Reach.f 4 y161 2).bind fun t191 => ((wireloomref05_Same.f k t191 (([0, 2, 3] : List Int))).bind fun t197 => (if t197 = true then ((wireloomlaw05_cycle.f 4 y161).bind fun bt198 => (wireloomlaw05_examples.j0 k (bt198.2 != 4) 4 y161 t165 t166 t170 t171)) else (wireloomlaw05_examples.j0 k true 4 y161 t165 t166 t170 t171)))) else (none)) = some r := H
   have A25 := Aside0.mk A250
   clear A250
   by_cases c26 : t190 = true
   ·subst c26
    have H1 : ((digraph_Reach.f 4 y161 2).bind fun t191 => ((wireloomref05_Same.f k t191 (([0, 2, 3] : List Int))).bind fun t197 => (if t197 = true then ((wireloomlaw05_cycle.f 4 y161).bind fun bt198 => (wireloomlaw05_examples.j0 k (bt198.2 != 4) 4 y161 t165 t166 t170 t171)) else (wireloomlaw05_examples.j0 k true 4 y161 t165 t166 t170 t171)))) = some r := by rw [if_pos rfl] at H; exact H
    clear H
    have H := H1
    clear H1
    replace H := Option.bind_eq_some_iff.mp H
    obtain ⟨t191, A270, H⟩ := H
    replace H : ((wireloomref05_Same.f k t191 (([0, 2, 3] : List Int))).bind fun t197 => (if t197 = true then ((wireloomlaw05_cycle.f 4 y161).bind fun bt198 => (wireloomlaw05_examples.j0 k (bt198.2 != 4) 4 y161 t165 t166 t170 t171)) else (wireloomlaw05_examples.j0 k true 4 y161 t165 t166 t170 t171))) = some r := H
    have A27 := Aside0.mk A270
    clear A270
    obtain ⟨y194, hy194⟩ : ∃ y_ : List Int, y_ = (([0, 2, 3] : List Int)) := ⟨_, rfl⟩
    replace H : ((wireloomref05_Same.f k t191 y194).bind fun t197 => (if t197 = true then ((wireloomlaw05_cycle.f 4 y161).bind fun bt198 => (wireloomlaw05_examples.j0 k (bt198.2 != 4) 4 y161 t165 t166 t170 t171)) else (wireloomlaw05_examples.j0 k true 4 y161 t165 t166 t170 t171))) = some r := by first | (rw [hy194]; with_reducible exact H) | (have H2_ := (Option.bind_some _ _).symm.trans H; rw [hy194]; with_reducible exact H2_) | (have H2_ := (Option.bind_some _ _).symm.trans H; with_reducible exact H2_) | with_reducible exact H | (rw [hy194]; exact H) | exact H
    have Ny194 := Aside0.mk hy194
    clear hy194
    replace H := Option.bind_eq_some_iff.mp H
    obtain ⟨t197, A280, H⟩ := H
    replace H : (if t197 = true then ((wireloomlaw05_cycle.f 4 y161).bind fun bt198 => (wireloomlaw05_examples.j0 k (bt198.2 != 4) 4 y161 t165 t166 t170 t171)) else (wireloomlaw05_examples.j0 k true 4 y161 t165 t166 t170 t171)) = some r := H
    have A28 := Aside0.mk A280
    clear A280
    by_cases c29 : t197 = true
    ·subst c29
     have H1 : ((wireloomlaw05_cycle.f 4 y161).bind fun bt198 => (wireloomlaw05_examples.j0 k (bt198.2 != 4) 4 y161 t165 t166 t170 t171)) = some r := by rw [if_pos rfl] at H; exact H
     clear H
     have H := H1
     clear H1
     replace H := Option.bind_eq_some_iff.mp H
     obtain ⟨⟨t198, t201⟩, A300, H⟩ := H
     replace H : (wireloomlaw05_examples.j0 k (t201 != 4) 4 y161 t165 t166 t170 t171) = some r := H
     have A30 := Aside0.mk A300
     clear A300
     have H' := Aside0.mk H
     clear H
     have hnb31 := NB164_169.out
     have hnc31 := NB169_164.out
     have hnb32 := NB164_174.out
     have hnc32 := NB174_164.out
     have hcz33_0 : w16.cell? ⟨gb164, 0, none⟩ = some (.int .i64 4) := (blk_cell BK164.out 0).trans rfl
     have hcz33_1 : w16.cell? ⟨gb164, 1, none⟩ = some (.slice Ao6 y161.length co6) := (blk_cell BK164.out 1).trans rfl
     have hfz33_0 := blk_frozen BK164.out 0
     have hfz33_1 := blk_frozen BK164.out 1
     go_wp2_with (first | ((with_reducible refine gate_callee (f := 15) rfl ?_); refine goesL_ (some 14) rfl rfl Try.func15 (by kernel_rfl) rfl #[.agg #[.int .i64 4, .slice Ao6 y161.length co6]] rfl (by (try simp only [List.map_toArray, List.map_cons, List.map_nil]); first | done | rfl | (simp only [List.length_drop, List.length_take]; rfl)) ?_; (with_reducible refine (wireloomlaw05_order.calls 4 _ _ y161 t175 t178 _ ?side1 ?side2 A21.out).mono ?_); (case side1 => refine (Kd.R_reads' (e := 55) (base := w.heap.size) (ok := fun k_ => ((True ∧ some k_ ≠ (.slice Ao13 t166.length co13 : Value).ownBlock) ∧ some k_ ≠ (.slice Ao20 t171.length co20 : Value).ownBlock)) (n := y161.length) (c := co6) ?_).2.2; exact (by (with_reducible repeat (first | apply Kd.R_alloc | apply Kd.R_drewN | apply Kd.R_drew)); exact (Kd.R_mono (Kd.R_far (p := ⟨gb174, 1, none⟩) (Kd.R_far (p := ⟨gb174, 0, none⟩) (Kd.R_types HO163.out BK174.out (by decide)) (fun _ hk => hk.2) (.int .i64 t170)) (fun _ hk => hk.2) (.slice Ao20 t171.length co20)) (fun _ h_ => h_.1)))); (case side2 => exact (Kd.R_reads' HO163.out).2.1); rintro e w34 ⟨v176, rfl, ho0, hb⟩; refine ⟨_, rfl, ?_⟩; have n0_ := Aside0.mk (Kd.R_below (by (with_reducible repeat (first | apply Kd.R_alloc | apply Kd.R_drewN | apply Kd.R_drew)); exact (Kd.R_mono (Kd.R_far (p := ⟨gb174, 1, none⟩) (Kd.R_far (p := ⟨gb174, 0, none⟩) (Kd.R_types HO163.out BK174.out (by decide)) (fun _ hk => hk.2) (.int .i64 t170)) (fun _ hk => hk.2) (.slice Ao20 t171.length co20)) (fun _ h_ => h_.1))) hb); have n1_ := Aside0.mk (Kd.R_below (by (with_reducible repeat (first | apply Kd.R_alloc | apply Kd.R_drewN | apply Kd.R_drew)); exact (Kd.R_mono (Kd.R_far (p := ⟨gb174, 1, none⟩) (Kd.R_far (p := ⟨gb174, 0, none⟩) (Kd.R_types HO168.out BK174.out (by decide)) (fun _ hk => hk.2) (.int .i64 t170)) (fun _ hk => hk.2) (.slice Ao20 t171.length co20)) (fun _ h_ => h_.1))) hb); have n2_ := Aside0.mk (Kd.R_below (by (with_reducible repeat (first | apply Kd.R_alloc | apply Kd.R_drewN | apply Kd.R_drew)); exact (Kd.R_mono (Kd.R_far (p := ⟨gb174, 1, none⟩) (Kd.R_far (p := ⟨gb174, 0, none⟩) (Kd.R_types HO173.out BK174.out (by decide)) (fun _ hk => hk.2) (.int .i64 t170)) (fun _ hk => hk.2) (.slice Ao20 t171.length co20)) (fun _ h_ => h_.1))) hb); have n3_ := Aside0.mk (Kd.R_lower ho0 (below_size (by repeat (first | (with_reducible first | exact HB.out | apply below_alloc | apply pw_below_drewN | apply below_drew1 | refine below_set ?_ GE164.out | refine below_set ?_ GE169.out | refine below_set ?_ GE174.out) | exact HB.out)))); have n4_ := Aside0.mk (blk_below (g := gb164) (o := .cells #[.int .i64 4, .slice Ao6 y161.length co6] 31 (0, 0)) (by (with_reducible repeat (first | refine blk_drewN ?_ _ | refine blk_drew ?_ | refine blk_alloc ?_ _)); refine blk_far ?_ NB164_174.out _; (with_reducible repeat (first | refine blk_drewN ?_ _ | refine blk_drew ?_ | refine blk_alloc ?_ _)); refine blk_far ?_ NB164_174.out _; (with_reducible repeat (first | refine blk_drewN ?_ _ | refine blk_drew ?_ | refine blk_alloc ?_ _)); exact BK164.out) hb); have n5_ := Aside0.mk (blk_below (g := gb169) (o := .cells #[.int .i64 t165, .slice Ao13 t166.length co13] 31 (0, 0)) (by (with_reducible repeat (first | refine blk_drewN ?_ _ | refine blk_drew ?_ | refine blk_alloc ?_ _)); refine blk_far ?_ NB169_174.out _; (with_reducible repeat (first | refine blk_drewN ?_ _ | refine blk_drew ?_ | refine blk_alloc ?_ _)); refine blk_far ?_ NB169_174.out _; (with_reducible repeat (first | refine blk_drewN ?_ _ | refine blk_drew ?_ | refine blk_alloc ?_ _)); exact BK169.out) hb); have n6_ := Aside0.mk (blk_below (g := gb174) (o := .cells #[.int .i64 t170, .slice Ao20 t171.length co20] 31 (0, 0)) (by (with_reducible repeat (first | refine blk_drewN ?_ _ | refine blk_drew ?_ | refine blk_alloc ?_ _)); refine blk_put (cs := #[.int .i64 t170, .slice none 0 0]) ?_ 1 _ rfl; (with_reducible repeat (first | refine blk_drewN ?_ _ | refine blk_drew ?_ | refine blk_alloc ?_ _)); refine blk_put (cs := #[.int .i64 0, .slice none 0 0]) ?_ 0 _ rfl; (with_reducible repeat (first | refine blk_drewN ?_ _ | refine blk_drew ?_ | refine blk_alloc ?_ _)); exact BK174.out) hb); have n7_ := Aside0.mk (below_step (by repeat (first | (with_reducible first | exact HB.out | apply below_alloc | apply pw_below_drewN | apply below_drew1 | refine below_set ?_ GE164.out | refine below_set ?_ GE169.out | refine below_set ?_ GE174.out) | exact HB.out)) hb); clear HO163; clear HO168; clear HO173; clear BK164; clear BK169; clear BK174; clear HB; have HO163 := n0_; have HO168 := n1_; have HO173 := n2_; have HO177 := n3_; have BK164 := n4_; have BK169 := n5_; have BK174 := n6_; have HB := n7_; clear n0_ n1_ n2_ n3_ n4_ n5_ n6_ n7_; (try clear hb); (try clear hb2); (try clear hk); (try clear hi); (try clear ho0)) | ((with_reducible refine gate_dst (N := 15) rfl ?_); (try (refine gate_guard (by rfl) ?_; dsimp only)); refine Kd.R_lit (Kd.int .i64) _ 3 ?hg (N := 15) ?hd (xs := ([1, 2, 0, 3] : List Int)) (inner := [.int .i64 1, .int .i64 2, .int .i64 0, .int .i64 3]) (ok := fun _ => True) (okp := fun _ => True) ?hr ?hp (fun _ hk => hk) trivial (Below.refl _ _) (Nat.le_refl _) (by simp) ?_; (case hd => rfl); (case hg => rfl); (case hr => first | (go_simp; done) | (go_simp; rfl)); (case hp => exact (Reps.one (show Kd.M (Kd.int .i64) _ _ _ 1 [.int .i64 1] from rfl) (Reps.one (show Kd.M (Kd.int .i64) _ _ _ 2 [.int .i64 2] from rfl) (Reps.one (show Kd.M (Kd.int .i64) _ _ _ 0 [.int .i64 0] from rfl) (Reps.one (show Kd.M (Kd.int .i64) _ _ _ 3 [.int .i64 3] from rfl) (Reps.none _ _)))))); intro v180 w35 ho36 hb hg_ hnew_; clear hg_ hnew_; (first | rw [← Ny179.out] at ho36 | (simp only [Int.reduceToNat] at ho36; rw [← Ny179.out] at ho36)); have n0_ := Aside0.mk (Kd.R_below (rA HO163.out) hb); have n1_ := Aside0.mk (Kd.R_below (rA HO168.out) hb); have n2_ := Aside0.mk (Kd.R_below (rA HO173.out) hb); have n3_ := Aside0.mk (Kd.R_elder' (rA HO177.out) (Kd.R_base ho36) hb); have n4_ := Aside0.mk (Kd.R_lower (Kd.R_new' ho36 (Kd.R_lt (rA HO177.out))) (below_size (by repeat (first | (with_reducible first | exact HB.out | apply below_alloc | apply pw_below_drewN | apply below_drew1 | refine below_set ?_ GE164.out | refine below_set ?_ GE169.out | refine below_set ?_ GE174.out) | exact HB.out)))); have n5_ := Aside0.mk (blk_below (g := gb164) (o := .cells #[.int .i64 4, .slice Ao6 y161.length co6] 31 (0, 0)) (bA BK164.out) hb); have n6_ := Aside0.mk (blk_below (g := gb169) (o := .cells #[.int .i64 t165, .slice Ao13 t166.length co13] 31 (0, 0)) (bA BK169.out) hb); have n7_ := Aside0.mk (blk_below (g := gb174) (o := .cells #[.int .i64 t170, .slice Ao20 t171.length co20] 31 (0, 0)) (bA BK174.out) hb); have n8_ := Aside0.mk (below_step (by repeat (first | (with_reducible first | exact HB.out | apply below_alloc | apply pw_below_drewN | apply below_drew1 | refine below_set ?_ GE164.out | refine below_set ?_ GE169.out | refine below_set ?_ GE174.out) | exact HB.out)) hb); clear HO163; clear HO168; clear HO173; clear HO177; clear BK164; clear BK169; clear BK174; clear HB; have HO163 := n0_; have HO168 := n1_; have HO173 := n2_; have HO177 := n3_; have HO181 := n4_; have BK164 := n5_; have BK169 := n6_; have BK174 := n7_; have HB := n8_; clear n0_ n1_ n2_ n3_ n4_ n5_ n6_ n7_ n8_; clear hb ho36; obtain ⟨Ao37, co37, eo37⟩ := Kd.R_slice HO181.out; subst eo37; obtain ⟨Ao38, co38, eo38⟩ := Kd.R_slice HO177.out; subst eo38) | ((with_reducible refine gate_callee (f := 14) rfl ?_); refine goesL_ (some 17) rfl rfl Try.func14 (by kernel_rfl) rfl #[.agg #[.slice Ao38 t175.length co38, .int .i64 t178], .agg #[.slice Ao37 y179.length co37, .int .i64 0]] rfl (by (try simp only [List.map_toArray, List.map_cons, List.map_nil]); first | done | rfl | (simp only [List.length_drop, List.length_take]; rfl)) ?_; (with_reducible refine (wireloomref05_Alike.calls k _ _ t175 t178 _ _ y179 0 true _ ?side1 ?side2 ?side3 ?side4 A22.out).mono ?_); (case side1 => repeat (first | exact (Kd.R_reads' HO177.out).2.2 | (with_reducible refine Kd.C_alloc ?_ _) | (with_reducible refine Kd.C_drewN ?_ _) | (with_reducible refine Kd.C_drew ?_))); (case side2 => exact (Kd.R_reads' HO177.out).2.1); (case side3 => repeat (first | exact (Kd.R_reads' HO181.out).2.2 | (with_reducible refine Kd.C_alloc ?_ _) | (with_reducible refine Kd.C_drewN ?_ _) | (with_reducible refine Kd.C_drew ?_))); (case side4 => exact (Kd.R_reads' HO181.out).2.1); rintro e w39 ⟨rfl, hb⟩; refine ⟨_, rfl, ?_⟩; have n0_ := Aside0.mk (Kd.R_below (rA HO163.out) hb); have n1_ := Aside0.mk (Kd.R_below (rA HO168.out) hb); have n2_ := Aside0.mk (Kd.R_below (rA HO173.out) hb); have n3_ := Aside0.mk (Kd.R_below (rA HO177.out) hb); have n4_ := Aside0.mk (Kd.R_below (rA HO181.out) hb); have n5_ := Aside0.mk (blk_below (g := gb164) (o := .cells #[.int .i64 4, .slice Ao6 y161.length co6] 31 (0, 0)) (bA BK164.out) hb); have n6_ := Aside0.mk (blk_below (g := gb169) (o := .cells #[.int .i64 t165, .slice Ao13 t166.length co13] 31 (0, 0)) (bA BK169.out) hb); have n7_ := Aside0.mk (blk_below (g := gb174) (o := .cells #[.int .i64 t170, .slice Ao20 t171.length co20] 31 (0, 0)) (bA BK174.out) hb); have n8_ := Aside0.mk (below_step (by repeat (first | (with_reducible first | exact HB.out | apply below_alloc | apply pw_below_drewN | apply below_drew1 | refine below_set ?_ GE164.out | refine below_set ?_ GE169.out | refine below_set ?_ GE174.out) | exact HB.out)) hb); clear HO163; clear HO168; clear HO173; clear HO177; clear HO181; clear BK164; clear BK169; clear BK174; clear HB; have HO163 := n0_; have HO168 := n1_; have HO173 := n2_; have HO177 := n3_; have HO181 := n4_; have BK164 := n5_; have BK169 := n6_; have BK174 := n7_; have HB := n8_; clear n0_ n1_ n2_ n3_ n4_ n5_ n6_ n7_ n8_; (try clear hb); (try clear hb2); (try clear hk); (try clear hi); have hcz40_0 : w39.cell? ⟨gb164, 0, none⟩ = some (.int .i64 4) := (blk_cell BK164.out 0).trans rfl; have hcz40_1 : w39.cell? ⟨gb164, 1, none⟩ = some (.slice Ao6 y161.length co6) := (blk_cell BK164.out 1).trans rfl; have hfz40_0 := blk_frozen BK164.out 0; have hfz40_1 := blk_frozen BK164.out 1) | (go_at_call 19; (with_reducible refine (wireloomlaw05_depth.calls 4 _ _ y161 t183 t186 _ ?side1 ?side2 A24.out).mono ?_); (case side1 => repeat (first | exact (Kd.R_reads' HO163.out).2.2 | (with_reducible refine Kd.C_alloc ?_ _) | (with_reducible refine Kd.C_drewN ?_ _) | (with_reducible refine Kd.C_drew ?_))); (case side2 => exact (Kd.R_reads' HO163.out).2.1); rintro e w41 ⟨v184, rfl, ho0, hb⟩; have n0_ := Aside0.mk (Kd.R_below (rA HO163.out) hb); have n1_ := Aside0.mk (Kd.R_below (rA HO168.out) hb); have n2_ := Aside0.mk (Kd.R_below (rA HO173.out) hb); have n3_ := Aside0.mk (Kd.R_elder' (rA HO177.out) (Kd.R_base ho0) hb); have n4_ := Aside0.mk (Kd.R_elder' (rA HO181.out) (Kd.R_base ho0) hb); have n5_ := Aside0.mk (Kd.R_lower (Kd.R_new' (Kd.R_new' ho0 (Kd.R_lt (rA HO177.out))) (Kd.R_lt (rA HO181.out))) (below_size (by repeat (first | (with_reducible first | exact HB.out | apply below_alloc | apply pw_below_drewN | apply below_drew1 | refine below_set ?_ GE164.out | refine below_set ?_ GE169.out | refine below_set ?_ GE174.out) | exact HB.out)))); have n6_ := Aside0.mk (blk_below (g := gb164) (o := .cells #[.int .i64 4, .slice Ao6 y161.length co6] 31 (0, 0)) (bA BK164.out) hb); have n7_ := Aside0.mk (blk_below (g := gb169) (o := .cells #[.int .i64 t165, .slice Ao13 t166.length co13] 31 (0, 0)) (bA BK169.out) hb); have n8_ := Aside0.mk (blk_below (g := gb174) (o := .cells #[.int .i64 t170, .slice Ao20 t171.length co20] 31 (0, 0)) (bA BK174.out) hb); have n9_ := Aside0.mk (below_step (by repeat (first | (with_reducible first | exact HB.out | apply below_alloc | apply pw_below_drewN | apply below_drew1 | refine below_set ?_ GE164.out | refine below_set ?_ GE169.out | refine below_set ?_ GE174.out) | exact HB.out)) hb); clear HO163; clear HO168; clear HO173; clear HO177; clear HO181; clear BK164; clear BK169; clear BK174; clear HB; have HO163 := n0_; have HO168 := n1_; have HO173 := n2_; have HO177 := n3_; have HO181 := n4_; have HO185 := n5_; have BK164 := n6_; have BK169 := n7_; have BK174 := n8_; have HB := n9_; clear n0_ n1_ n2_ n3_ n4_ n5_ n6_ n7_ n8_ n9_; (try clear hb); (try clear hb2); (try clear hk); (try clear hi); (try clear ho0)) | ((with_reducible refine gate_dst (N := 22) rfl ?_); (try (refine gate_guard (by rfl) ?_; dsimp only)); refine Kd.R_lit (Kd.int .i64) _ 3 ?hg (N := 22) ?hd (xs := ([1, 0, 0, 2] : List Int)) (inner := [.int .i64 1, .int .i64 0, .int .i64 0, .int .i64 2]) (ok := fun _ => True) (okp := fun _ => True) ?hr ?hp (fun _ hk => hk) trivial (Below.refl _ _) (Nat.le_refl _) (by simp) ?_; (case hd => rfl); (case hg => rfl); (case hr => first | (go_simp; done) | (go_simp; rfl)); (case hp => exact (Reps.one (show Kd.M (Kd.int .i64) _ _ _ 1 [.int .i64 1] from rfl) (Reps.one (show Kd.M (Kd.int .i64) _ _ _ 0 [.int .i64 0] from rfl) (Reps.one (show Kd.M (Kd.int .i64) _ _ _ 0 [.int .i64 0] from rfl) (Reps.one (show Kd.M (Kd.int .i64) _ _ _ 2 [.int .i64 2] from rfl) (Reps.none _ _)))))); intro v188 w42 ho43 hb hg_ hnew_; clear hg_ hnew_; (first | rw [← Ny187.out] at ho43 | (simp only [Int.reduceToNat] at ho43; rw [← Ny187.out] at ho43)); have n0_ := Aside0.mk (Kd.R_below (rA HO163.out) hb); have n1_ := Aside0.mk (Kd.R_below (rA HO168.out) hb); have n2_ := Aside0.mk (Kd.R_below (rA HO173.out) hb); have n3_ := Aside0.mk (Kd.R_elder' (rA HO177.out) (Kd.R_base ho43) hb); have n4_ := Aside0.mk (Kd.R_elder' (rA HO181.out) (Kd.R_base ho43) hb); have n5_ := Aside0.mk (Kd.R_elder' (rA HO185.out) (Kd.R_base ho43) hb); have n6_ := Aside0.mk (Kd.R_lower (Kd.R_new' (Kd.R_new' (Kd.R_new' ho43 (Kd.R_lt (rA HO177.out))) (Kd.R_lt (rA HO181.out))) (Kd.R_lt (rA HO185.out))) (below_size (by repeat (first | (with_reducible first | exact HB.out | apply below_alloc | apply pw_below_drewN | apply below_drew1 | refine below_set ?_ GE164.out | refine below_set ?_ GE169.out | refine below_set ?_ GE174.out) | exact HB.out)))); have n7_ := Aside0.mk (blk_below (g := gb164) (o := .cells #[.int .i64 4, .slice Ao6 y161.length co6] 31 (0, 0)) (bA BK164.out) hb); have n8_ := Aside0.mk (blk_below (g := gb169) (o := .cells #[.int .i64 t165, .slice Ao13 t166.length co13] 31 (0, 0)) (bA BK169.out) hb); have n9_ := Aside0.mk (blk_below (g := gb174) (o := .cells #[.int .i64 t170, .slice Ao20 t171.length co20] 31 (0, 0)) (bA BK174.out) hb); have n10_ := Aside0.mk (below_step (by repeat (first | (with_reducible first | exact HB.out | apply below_alloc | apply pw_below_drewN | apply below_drew1 | refine below_set ?_ GE164.out | refine below_set ?_ GE169.out | refine below_set ?_ GE174.out) | exact HB.out)) hb); clear HO163; clear HO168; clear HO173; clear HO177; clear HO181; clear HO185; clear BK164; clear BK169; clear BK174; clear HB; have HO163 := n0_; have HO168 := n1_; have HO173 := n2_; have HO177 := n3_; have HO181 := n4_; have HO185 := n5_; have HO189 := n6_; have BK164 := n7_; have BK169 := n8_; have BK174 := n9_; have HB := n10_; clear n0_ n1_ n2_ n3_ n4_ n5_ n6_ n7_ n8_ n9_ n10_; clear hb ho43; obtain ⟨Ao44, co44, eo44⟩ := Kd.R_slice HO189.out; subst eo44; obtain ⟨Ao45, co45, eo45⟩ := Kd.R_slice HO185.out; subst eo45) | (go_at_call 14; (with_reducible refine (wireloomref05_Alike.calls k _ _ t183 t186 _ _ y187 0 true _ ?side1 ?side2 ?side3 ?side4 A25.out).mono ?_); (case side1 => repeat (first | exact (Kd.R_reads' HO185.out).2.2 | (with_reducible refine Kd.C_alloc ?_ _) | (with_reducible refine Kd.C_drewN ?_ _) | (with_reducible refine Kd.C_drew ?_))); (case side2 => exact (Kd.R_reads' HO185.out).2.1); (case side3 => repeat (first | exact (Kd.R_reads' HO189.out).2.2 | (with_reducible refine Kd.C_alloc ?_ _) | (with_reducible refine Kd.C_drewN ?_ _) | (with_reducible refine Kd.C_drew ?_))); (case side4 => exact (Kd.R_reads' HO189.out).2.1); rintro e w46 ⟨rfl, hb⟩; have n0_ := Aside0.mk (Kd.R_below (rA HO163.out) hb); have n1_ := Aside0.mk (Kd.R_below (rA HO168.out) hb); have n2_ := Aside0.mk (Kd.R_below (rA HO173.out) hb); have n3_ := Aside0.mk (Kd.R_below (rA HO177.out) hb); have n4_ := Aside0.mk (Kd.R_below (rA HO181.out) hb); have n5_ := Aside0.mk (Kd.R_below (rA HO185.out) hb); have n6_ := Aside0.mk (Kd.R_below (rA HO189.out) hb); have n7_ := Aside0.mk (blk_below (g := gb164) (o := .cells #[.int .i64 4, .slice Ao6 y161.length co6] 31 (0, 0)) (bA BK164.out) hb); have n8_ := Aside0.mk (blk_below (g := gb169) (o := .cells #[.int .i64 t165, .slice Ao13 t166.length co13] 31 (0, 0)) (bA BK169.out) hb); have n9_ := Aside0.mk (blk_below (g := gb174) (o := .cells #[.int .i64 t170, .slice Ao20 t171.length co20] 31 (0, 0)) (bA BK174.out) hb); have n10_ := Aside0.mk (below_step (by repeat (first | (with_reducible first | exact HB.out | apply below_alloc | apply pw_below_drewN | apply below_drew1 | refine below_set ?_ GE164.out | refine below_set ?_ GE169.out | refine below_set ?_ GE174.out) | exact HB.out)) hb); clear HO163; clear HO168; clear HO173; clear HO177; clear HO181; clear HO185; clear HO189; clear BK164; clear BK169; clear BK174; clear HB; have HO163 := n0_; have HO168 := n1_; have HO173 := n2_; have HO177 := n3_; have HO181 := n4_; have HO185 := n5_; have HO189 := n6_; have BK164 := n7_; have BK169 := n8_; have BK174 := n9_; have HB := n10_; clear n0_ n1_ n2_ n3_ n4_ n5_ n6_ n7_ n8_ n9_ n10_; (try clear hb); (try clear hb2); (try clear hk); (try clear hi); have hcz47_0 : w46.cell? ⟨gb164, 0, none⟩ = some (.int .i64 4) := (blk_cell BK164.out 0).trans rfl; have hcz47_1 : w46.cell? ⟨gb164, 1, none⟩ = some (.slice Ao6 y161.length co6) := (blk_cell BK164.out 1).trans rfl; have hfz47_0 := blk_frozen BK164.out 0; have hfz47_1 := blk_frozen BK164.out 1) | (go_at_call 24; (with_reducible refine (digraph_Reach.calls 4 _ _ y161 2 t191 _ ?side1 ?side2 A27.out).mono ?_); (case side1 => repeat (first | exact (Kd.R_reads' HO163.out).2.2 | (with_reducible refine Kd.C_alloc ?_ _) | (with_reducible refine Kd.C_drewN ?_ _) | (with_reducible refine Kd.C_drew ?_))); (case side2 => exact (Kd.R_reads' HO163.out).2.1); rintro e w48 ⟨v192, rfl, ho0, hb⟩; have n0_ := Aside0.mk (Kd.R_below (rA HO163.out) hb); have n1_ := Aside0.mk (Kd.R_below (rA HO168.out) hb); have n2_ := Aside0.mk (Kd.R_below (rA HO173.out) hb); have n3_ := Aside0.mk (Kd.R_elder' (rA HO177.out) (Kd.R_base ho0) hb); have n4_ := Aside0.mk (Kd.R_elder' (rA HO181.out) (Kd.R_base ho0) hb); have n5_ := Aside0.mk (Kd.R_elder' (rA HO185.out) (Kd.R_base ho0) hb); have n6_ := Aside0.mk (Kd.R_elder' (rA HO189.out) (Kd.R_base ho0) hb); have n7_ := Aside0.mk (Kd.R_lower (Kd.R_new' (Kd.R_new' (Kd.R_new' (Kd.R_new' ho0 (Kd.R_lt (rA HO177.out))) (Kd.R_lt (rA HO181.out))) (Kd.R_lt (rA HO185.out))) (Kd.R_lt (rA HO189.out))) (below_size (by repeat (first | (with_reducible first | exact HB.out | apply below_alloc | apply pw_below_drewN | apply below_drew1 | refine below_set ?_ GE164.out | refine below_set ?_ GE169.out | refine below_set ?_ GE174.out) | exact HB.out)))); have n8_ := Aside0.mk (blk_below (g := gb164) (o := .cells #[.int .i64 4, .slice Ao6 y161.length co6] 31 (0, 0)) (bA BK164.out) hb); have n9_ := Aside0.mk (blk_below (g := gb169) (o := .cells #[.int .i64 t165, .slice Ao13 t166.length co13] 31 (0, 0)) (bA BK169.out) hb); have n10_ := Aside0.mk (blk_below (g := gb174) (o := .cells #[.int .i64 t170, .slice Ao20 t171.length co20] 31 (0, 0)) (bA BK174.out) hb); have n11_ := Aside0.mk (below_step (by repeat (first | (with_reducible first | exact HB.out | apply below_alloc | apply pw_below_drewN | apply below_drew1 | refine below_set ?_ GE164.out | refine below_set ?_ GE169.out | refine below_set ?_ GE174.out) | exact HB.out)) hb); clear HO163; clear HO168; clear HO173; clear HO177; clear HO181; clear HO185; clear HO189; clear BK164; clear BK169; clear BK174; clear HB; have HO163 := n0_; have HO168 := n1_; have HO173 := n2_; have HO177 := n3_; have HO181 := n4_; have HO185 := n5_; have HO189 := n6_; have HO193 := n7_; have BK164 := n8_; have BK169 := n9_; have BK174 := n10_; have HB := n11_; clear n0_ n1_ n2_ n3_ n4_ n5_ n6_ n7_ n8_ n9_ n10_ n11_; (try clear hb); (try clear hb2); (try clear hk); (try clear hi); (try clear ho0)) | ((with_reducible refine gate_dst (N := 31) rfl ?_); (try (refine gate_guard (by rfl) ?_; dsimp only)); refine Kd.R_lit (Kd.int .i64) _ 3 ?hg (N := 31) ?hd (xs := ([0, 2, 3] : List Int)) (inner := [.int .i64 0, .int .i64 2, .int .i64 3]) (ok := fun _ => True) (okp := fun _ => True) ?hr ?hp (fun _ hk => hk) trivial (Below.refl _ _) (Nat.le_refl _) (by simp) ?_; (case hd => rfl); (case hg => rfl); (case hr => first | (go_simp; done) | (go_simp; rfl)); (case hp => exact (Reps.one (show Kd.M (Kd.int .i64) _ _ _ 0 [.int .i64 0] from rfl) (Reps.one (show Kd.M (Kd.int .i64) _ _ _ 2 [.int .i64 2] from rfl) (Reps.one (show Kd.M (Kd.int .i64) _ _ _ 3 [.int .i64 3] from rfl) (Reps.none _ _))))); intro v195 w49 ho50 hb hg_ hnew_; clear hg_ hnew_; (first | rw [← Ny194.out] at ho50 | (simp only [Int.reduceToNat] at ho50; rw [← Ny194.out] at ho50)); have n0_ := Aside0.mk (Kd.R_below (rA HO163.out) hb); have n1_ := Aside0.mk (Kd.R_below (rA HO168.out) hb); have n2_ := Aside0.mk (Kd.R_below (rA HO173.out) hb); have n3_ := Aside0.mk (Kd.R_elder' (rA HO177.out) (Kd.R_base ho50) hb); have n4_ := Aside0.mk (Kd.R_elder' (rA HO181.out) (Kd.R_base ho50) hb); have n5_ := Aside0.mk (Kd.R_elder' (rA HO185.out) (Kd.R_base ho50) hb); have n6_ := Aside0.mk (Kd.R_elder' (rA HO189.out) (Kd.R_base ho50) hb); have n7_ := Aside0.mk (Kd.R_elder' (rA HO193.out) (Kd.R_base ho50) hb); have n8_ := Aside0.mk (Kd.R_lower (Kd.R_new' (Kd.R_new' (Kd.R_new' (Kd.R_new' (Kd.R_new' ho50 (Kd.R_lt (rA HO177.out))) (Kd.R_lt (rA HO181.out))) (Kd.R_lt (rA HO185.out))) (Kd.R_lt (rA HO189.out))) (Kd.R_lt (rA HO193.out))) (below_size (by repeat (first | (with_reducible first | exact HB.out | apply below_alloc | apply pw_below_drewN | apply below_drew1 | refine below_set ?_ GE164.out | refine below_set ?_ GE169.out | refine below_set ?_ GE174.out) | exact HB.out)))); have n9_ := Aside0.mk (blk_below (g := gb164) (o := .cells #[.int .i64 4, .slice Ao6 y161.length co6] 31 (0, 0)) (bA BK164.out) hb); have n10_ := Aside0.mk (blk_below (g := gb169) (o := .cells #[.int .i64 t165, .slice Ao13 t166.length co13] 31 (0, 0)) (bA BK169.out) hb); have n11_ := Aside0.mk (blk_below (g := gb174) (o := .cells #[.int .i64 t170, .slice Ao20 t171.length co20] 31 (0, 0)) (bA BK174.out) hb); have n12_ := Aside0.mk (below_step (by repeat (first | (with_reducible first | exact HB.out | apply below_alloc | apply pw_below_drewN | apply below_drew1 | refine below_set ?_ GE164.out | refine below_set ?_ GE169.out | refine below_set ?_ GE174.out) | exact HB.out)) hb); clear HO163; clear HO168; clear HO173; clear HO177; clear HO181; clear HO185; clear HO189; clear HO193; clear BK164; clear BK169; clear BK174; clear HB; have HO163 := n0_; have HO168 := n1_; have HO173 := n2_; have HO177 := n3_; have HO181 := n4_; have HO185 := n5_; have HO189 := n6_; have HO193 := n7_; have HO196 := n8_; have BK164 := n9_; have BK169 := n10_; have BK174 := n11_; have HB := n12_; clear n0_ n1_ n2_ n3_ n4_ n5_ n6_ n7_ n8_ n9_ n10_ n11_ n12_; clear hb ho50; obtain ⟨Ao51, co51, eo51⟩ := Kd.R_slice HO193.out; subst eo51; obtain ⟨Ao52, co52, eo52⟩ := Kd.R_slice HO196.out; subst eo52) | (go_at_call 23; (with_reducible refine (wireloomref05_Same.calls k _ _ t191 _ _ y194 true _ ?side1 ?side2 ?side3 ?side4 A28.out).mono ?_); (case side1 => repeat (first | exact (Kd.R_reads' HO193.out).2.2 | (with_reducible refine Kd.C_alloc ?_ _) | (with_reducible refine Kd.C_drewN ?_ _) | (with_reducible refine Kd.C_drew ?_))); (case side2 => exact (Kd.R_reads' HO193.out).2.1); (case side3 => repeat (first | exact (Kd.R_reads' HO196.out).2.2 | (with_reducible refine Kd.C_alloc ?_ _) | (with_reducible refine Kd.C_drewN ?_ _) | (with_reducible refine Kd.C_drew ?_))); (case side4 => exact (Kd.R_reads' HO196.out).2.1); rintro e w' ⟨rfl, ⟨nd, rfl⟩⟩; have hcz53_0 : w49.cell? ⟨gb164, 0, none⟩ = some (.int .i64 4) := (blk_cell BK164.out 0).trans rfl; have hcz53_1 : w49.cell? ⟨gb164, 1, none⟩ = some (.slice Ao6 y161.length co6) := (blk_cell BK164.out 1).trans rfl; have hfz53_0 := blk_frozen BK164.out 0; have hfz53_1 := blk_frozen BK164.out 1) | (go_at_call 17; (with_reducible refine (wireloomlaw05_cycle.calls 4 _ _ y161 t198 t201 _ ?side1 ?side2 A30.out).mono ?_); (case side1 => repeat (first | exact (Kd.R_reads' HO163.out).2.2 | (with_reducible refine Kd.C_alloc ?_ _) | (with_reducible refine Kd.C_drewN ?_ _) | (with_reducible refine Kd.C_drew ?_))); (case side2 => exact (Kd.R_reads' HO163.out).2.1); rintro e w54 ⟨v199, rfl, ho0, hb⟩; have n0_ := Aside0.mk (Kd.R_below (rA HO163.out) hb); have n1_ := Aside0.mk (Kd.R_below (rA HO168.out) hb); have n2_ := Aside0.mk (Kd.R_below (rA HO173.out) hb); have n3_ := Aside0.mk (Kd.R_elder' (rA HO177.out) (Kd.R_base ho0) hb); have n4_ := Aside0.mk (Kd.R_elder' (rA HO181.out) (Kd.R_base ho0) hb); have n5_ := Aside0.mk (Kd.R_elder' (rA HO185.out) (Kd.R_base ho0) hb); have n6_ := Aside0.mk (Kd.R_elder' (rA HO189.out) (Kd.R_base ho0) hb); have n7_ := Aside0.mk (Kd.R_elder' (rA HO193.out) (Kd.R_base ho0) hb); have n8_ := Aside0.mk (Kd.R_elder' (rA HO196.out) (Kd.R_base ho0) hb); have n9_ := Aside0.mk (Kd.R_lower (Kd.R_new' (Kd.R_new' (Kd.R_new' (Kd.R_new' (Kd.R_new' (Kd.R_new' ho0 (Kd.R_lt (rA HO177.out))) (Kd.R_lt (rA HO181.out))) (Kd.R_lt (rA HO185.out))) (Kd.R_lt (rA HO189.out))) (Kd.R_lt (rA HO193.out))) (Kd.R_lt (rA HO196.out))) (below_size (by repeat (first | (with_reducible first | exact HB.out | apply below_alloc | apply pw_below_drewN | apply below_drew1 | refine below_set ?_ GE164.out | refine below_set ?_ GE169.out | refine below_set ?_ GE174.out) | exact HB.out)))); have n10_ := Aside0.mk (blk_below (g := gb164) (o := .cells #[.int .i64 4, .slice Ao6 y161.length co6] 31 (0, 0)) (bA BK164.out) hb); have n11_ := Aside0.mk (blk_below (g := gb169) (o := .cells #[.int .i64 t165, .slice Ao13 t166.length co13] 31 (0, 0)) (bA BK169.out) hb); have n12_ := Aside0.mk (blk_below (g := gb174) (o := .cells #[.int .i64 t170, .slice Ao20 t171.length co20] 31 (0, 0)) (bA BK174.out) hb); have n13_ := Aside0.mk (below_step (by repeat (first | (with_reducible first | exact HB.out | apply below_alloc | apply pw_below_drewN | apply below_drew1 | refine below_set ?_ GE164.out | refine below_set ?_ GE169.out | refine below_set ?_ GE174.out) | exact HB.out)) hb); clear HO163; clear HO168; clear HO173; clear HO177; clear HO181; clear HO185; clear HO189; clear HO193; clear HO196; clear BK164; clear BK169; clear BK174; clear HB; have HO163 := n0_; have HO168 := n1_; have HO173 := n2_; have HO177 := n3_; have HO181 := n4_; have HO185 := n5_; have HO189 := n6_; have HO193 := n7_; have HO196 := n8_; have HO200 := n9_; have BK164 := n10_; have BK169 := n11_; have BK174 := n12_; have HB := n13_; clear n0_ n1_ n2_ n3_ n4_ n5_ n6_ n7_ n8_ n9_ n10_ n11_ n12_ n13_; (try clear hb); (try clear hb2); (try clear hk); (try clear hi); (try clear ho0)))
     go_meet
     case rel => exact ⟨_, ((t201 != 4)), (by first | rfl | (simp; done) | (simp [*]; done)), H', ⟨by first | omega | exact Nat.le_refl _⟩, ⟨by (with_reducible repeat (first | apply Kd.R_alloc | apply Kd.R_drewN | apply Kd.R_drew)); exact Kd.R_mono HO163.out (fun _ hk => ⟨hk.1.2, hk.2⟩)⟩, ⟨by (with_reducible repeat (first | apply Kd.R_alloc | apply Kd.R_drewN | apply Kd.R_drew)); exact Kd.R_mono HO168.out (fun _ hk => ⟨hk.1.2, hk.2⟩)⟩, ⟨by (with_reducible repeat (first | apply Kd.R_alloc | apply Kd.R_drewN | apply Kd.R_drew)); exact Kd.R_mono HO173.out (fun _ hk => ⟨hk.1.2, hk.2⟩)⟩, ⟨bA BK164.out⟩, ⟨bA BK169.out⟩, ⟨bA BK174.out⟩, ⟨by repeat (first | (with_reducible first | exact HB.out | apply below_alloc | apply pw_below_drewN | apply below_drew1 | refine below_set ?_ GE164.out | refine below_set ?_ GE169.out | refine below_set ?_ GE174.out) | exact HB.out)⟩⟩
    ·replace c29 := Bool.eq_false_iff.mpr c29
     subst c29
     have H1 : (wireloomlaw05_examples.j0 k true 4 y161 t165 t166 t170 t171) = some r := by rw [if_neg (show ¬ (false = true) by decide)] at H; exact H
     clear H
     have H := H1
     clear H1
     have H' := Aside0.mk H
     clear H
     have hnb55 := NB164_169.out
     have hnc55 := NB169_164.out
     have hnb56 := NB164_174.out
     have hnc56 := NB174_164.out
     have hcz57_0 : w16.cell? ⟨gb164, 0, none⟩ = some (.int .i64 4) := (blk_cell BK164.out 0).trans rfl
     have hcz57_1 : w16.cell? ⟨gb164, 1, none⟩ = some (.slice Ao6 y161.length co6) := (blk_cell BK164.out 1).trans rfl
     have hfz57_0 := blk_frozen BK164.out 0
     have hfz57_1 := blk_frozen BK164.out 1
     go_wp2_with (first | ((with_reducible refine gate_callee (f := 15) rfl ?_); refine goesL_ (some 14) rfl rfl Try.func15 (by kernel_rfl) rfl #[.agg #[.int .i64 4, .slice Ao6 y161.length co6]] rfl (by (try simp only [List.map_toArray, List.map_cons, List.map_nil]); first | done | rfl | (simp only [List.length_drop, List.length_take]; rfl)) ?_; (with_reducible refine (wireloomlaw05_order.calls 4 _ _ y161 t175 t178 _ ?side1 ?side2 A21.out).mono ?_); (case side1 => refine (Kd.R_reads' (e := 55) (base := w.heap.size) (ok := fun k_ => ((True ∧ some k_ ≠ (.slice Ao13 t166.length co13 : Value).ownBlock) ∧ some k_ ≠ (.slice Ao20 t171.length co20 : Value).ownBlock)) (n := y161.length) (c := co6) ?_).2.2; exact (by (with_reducible repeat (first | apply Kd.R_alloc | apply Kd.R_drewN | apply Kd.R_drew)); exact (Kd.R_mono (Kd.R_far (p := ⟨gb174, 1, none⟩) (Kd.R_far (p := ⟨gb174, 0, none⟩) (Kd.R_types HO163.out BK174.out (by decide)) (fun _ hk => hk.2) (.int .i64 t170)) (fun _ hk => hk.2) (.slice Ao20 t171.length co20)) (fun _ h_ => h_.1)))); (case side2 => exact (Kd.R_reads' HO163.out).2.1); rintro e w58 ⟨v176, rfl, ho0, hb⟩; refine ⟨_, rfl, ?_⟩; have n0_ := Aside0.mk (Kd.R_below (by (with_reducible repeat (first | apply Kd.R_alloc | apply Kd.R_drewN | apply Kd.R_drew)); exact (Kd.R_mono (Kd.R_far (p := ⟨gb174, 1, none⟩) (Kd.R_far (p := ⟨gb174, 0, none⟩) (Kd.R_types HO163.out BK174.out (by decide)) (fun _ hk => hk.2) (.int .i64 t170)) (fun _ hk => hk.2) (.slice Ao20 t171.length co20)) (fun _ h_ => h_.1))) hb); have n1_ := Aside0.mk (Kd.R_below (by (with_reducible repeat (first | apply Kd.R_alloc | apply Kd.R_drewN | apply Kd.R_drew)); exact (Kd.R_mono (Kd.R_far (p := ⟨gb174, 1, none⟩) (Kd.R_far (p := ⟨gb174, 0, none⟩) (Kd.R_types HO168.out BK174.out (by decide)) (fun _ hk => hk.2) (.int .i64 t170)) (fun _ hk => hk.2) (.slice Ao20 t171.length co20)) (fun _ h_ => h_.1))) hb); have n2_ := Aside0.mk (Kd.R_below (by (with_reducible repeat (first | apply Kd.R_alloc | apply Kd.R_drewN | apply Kd.R_drew)); exact (Kd.R_mono (Kd.R_far (p := ⟨gb174, 1, none⟩) (Kd.R_far (p := ⟨gb174, 0, none⟩) (Kd.R_types HO173.out BK174.out (by decide)) (fun _ hk => hk.2) (.int .i64 t170)) (fun _ hk => hk.2) (.slice Ao20 t171.length co20)) (fun _ h_ => h_.1))) hb); have n3_ := Aside0.mk (Kd.R_lower ho0 (below_size (by repeat (first | (with_reducible first | exact HB.out | apply below_alloc | apply pw_below_drewN | apply below_drew1 | refine below_set ?_ GE164.out | refine below_set ?_ GE169.out | refine below_set ?_ GE174.out) | exact HB.out)))); have n4_ := Aside0.mk (blk_below (g := gb164) (o := .cells #[.int .i64 4, .slice Ao6 y161.length co6] 31 (0, 0)) (by (with_reducible repeat (first | refine blk_drewN ?_ _ | refine blk_drew ?_ | refine blk_alloc ?_ _)); refine blk_far ?_ NB164_174.out _; (with_reducible repeat (first | refine blk_drewN ?_ _ | refine blk_drew ?_ | refine blk_alloc ?_ _)); refine blk_far ?_ NB164_174.out _; (with_reducible repeat (first | refine blk_drewN ?_ _ | refine blk_drew ?_ | refine blk_alloc ?_ _)); exact BK164.out) hb); have n5_ := Aside0.mk (blk_below (g := gb169) (o := .cells #[.int .i64 t165, .slice Ao13 t166.length co13] 31 (0, 0)) (by (with_reducible repeat (first | refine blk_drewN ?_ _ | refine blk_drew ?_ | refine blk_alloc ?_ _)); refine blk_far ?_ NB169_174.out _; (with_reducible repeat (first | refine blk_drewN ?_ _ | refine blk_drew ?_ | refine blk_alloc ?_ _)); refine blk_far ?_ NB169_174.out _; (with_reducible repeat (first | refine blk_drewN ?_ _ | refine blk_drew ?_ | refine blk_alloc ?_ _)); exact BK169.out) hb); have n6_ := Aside0.mk (blk_below (g := gb174) (o := .cells #[.int .i64 t170, .slice Ao20 t171.length co20] 31 (0, 0)) (by (with_reducible repeat (first | refine blk_drewN ?_ _ | refine blk_drew ?_ | refine blk_alloc ?_ _)); refine blk_put (cs := #[.int .i64 t170, .slice none 0 0]) ?_ 1 _ rfl; (with_reducible repeat (first | refine blk_drewN ?_ _ | refine blk_drew ?_ | refine blk_alloc ?_ _)); refine blk_put (cs := #[.int .i64 0, .slice none 0 0]) ?_ 0 _ rfl; (with_reducible repeat (first | refine blk_drewN ?_ _ | refine blk_drew ?_ | refine blk_alloc ?_ _)); exact BK174.out) hb); have n7_ := Aside0.mk (below_step (by repeat (first | (with_reducible first | exact HB.out | apply below_alloc | apply pw_below_drewN | apply below_drew1 | refine below_set ?_ GE164.out | refine below_set ?_ GE169.out | refine below_set ?_ GE174.out) | exact HB.out)) hb); clear HO163; clear HO168; clear HO173; clear BK164; clear BK169; clear BK174; clear HB; have HO163 := n0_; have HO168 := n1_; have HO173 := n2_; have HO177 := n3_; have BK164 := n4_; have BK169 := n5_; have BK174 := n6_; have HB := n7_; clear n0_ n1_ n2_ n3_ n4_ n5_ n6_ n7_; (try clear hb); (try clear hb2); (try clear hk); (try clear hi); (try clear ho0)) | ((with_reducible refine gate_dst (N := 15) rfl ?_); (try (refine gate_guard (by rfl) ?_; dsimp only)); refine Kd.R_lit (Kd.int .i64) _ 3 ?hg (N := 15) ?hd (xs := ([1, 2, 0, 3] : List Int)) (inner := [.int .i64 1, .int .i64 2, .int .i64 0, .int .i64 3]) (ok := fun _ => True) (okp := fun _ => True) ?hr ?hp (fun _ hk => hk) trivial (Below.refl _ _) (Nat.le_refl _) (by simp) ?_; (case hd => rfl); (case hg => rfl); (case hr => first | (go_simp; done) | (go_simp; rfl)); (case hp => exact (Reps.one (show Kd.M (Kd.int .i64) _ _ _ 1 [.int .i64 1] from rfl) (Reps.one (show Kd.M (Kd.int .i64) _ _ _ 2 [.int .i64 2] from rfl) (Reps.one (show Kd.M (Kd.int .i64) _ _ _ 0 [.int .i64 0] from rfl) (Reps.one (show Kd.M (Kd.int .i64) _ _ _ 3 [.int .i64 3] from rfl) (Reps.none _ _)))))); intro v180 w59 ho60 hb hg_ hnew_; clear hg_ hnew_; (first | rw [← Ny179.out] at ho60 | (simp only [Int.reduceToNat] at ho60; rw [← Ny179.out] at ho60)); have n0_ := Aside0.mk (Kd.R_below (rA HO163.out) hb); have n1_ := Aside0.mk (Kd.R_below (rA HO168.out) hb); have n2_ := Aside0.mk (Kd.R_below (rA HO173.out) hb); have n3_ := Aside0.mk (Kd.R_elder' (rA HO177.out) (Kd.R_base ho60) hb); have n4_ := Aside0.mk (Kd.R_lower (Kd.R_new' ho60 (Kd.R_lt (rA HO177.out))) (below_size (by repeat (first | (with_reducible first | exact HB.out | apply below_alloc | apply pw_below_drewN | apply below_drew1 | refine below_set ?_ GE164.out | refine below_set ?_ GE169.out | refine below_set ?_ GE174.out) | exact HB.out)))); have n5_ := Aside0.mk (blk_below (g := gb164) (o := .cells #[.int .i64 4, .slice Ao6 y161.length co6] 31 (0, 0)) (bA BK164.out) hb); have n6_ := Aside0.mk (blk_below (g := gb169) (o := .cells #[.int .i64 t165, .slice Ao13 t166.length co13] 31 (0, 0)) (bA BK169.out) hb); have n7_ := Aside0.mk (blk_below (g := gb174) (o := .cells #[.int .i64 t170, .slice Ao20 t171.length co20] 31 (0, 0)) (bA BK174.out) hb); have n8_ := Aside0.mk (below_step (by repeat (first | (with_reducible first | exact HB.out | apply below_alloc | apply pw_below_drewN | apply below_drew1 | refine below_set ?_ GE164.out | refine below_set ?_ GE169.out | refine below_set ?_ GE174.out) | exact HB.out)) hb); clear HO163; clear HO168; clear HO173; clear HO177; clear BK164; clear BK169; clear BK174; clear HB; have HO163 := n0_; have HO168 := n1_; have HO173 := n2_; have HO177 := n3_; have HO181 := n4_; have BK164 := n5_; have BK169 := n6_; have BK174 := n7_; have HB := n8_; clear n0_ n1_ n2_ n3_ n4_ n5_ n6_ n7_ n8_; clear hb ho60; obtain ⟨Ao61, co61, eo61⟩ := Kd.R_slice HO181.out; subst eo61; obtain ⟨Ao62, co62, eo62⟩ := Kd.R_slice HO177.out; subst eo62) | ((with_reducible refine gate_callee (f := 14) rfl ?_); refine goesL_ (some 17) rfl rfl Try.func14 (by kernel_rfl) rfl #[.agg #[.slice Ao62 t175.length co62, .int .i64 t178], .agg #[.slice Ao61 y179.length co61, .int .i64 0]] rfl (by (try simp only [List.map_toArray, List.map_cons, List.map_nil]); first | done | rfl | (simp only [List.length_drop, List.length_take]; rfl)) ?_; (with_reducible refine (wireloomref05_Alike.calls k _ _ t175 t178 _ _ y179 0 true _ ?side1 ?side2 ?side3 ?side4 A22.out).mono ?_); (case side1 => repeat (first | exact (Kd.R_reads' HO177.out).2.2 | (with_reducible refine Kd.C_alloc ?_ _) | (with_reducible refine Kd.C_drewN ?_ _) | (with_reducible refine Kd.C_drew ?_))); (case side2 => exact (Kd.R_reads' HO177.out).2.1); (case side3 => repeat (first | exact (Kd.R_reads' HO181.out).2.2 | (with_reducible refine Kd.C_alloc ?_ _) | (with_reducible refine Kd.C_drewN ?_ _) | (with_reducible refine Kd.C_drew ?_))); (case side4 => exact (Kd.R_reads' HO181.out).2.1); rintro e w63 ⟨rfl, hb⟩; refine ⟨_, rfl, ?_⟩; have n0_ := Aside0.mk (Kd.R_below (rA HO163.out) hb); have n1_ := Aside0.mk (Kd.R_below (rA HO168.out) hb); have n2_ := Aside0.mk (Kd.R_below (rA HO173.out) hb); have n3_ := Aside0.mk (Kd.R_below (rA HO177.out) hb); have n4_ := Aside0.mk (Kd.R_below (rA HO181.out) hb); have n5_ := Aside0.mk (blk_below (g := gb164) (o := .cells #[.int .i64 4, .slice Ao6 y161.length co6] 31 (0, 0)) (bA BK164.out) hb); have n6_ := Aside0.mk (blk_below (g := gb169) (o := .cells #[.int .i64 t165, .slice Ao13 t166.length co13] 31 (0, 0)) (bA BK169.out) hb); have n7_ := Aside0.mk (blk_below (g := gb174) (o := .cells #[.int .i64 t170, .slice Ao20 t171.length co20] 31 (0, 0)) (bA BK174.out) hb); have n8_ := Aside0.mk (below_step (by repeat (first | (with_reducible first | exact HB.out | apply below_alloc | apply pw_below_drewN | apply below_drew1 | refine below_set ?_ GE164.out | refine below_set ?_ GE169.out | refine below_set ?_ GE174.out) | exact HB.out)) hb); clear HO163; clear HO168; clear HO173; clear HO177; clear HO181; clear BK164; clear BK169; clear BK174; clear HB; have HO163 := n0_; have HO168 := n1_; have HO173 := n2_; have HO177 := n3_; have HO181 := n4_; have BK164 := n5_; have BK169 := n6_; have BK174 := n7_; have HB := n8_; clear n0_ n1_ n2_ n3_ n4_ n5_ n6_ n7_ n8_; (try clear hb); (try clear hb2); (try clear hk); (try clear hi); have hcz64_0 : w63.cell? ⟨gb164, 0, none⟩ = some (.int .i64 4) := (blk_cell BK164.out 0).trans rfl; have hcz64_1 : w63.cell? ⟨gb164, 1, none⟩ = some (.slice Ao6 y161.length co6) := (blk_cell BK164.out 1).trans rfl; have hfz64_0 := blk_frozen BK164.out 0; have hfz64_1 := blk_frozen BK164.out 1) | (go_at_call 19; (with_reducible refine (wireloomlaw05_depth.calls 4 _ _ y161 t183 t186 _ ?side1 ?side2 A24.out).mono ?_); (case side1 => repeat (first | exact (Kd.R_reads' HO163.out).2.2 | (with_reducible refine Kd.C_alloc ?_ _) | (with_reducible refine Kd.C_drewN ?_ _) | (with_reducible refine Kd.C_drew ?_))); (case side2 => exact (Kd.R_reads' HO163.out).2.1); rintro e w65 ⟨v184, rfl, ho0, hb⟩; have n0_ := Aside0.mk (Kd.R_below (rA HO163.out) hb); have n1_ := Aside0.mk (Kd.R_below (rA HO168.out) hb); have n2_ := Aside0.mk (Kd.R_below (rA HO173.out) hb); have n3_ := Aside0.mk (Kd.R_elder' (rA HO177.out) (Kd.R_base ho0) hb); have n4_ := Aside0.mk (Kd.R_elder' (rA HO181.out) (Kd.R_base ho0) hb); have n5_ := Aside0.mk (Kd.R_lower (Kd.R_new' (Kd.R_new' ho0 (Kd.R_lt (rA HO177.out))) (Kd.R_lt (rA HO181.out))) (below_size (by repeat (first | (with_reducible first | exact HB.out | apply below_alloc | apply pw_below_drewN | apply below_drew1 | refine below_set ?_ GE164.out | refine below_set ?_ GE169.out | refine below_set ?_ GE174.out) | exact HB.out)))); have n6_ := Aside0.mk (blk_below (g := gb164) (o := .cells #[.int .i64 4, .slice Ao6 y161.length co6] 31 (0, 0)) (bA BK164.out) hb); have n7_ := Aside0.mk (blk_below (g := gb169) (o := .cells #[.int .i64 t165, .slice Ao13 t166.length co13] 31 (0, 0)) (bA BK169.out) hb); have n8_ := Aside0.mk (blk_below (g := gb174) (o := .cells #[.int .i64 t170, .slice Ao20 t171.length co20] 31 (0, 0)) (bA BK174.out) hb); have n9_ := Aside0.mk (below_step (by repeat (first | (with_reducible first | exact HB.out | apply below_alloc | apply pw_below_drewN | apply below_drew1 | refine below_set ?_ GE164.out | refine below_set ?_ GE169.out | refine below_set ?_ GE174.out) | exact HB.out)) hb); clear HO163; clear HO168; clear HO173; clear HO177; clear HO181; clear BK164; clear BK169; clear BK174; clear HB; have HO163 := n0_; have HO168 := n1_; have HO173 := n2_; have HO177 := n3_; have HO181 := n4_; have HO185 := n5_; have BK164 := n6_; have BK169 := n7_; have BK174 := n8_; have HB := n9_; clear n0_ n1_ n2_ n3_ n4_ n5_ n6_ n7_ n8_ n9_; (try clear hb); (try clear hb2); (try clear hk); (try clear hi); (try clear ho0)) | ((with_reducible refine gate_dst (N := 22) rfl ?_); (try (refine gate_guard (by rfl) ?_; dsimp only)); refine Kd.R_lit (Kd.int .i64) _ 3 ?hg (N := 22) ?hd (xs := ([1, 0, 0, 2] : List Int)) (inner := [.int .i64 1, .int .i64 0, .int .i64 0, .int .i64 2]) (ok := fun _ => True) (okp := fun _ => True) ?hr ?hp (fun _ hk => hk) trivial (Below.refl _ _) (Nat.le_refl _) (by simp) ?_; (case hd => rfl); (case hg => rfl); (case hr => first | (go_simp; done) | (go_simp; rfl)); (case hp => exact (Reps.one (show Kd.M (Kd.int .i64) _ _ _ 1 [.int .i64 1] from rfl) (Reps.one (show Kd.M (Kd.int .i64) _ _ _ 0 [.int .i64 0] from rfl) (Reps.one (show Kd.M (Kd.int .i64) _ _ _ 0 [.int .i64 0] from rfl) (Reps.one (show Kd.M (Kd.int .i64) _ _ _ 2 [.int .i64 2] from rfl) (Reps.none _ _)))))); intro v188 w66 ho67 hb hg_ hnew_; clear hg_ hnew_; (first | rw [← Ny187.out] at ho67 | (simp only [Int.reduceToNat] at ho67; rw [← Ny187.out] at ho67)); have n0_ := Aside0.mk (Kd.R_below (rA HO163.out) hb); have n1_ := Aside0.mk (Kd.R_below (rA HO168.out) hb); have n2_ := Aside0.mk (Kd.R_below (rA HO173.out) hb); have n3_ := Aside0.mk (Kd.R_elder' (rA HO177.out) (Kd.R_base ho67) hb); have n4_ := Aside0.mk (Kd.R_elder' (rA HO181.out) (Kd.R_base ho67) hb); have n5_ := Aside0.mk (Kd.R_elder' (rA HO185.out) (Kd.R_base ho67) hb); have n6_ := Aside0.mk (Kd.R_lower (Kd.R_new' (Kd.R_new' (Kd.R_new' ho67 (Kd.R_lt (rA HO177.out))) (Kd.R_lt (rA HO181.out))) (Kd.R_lt (rA HO185.out))) (below_size (by repeat (first | (with_reducible first | exact HB.out | apply below_alloc | apply pw_below_drewN | apply below_drew1 | refine below_set ?_ GE164.out | refine below_set ?_ GE169.out | refine below_set ?_ GE174.out) | exact HB.out)))); have n7_ := Aside0.mk (blk_below (g := gb164) (o := .cells #[.int .i64 4, .slice Ao6 y161.length co6] 31 (0, 0)) (bA BK164.out) hb); have n8_ := Aside0.mk (blk_below (g := gb169) (o := .cells #[.int .i64 t165, .slice Ao13 t166.length co13] 31 (0, 0)) (bA BK169.out) hb); have n9_ := Aside0.mk (blk_below (g := gb174) (o := .cells #[.int .i64 t170, .slice Ao20 t171.length co20] 31 (0, 0)) (bA BK174.out) hb); have n10_ := Aside0.mk (below_step (by repeat (first | (with_reducible first | exact HB.out | apply below_alloc | apply pw_below_drewN | apply below_drew1 | refine below_set ?_ GE164.out | refine below_set ?_ GE169.out | refine below_set ?_ GE174.out) | exact HB.out)) hb); clear HO163; clear HO168; clear HO173; clear HO177; clear HO181; clear HO185; clear BK164; clear BK169; clear BK174; clear HB; have HO163 := n0_; have HO168 := n1_; have HO173 := n2_; have HO177 := n3_; have HO181 := n4_; have HO185 := n5_; have HO189 := n6_; have BK164 := n7_; have BK169 := n8_; have BK174 := n9_; have HB := n10_; clear n0_ n1_ n2_ n3_ n4_ n5_ n6_ n7_ n8_ n9_ n10_; clear hb ho67; obtain ⟨Ao68, co68, eo68⟩ := Kd.R_slice HO189.out; subst eo68; obtain ⟨Ao69, co69, eo69⟩ := Kd.R_slice HO185.out; subst eo69) | (go_at_call 14; (with_reducible refine (wireloomref05_Alike.calls k _ _ t183 t186 _ _ y187 0 true _ ?side1 ?side2 ?side3 ?side4 A25.out).mono ?_); (case side1 => repeat (first | exact (Kd.R_reads' HO185.out).2.2 | (with_reducible refine Kd.C_alloc ?_ _) | (with_reducible refine Kd.C_drewN ?_ _) | (with_reducible refine Kd.C_drew ?_))); (case side2 => exact (Kd.R_reads' HO185.out).2.1); (case side3 => repeat (first | exact (Kd.R_reads' HO189.out).2.2 | (with_reducible refine Kd.C_alloc ?_ _) | (with_reducible refine Kd.C_drewN ?_ _) | (with_reducible refine Kd.C_drew ?_))); (case side4 => exact (Kd.R_reads' HO189.out).2.1); rintro e w70 ⟨rfl, hb⟩; have n0_ := Aside0.mk (Kd.R_below (rA HO163.out) hb); have n1_ := Aside0.mk (Kd.R_below (rA HO168.out) hb); have n2_ := Aside0.mk (Kd.R_below (rA HO173.out) hb); have n3_ := Aside0.mk (Kd.R_below (rA HO177.out) hb); have n4_ := Aside0.mk (Kd.R_below (rA HO181.out) hb); have n5_ := Aside0.mk (Kd.R_below (rA HO185.out) hb); have n6_ := Aside0.mk (Kd.R_below (rA HO189.out) hb); have n7_ := Aside0.mk (blk_below (g := gb164) (o := .cells #[.int .i64 4, .slice Ao6 y161.length co6] 31 (0, 0)) (bA BK164.out) hb); have n8_ := Aside0.mk (blk_below (g := gb169) (o := .cells #[.int .i64 t165, .slice Ao13 t166.length co13] 31 (0, 0)) (bA BK169.out) hb); have n9_ := Aside0.mk (blk_below (g := gb174) (o := .cells #[.int .i64 t170, .slice Ao20 t171.length co20] 31 (0, 0)) (bA BK174.out) hb); have n10_ := Aside0.mk (below_step (by repeat (first | (with_reducible first | exact HB.out | apply below_alloc | apply pw_below_drewN | apply below_drew1 | refine below_set ?_ GE164.out | refine below_set ?_ GE169.out | refine below_set ?_ GE174.out) | exact HB.out)) hb); clear HO163; clear HO168; clear HO173; clear HO177; clear HO181; clear HO185; clear HO189; clear BK164; clear BK169; clear BK174; clear HB; have HO163 := n0_; have HO168 := n1_; have HO173 := n2_; have HO177 := n3_; have HO181 := n4_; have HO185 := n5_; have HO189 := n6_; have BK164 := n7_; have BK169 := n8_; have BK174 := n9_; have HB := n10_; clear n0_ n1_ n2_ n3_ n4_ n5_ n6_ n7_ n8_ n9_ n10_; (try clear hb); (try clear hb2); (try clear hk); (try clear hi); have hcz71_0 : w70.cell? ⟨gb164, 0, none⟩ = some (.int .i64 4) := (blk_cell BK164.out 0).trans rfl; have hcz71_1 : w70.cell? ⟨gb164, 1, none⟩ = some (.slice Ao6 y161.length co6) := (blk_cell BK164.out 1).trans rfl; have hfz71_0 := blk_frozen BK164.out 0; have hfz71_1 := blk_frozen BK164.out 1) | (go_at_call 24; (with_reducible refine (digraph_Reach.calls 4 _ _ y161 2 t191 _ ?side1 ?side2 A27.out).mono ?_); (case side1 => repeat (first | exact (Kd.R_reads' HO163.out).2.2 | (with_reducible refine Kd.C_alloc ?_ _) | (with_reducible refine Kd.C_drewN ?_ _) | (with_reducible refine Kd.C_drew ?_))); (case side2 => exact (Kd.R_reads' HO163.out).2.1); rintro e w72 ⟨v192, rfl, ho0, hb⟩; have n0_ := Aside0.mk (Kd.R_below (rA HO163.out) hb); have n1_ := Aside0.mk (Kd.R_below (rA HO168.out) hb); have n2_ := Aside0.mk (Kd.R_below (rA HO173.out) hb); have n3_ := Aside0.mk (Kd.R_elder' (rA HO177.out) (Kd.R_base ho0) hb); have n4_ := Aside0.mk (Kd.R_elder' (rA HO181.out) (Kd.R_base ho0) hb); have n5_ := Aside0.mk (Kd.R_elder' (rA HO185.out) (Kd.R_base ho0) hb); have n6_ := Aside0.mk (Kd.R_elder' (rA HO189.out) (Kd.R_base ho0) hb); have n7_ := Aside0.mk (Kd.R_lower (Kd.R_new' (Kd.R_new' (Kd.R_new' (Kd.R_new' ho0 (Kd.R_lt (rA HO177.out))) (Kd.R_lt (rA HO181.out))) (Kd.R_lt (rA HO185.out))) (Kd.R_lt (rA HO189.out))) (below_size (by repeat (first | (with_reducible first | exact HB.out | apply below_alloc | apply pw_below_drewN | apply below_drew1 | refine below_set ?_ GE164.out | refine below_set ?_ GE169.out | refine below_set ?_ GE174.out) | exact HB.out)))); have n8_ := Aside0.mk (blk_below (g := gb164) (o := .cells #[.int .i64 4, .slice Ao6 y161.length co6] 31 (0, 0)) (bA BK164.out) hb); have n9_ := Aside0.mk (blk_below (g := gb169) (o := .cells #[.int .i64 t165, .slice Ao13 t166.length co13] 31 (0, 0)) (bA BK169.out) hb); have n10_ := Aside0.mk (blk_below (g := gb174) (o := .cells #[.int .i64 t170, .slice Ao20 t171.length co20] 31 (0, 0)) (bA BK174.out) hb); have n11_ := Aside0.mk (below_step (by repeat (first | (with_reducible first | exact HB.out | apply below_alloc | apply pw_below_drewN | apply below_drew1 | refine below_set ?_ GE164.out | refine below_set ?_ GE169.out | refine below_set ?_ GE174.out) | exact HB.out)) hb); clear HO163; clear HO168; clear HO173; clear HO177; clear HO181; clear HO185; clear HO189; clear BK164; clear BK169; clear BK174; clear HB; have HO163 := n0_; have HO168 := n1_; have HO173 := n2_; have HO177 := n3_; have HO181 := n4_; have HO185 := n5_; have HO189 := n6_; have HO193 := n7_; have BK164 := n8_; have BK169 := n9_; have BK174 := n10_; have HB := n11_; clear n0_ n1_ n2_ n3_ n4_ n5_ n6_ n7_ n8_ n9_ n10_ n11_; (try clear hb); (try clear hb2); (try clear hk); (try clear hi); (try clear ho0)) | ((with_reducible refine gate_dst (N := 31) rfl ?_); (try (refine gate_guard (by rfl) ?_; dsimp only)); refine Kd.R_lit (Kd.int .i64) _ 3 ?hg (N := 31) ?hd (xs := ([0, 2, 3] : List Int)) (inner := [.int .i64 0, .int .i64 2, .int .i64 3]) (ok := fun _ => True) (okp := fun _ => True) ?hr ?hp (fun _ hk => hk) trivial (Below.refl _ _) (Nat.le_refl _) (by simp) ?_; (case hd => rfl); (case hg => rfl); (case hr => first | (go_simp; done) | (go_simp; rfl)); (case hp => exact (Reps.one (show Kd.M (Kd.int .i64) _ _ _ 0 [.int .i64 0] from rfl) (Reps.one (show Kd.M (Kd.int .i64) _ _ _ 2 [.int .i64 2] from rfl) (Reps.one (show Kd.M (Kd.int .i64) _ _ _ 3 [.int .i64 3] from rfl) (Reps.none _ _))))); intro v195 w73 ho74 hb hg_ hnew_; clear hg_ hnew_; (first | rw [← Ny194.out] at ho74 | (simp only [Int.reduceToNat] at ho74; rw [← Ny194.out] at ho74)); have n0_ := Aside0.mk (Kd.R_below (rA HO163.out) hb); have n1_ := Aside0.mk (Kd.R_below (rA HO168.out) hb); have n2_ := Aside0.mk (Kd.R_below (rA HO173.out) hb); have n3_ := Aside0.mk (Kd.R_elder' (rA HO177.out) (Kd.R_base ho74) hb); have n4_ := Aside0.mk (Kd.R_elder' (rA HO181.out) (Kd.R_base ho74) hb); have n5_ := Aside0.mk (Kd.R_elder' (rA HO185.out) (Kd.R_base ho74) hb); have n6_ := Aside0.mk (Kd.R_elder' (rA HO189.out) (Kd.R_base ho74) hb); have n7_ := Aside0.mk (Kd.R_elder' (rA HO193.out) (Kd.R_base ho74) hb); have n8_ := Aside0.mk (Kd.R_lower (Kd.R_new' (Kd.R_new' (Kd.R_new' (Kd.R_new' (Kd.R_new' ho74 (Kd.R_lt (rA HO177.out))) (Kd.R_lt (rA HO181.out))) (Kd.R_lt (rA HO185.out))) (Kd.R_lt (rA HO189.out))) (Kd.R_lt (rA HO193.out))) (below_size (by repeat (first | (with_reducible first | exact HB.out | apply below_alloc | apply pw_below_drewN | apply below_drew1 | refine below_set ?_ GE164.out | refine below_set ?_ GE169.out | refine below_set ?_ GE174.out) | exact HB.out)))); have n9_ := Aside0.mk (blk_below (g := gb164) (o := .cells #[.int .i64 4, .slice Ao6 y161.length co6] 31 (0, 0)) (bA BK164.out) hb); have n10_ := Aside0.mk (blk_below (g := gb169) (o := .cells #[.int .i64 t165, .slice Ao13 t166.length co13] 31 (0, 0)) (bA BK169.out) hb); have n11_ := Aside0.mk (blk_below (g := gb174) (o := .cells #[.int .i64 t170, .slice Ao20 t171.length co20] 31 (0, 0)) (bA BK174.out) hb); have n12_ := Aside0.mk (below_step (by repeat (first | (with_reducible first | exact HB.out | apply below_alloc | apply pw_below_drewN | apply below_drew1 | refine below_set ?_ GE164.out | refine below_set ?_ GE169.out | refine below_set ?_ GE174.out) | exact HB.out)) hb); clear HO163; clear HO168; clear HO173; clear HO177; clear HO181; clear HO185; clear HO189; clear HO193; clear BK164; clear BK169; clear BK174; clear HB; have HO163 := n0_; have HO168 := n1_; have HO173 := n2_; have HO177 := n3_; have HO181 := n4_; have HO185 := n5_; have HO189 := n6_; have HO193 := n7_; have HO196 := n8_; have BK164 := n9_; have BK169 := n10_; have BK174 := n11_; have HB := n12_; clear n0_ n1_ n2_ n3_ n4_ n5_ n6_ n7_ n8_ n9_ n10_ n11_ n12_; clear hb ho74; obtain ⟨Ao75, co75, eo75⟩ := Kd.R_slice HO193.out; subst eo75; obtain ⟨Ao76, co76, eo76⟩ := Kd.R_slice HO196.out; subst eo76) | (go_at_call 23; (with_reducible refine (wireloomref05_Same.calls k _ _ t191 _ _ y194 false _ ?side1 ?side2 ?side3 ?side4 A28.out).mono ?_); (case side1 => repeat (first | exact (Kd.R_reads' HO193.out).2.2 | (with_reducible refine Kd.C_alloc ?_ _) | (with_reducible refine Kd.C_drewN ?_ _) | (with_reducible refine Kd.C_drew ?_))); (case side2 => exact (Kd.R_reads' HO193.out).2.1); (case side3 => repeat (first | exact (Kd.R_reads' HO196.out).2.2 | (with_reducible refine Kd.C_alloc ?_ _) | (with_reducible refine Kd.C_drewN ?_ _) | (with_reducible refine Kd.C_drew ?_))); (case side4 => exact (Kd.R_reads' HO196.out).2.1); rintro e w' ⟨rfl, ⟨nd, rfl⟩⟩))
     go_meet
     case rel => exact ⟨_, (true), (by first | rfl | (simp; done) | (simp [*]; done)), H', ⟨by first | omega | exact Nat.le_refl _⟩, ⟨by (with_reducible repeat (first | apply Kd.R_alloc | apply Kd.R_drewN | apply Kd.R_drew)); exact Kd.R_mono HO163.out (fun _ hk => ⟨hk.1.2, hk.2⟩)⟩, ⟨by (with_reducible repeat (first | apply Kd.R_alloc | apply Kd.R_drewN | apply Kd.R_drew)); exact Kd.R_mono HO168.out (fun _ hk => ⟨hk.1.2, hk.2⟩)⟩, ⟨by (with_reducible repeat (first | apply Kd.R_alloc | apply Kd.R_drewN | apply Kd.R_drew)); exact Kd.R_mono HO173.out (fun _ hk => ⟨hk.1.2, hk.2⟩)⟩, ⟨bA BK164.out⟩, ⟨bA BK169.out⟩, ⟨bA BK174.out⟩, ⟨by repeat (first | (with_reducible first | exact HB.out | apply below_alloc | apply pw_below_drewN | apply below_drew1 | refine below_set ?_ GE164.out | refine below_set ?_ GE169.out | refine below_set ?_ GE174.out) | exact HB.out)⟩⟩
   ·replace c26 := Bool.eq_false_iff.mpr c26
    subst c26
    have H1 : (none) = some r := by rw [if_neg (show ¬ (false = true) by decide)] at H; exact H
    clear H
    have H := H1
    clear H1
    exact absurd H (by simp)
  ·replace c23 := Bool.eq_false_iff.mpr c23
   subst c23
   have H1 : (none) = some r := by rw [if_neg (show ¬ (false = true) by decide)] at H; exact H
   clear H
   have H := H1
   clear H1
   exact absurd H (by simp)
 case rest =>
  clear HC3
  try clear c1
  try clear c2
  try clear p2
  try clear c3
  try clear c5
  try clear c10
  try clear c11
  try clear c14
  try clear c15
  try clear c17
  try clear c18
  try clear c23
  try clear c26
  try clear c29
  try clear c31
  try clear c32
  try clear c55
  try clear c56
  try clear hcz12_0
  try clear hcz12_1
  try clear hcz14_0
  try clear hcz14_1
  try clear hcz19_0
  try clear hcz19_1
  try clear hcz33_0
  try clear hcz33_1
  try clear hcz40_0
  try clear hcz40_1
  try clear hcz47_0
  try clear hcz47_1
  try clear hcz53_0
  try clear hcz53_1
  try clear hcz57_0
  try clear hcz57_1
  try clear hcz64_0
  try clear hcz64_1
  try clear hcz71_0
  try clear hcz71_1
  try clear hcz8_0
  try clear hcz8_1
  try clear hfz12_0
  try clear hfz12_1
  try clear hfz14_0
  try clear hfz14_1
  try clear hfz19_0
  try clear hfz19_1
  try clear hfz33_0
  try clear hfz33_1
  try clear hfz40_0
  try clear hfz40_1
  try clear hfz47_0
  try clear hfz47_1
  try clear hfz53_0
  try clear hfz53_1
  try clear hfz57_0
  try clear hfz57_1
  try clear hfz64_0
  try clear hfz64_1
  try clear hfz71_0
  try clear hfz71_1
  try clear hfz8_0
  try clear hfz8_1
  obtain ⟨kq, x40_2, rfl, HA, HJ2, HO_165001, HO_170001, HO_175001, BK164, BK169, BK174, HB⟩ := hcut
  cases kq with
  | zero => exact absurd HA.out (by simp [wireloomlaw05_examples.j0])
  | succ kj2 =>
   have H := HA.out
   clear HA
   simp only [wireloomlaw05_examples.j0] at H
   by_cases c77 : x40_2 = true
   ·subst c77
    have H1 : (none) = some r := by rw [if_pos rfl] at H; exact H
    clear H
    have H := H1
    clear H1
    exact absurd H (by simp)
   ·replace c77 := Bool.eq_false_iff.mpr c77
    subst c77
    have H1 : ((wireloomlaw05_order.f t165 t166).bind fun bt202 => (if bt202.2 = 50 then ((wireloomlaw05_depth.f t165 t166).bind fun bt206 => (if bt206.2 = 50 then ((wireloomlaw05_cycle.f t165 t166).bind fun bt210 => ((wireloomref05_Alike.f kj2 bt210.1 bt210.2 (([0, 3, 2] : List Int)) 0).bind fun t217 => (if t217 = true then ((wireloomlaw05_cycle.f t170 t171).bind fun bt218 => ((wireloomref05_Alike.f kj2 bt218.1 bt218.2 (([1] : List Int)) 0).bind fun t225 => (if t225 = true then ((digraph_Components.f 4 t166).bind fun t226 => ((wireloomref05_SameLists.f kj2 t226 (([(([0, 2, 3] : List Int)), (([1] : List Int))] : List (List Int)))).bind fun t238 => (wireloomlaw05_examples.j1 kj2 (!t238) 4 y161))) else (wireloomlaw05_examples.j1 kj2 true 4 y161)))) else (none)))) else (none))) else (none))) = some r := by rw [if_neg (show ¬ (false = true) by decide)] at H; exact H
    clear H
    have H := H1
    clear H1
    have HC78 := Aside0.mk H
    clear H
    go_upto_region 6 with (fail)
    go_cut [76] (fun v76 wc => ∃ (kq : Nat) (x76_77 : Bool), v76 = .bool x76_77 ∧ Aside0 (wireloomlaw05_examples.j1 kq x76_77 4 y161 = some r) ∧ Aside0 (kq ≤ kj2) ∧ Aside0 (Kd.R k55 55 wc w.heap.size (fun k_ => some k_ ≠ ((.slice Ao13 t166.length co13) : Value).ownBlock ∧ some k_ ≠ ((.slice Ao20 t171.length co20) : Value).ownBlock) (.slice Ao6 y161.length co6) y161) ∧ Aside0 (Kd.R k55 55 wc w.heap.size (fun k_ => some k_ ≠ ((.slice Ao6 y161.length co6) : Value).ownBlock ∧ some k_ ≠ ((.slice Ao20 t171.length co20) : Value).ownBlock) (.slice Ao13 t166.length co13) t166) ∧ Aside0 (Kd.R k55 55 wc w.heap.size (fun k_ => some k_ ≠ ((.slice Ao6 y161.length co6) : Value).ownBlock ∧ some k_ ≠ ((.slice Ao13 t166.length co13) : Value).ownBlock) (.slice Ao20 t171.length co20) t171) ∧ Aside0 (wc.heap[gb164]? = some (.cells #[.int .i64 4, (.slice Ao6 y161.length co6)] 31 (0, 0))) ∧ Aside0 (wc.heap[gb169]? = some (.cells #[.int .i64 t165, (.slice Ao13 t166.length co13)] 31 (0, 0))) ∧ Aside0 (wc.heap[gb174]? = some (.cells #[.int .i64 t170, (.slice Ao20 t171.length co20)] 31 (0, 0))) ∧ Aside0 (Below w.heap.size w wc))
    case first =>
     have H := HC78.out
     clear HC78
     replace H := Option.bind_eq_some_iff.mp H
     obtain ⟨⟨t202, t205⟩, A790, H⟩ := H
     replace H : (if t205 = 50 then ((wireloomlaw05_depth.f t165 t166).bind fun bt206 => (if bt206.2 = 50 then ((wireloomlaw05_cycle.f t165 t166).bind fun bt210 => ((wireloomref05_Alike.f kj2 bt210.1 bt210.2 (([0, 3, 2] : List Int)) 0).bind fun t217 => (if t217 = true then ((wireloomlaw05_cycle.f t170 t171).bind fun bt218 => ((wireloomref05_Alike.f kj2 bt218.1 bt218.2 (([1] : List Int)) 0).bind fun t225 => (if t225 = true then ((digraph_Components.f 4 t166).bind fun t226 => ((wireloomref05_SameLists.f kj2 t226 (([(([0, 2, 3] : List Int)), (([1] : List Int))] : List (List Int)))).bind fun t238 => (wireloomlaw05_examples.j1 kj2 (!t238) 4 y161))) else (wireloomlaw05_examples.j1 kj2 true 4 y161)))) else (none)))) else (none))) else (none)) = some r := H
     have A79 := Aside0.mk A790
     clear A790
     by_cases c80 : t205 = 50
     ·rw [if_pos c80] at H
      have c80b0 : (t205 == 50) = true := beq_iff_eq.mpr c80
      have c80b1 : (t205 != 50) = false := bne_eq_false_iff_eq.mpr c80
      clear c80
      (first | rw [c80b0] | (simp only [i64_w, i32_w]; rw [c80b0]) | skip)
      replace H := Option.bind_eq_some_iff.mp H
      obtain ⟨⟨t206, t209⟩, A810, H⟩ := H
      replace H : (if t209 = 50 then ((wireloomlaw05_cycle.f t165 t166).bind fun bt210 => ((wireloomref05_Alike.f kj2 bt210.1 bt210.2 (([0, 3, 2] : List Int)) 0).bind fun t217 => (if t217 = true then ((wireloomlaw05_cycle.f t170 t171).bind fun bt218 => ((wireloomref05_Alike.f kj2 bt218.1 bt218.2 (([1] : List Int)) 0).bind fun t225 => (if t225 = true then ((digraph_Components.f 4 t166).bind fun t226 => ((wireloomref05_SameLists.f kj2 t226 (([(([0, 2, 3] : List Int)), (([1] : List Int))] : List (List Int)))).bind fun t238 => (wireloomlaw05_examples.j1 kj2 (!t238) 4 y161))) else (wireloomlaw05_examples.j1 kj2 true 4 y161)))) else (none)))) else (none)) = some r := H
      have A81 := Aside0.mk A810
      clear A810
      by_cases c82 : t209 = 50
      ·rw [if_pos c82] at H
       have c82b0 : (t209 == 50) = true := beq_iff_eq.mpr c82
       have c82b1 : (t209 != 50) = false := bne_eq_false_iff_eq.mpr c82
       clear c82
       replace H := Option.bind_eq_some_iff.mp H
       obtain ⟨⟨t210, t213⟩, A830, H⟩ := H
       replace H : ((wireloomref05_Alike.f kj2 t210 t213 (([0, 3, 2] : List Int)) 0).bind fun t217 => (if t217 = true then ((wireloomlaw05_cycle.f t170 t171).bind fun bt218 => ((wireloomref05_Alike.f kj2 bt218.1 bt218.2 (([1] : List Int)) 0).bind fun t225 => (if t225 = true then ((digraph_Components.f 4 t166).bind fun t226 => ((wireloomref05_SameLists.f kj2 t226 (([(([0, 2, 3] : List Int)), (([1] : List Int))] : List (List Int)))).bind fun t238 => (wireloomlaw05_examples.j1 kj2 (!t238) 4 y161))) else (wireloomlaw05_examples.j1 kj2 true 4 y161)))) else (none))) = some r := H
       have A83 := Aside0.mk A830
       clear A830
       obtain ⟨y214, hy214⟩ : ∃ y_ : List Int, y_ = (([0, 3, 2] : List Int)) := ⟨_, rfl⟩
       replace H : ((wireloomref05_Alike.f kj2 t210 t213 y214 0).bind fun t217 => (if t217 = true then ((wireloomlaw05_cycle.f t170 t171).bind fun bt218 => ((wireloomref05_Alike.f kj2 bt218.1 bt218.2 (([1] : List Int)) 0).bind fun t225 => (if t225 = true then ((digraph_Components.f 4 t166).bind fun t226 => ((wireloomref05_SameLists.f kj2 t226 (([(([0, 2, 3] : List Int)), (([1] : List Int))] : List (List Int)))).bind fun t238 => (wireloomlaw05_examples.j1 kj2 (!t238) 4 y161))) else (wireloomlaw05_examples.j1 kj2 true 4 y161)))) else (none))) = some r := by first | (rw [hy214]; with_reducible exact H) | (have H2_ := (Option.bind_some _ _).symm.trans H; rw [hy214]; with_reducible exact H2_) | (have H2_ := (Option.bind_some _ _).symm.trans H; with_reducible exact H2_) | with_reducible exact H | (rw [hy214]; exact H) | exact H
       have Ny214 := Aside0.mk hy214
       clear hy214
       replace H := Option.bind_eq_some_iff.mp H
       obtain ⟨t217, A840, H⟩ := H
       replace H : (if t217 = true then ((wireloomlaw05_cycle.f t170 t171).bind fun bt218 => ((wireloomref05_Alike.f kj2 bt218.1 bt218.2 (([1] : List Int)) 0).bind fun t225 => (if t225 = true then ((digraph_Components.f 4 t166).bind fun t226 => ((wireloomref05_SameLists.f kj2 t226 (([(([0, 2, 3] : List Int)), (([1] : List Int))] : List (List Int)))).bind fun t238 => (wireloomlaw05_examples.j1 kj2 (!t238) 4 y161))) else (wireloomlaw05_examples.j1 kj2 true 4 y161)))) else (none)) = some r := H
       have A84 := Aside0.mk A840
       clear A840
       by_cases c85 : t217 = true
       ·subst c85
        have H1 : ((wireloomlaw05_cycle.f t170 t171).bind fun bt218 => ((wireloomref05_Alike.f kj2 bt218.1 bt218.2 (([1] : List Int)) 0).bind fun t225 => (if t225 = true then ((digraph_Components.f 4 t166).bind fun t226 => ((wireloomref05_SameLists.f kj2 t226 (([(([0, 2, 3] : List Int)), (([1] : List Int))] : List (List Int)))).bind fun t238 => (wireloomlaw05_examples.j1 kj2 (!t238) 4 y161))) else (wireloomlaw05_examples.j1 kj2 true 4 y161)))) = some r := by rw [if_pos rfl] at H; exact H
        clear H
        have H := H1
        clear H1
        replace H := Option.bind_eq_some_iff.mp H
        obtain ⟨⟨t218, t221⟩, A860, H⟩ := H
        replace H : ((wireloomref05_Alike.f kj2 t218 t221 (([1] : List Int)) 0).bind fun t225 => (if t225 = true then ((digraph_Components.f 4 t166).bind fun t226 => ((wireloomref05_SameLists.f kj2 t226 (([(([0, 2, 3] : List Int)), (([1] : List Int))] : List (List Int)))).bind fun t238 => (wireloomlaw05_examples.j1 kj2 (!t238) 4 y161))) else (wireloomlaw05_examples.j1 kj2 true 4 y161))) = some r := H
        have A86 := Aside0.mk A860
        clear A860
        obtain ⟨y222, hy222⟩ : ∃ y_ : List Int, y_ = (([1] : List Int)) := ⟨_, rfl⟩
        replace H : ((wireloomref05_Alike.f kj2 t218 t221 y222 0).bind fun t225 => (if t225 = true then ((digraph_Components.f 4 t166).bind fun t226 => ((wireloomref05_SameLists.f kj2 t226 (([(([0, 2, 3] : List Int)), (([1] : List Int))] : List (List Int)))).bind fun t238 => (wireloomlaw05_examples.j1 kj2 (!t238) 4 y161))) else (wireloomlaw05_examples.j1 kj2 true 4 y161))) = some r := by first | (rw [hy222]; with_reducible exact H) | (have H2_ := (Option.bind_some _ _).symm.trans H; rw [hy222]; with_reducible exact H2_) | (have H2_ := (Option.bind_some _ _).symm.trans H; with_reducible exact H2_) | with_reducible exact H | (rw [hy222]; exact H) | exact H
        have Ny222 := Aside0.mk hy222
        clear hy222
        replace H := Option.bind_eq_some_iff.mp H
        obtain ⟨t225, A870, H⟩ := H
        replace H : (if t225 = true then ((digraph_Components.f 4 t166).bind fun t226 => ((wireloomref05_SameLists.f kj2 t226 (([(([0, 2, 3] : List Int)), (([1] : List Int))] : List (List Int)))).bind fun t238 => (wireloomlaw05_examples.j1 kj2 (!t238) 4 y161))) else (wireloomlaw05_examples.j1 kj2 true 4 y161)) = some r := H
        have A87 := Aside0.mk A870
        clear A870
        by_cases c88 : t225 = true
        ·subst c88
         have H1 : ((digraph_Components.f 4 t166).bind fun t226 => ((wireloomref05_SameLists.f kj2 t226 (([(([0, 2, 3] : List Int)), (([1] : List Int))] : List (List Int)))).bind fun t238 => (wireloomlaw05_examples.j1 kj2 (!t238) 4 y161))) = some r := by rw [if_pos rfl] at H; exact H
         clear H
         have H := H1
         clear H1
         replace H := Option.bind_eq_some_iff.mp H
         obtain ⟨t226, A890, H⟩ := H
         replace H : ((wireloomref05_SameLists.f kj2 t226 (([(([0, 2, 3] : List Int)), (([1] : List Int))] : List (List Int)))).bind fun t238 => (wireloomlaw05_examples.j1 kj2 (!t238) 4 y161)) = some r := H
         have A89 := Aside0.mk A890
         clear A890
         obtain ⟨y229, hy229⟩ : ∃ y_ : List Int, y_ = (([0, 2, 3] : List Int)) := ⟨_, rfl⟩
         replace H : ((wireloomref05_SameLists.f kj2 t226 (([y229, (([1] : List Int))] : List (List Int)))).bind fun t238 => (wireloomlaw05_examples.j1 kj2 (!t238) 4 y161)) = some r := by first | (rw [hy229]; with_reducible exact H) | (have H2_ := (Option.bind_some _ _).symm.trans H; rw [hy229]; with_reducible exact H2_) | (have H2_ := (Option.bind_some _ _).symm.trans H; with_reducible exact H2_) | with_reducible exact H | (rw [hy229]; exact H) | exact H
         have Ny229 := Aside0.mk hy229
         clear hy229
         obtain ⟨y232, hy232⟩ : ∃ y_ : List Int, y_ = (([1] : List Int)) := ⟨_, rfl⟩
         replace H : ((wireloomref05_SameLists.f kj2 t226 (([y229, y232] : List (List Int)))).bind fun t238 => (wireloomlaw05_examples.j1 kj2 (!t238) 4 y161)) = some r := by first | (rw [hy232]; with_reducible exact H) | (have H2_ := (Option.bind_some _ _).symm.trans H; rw [hy232]; with_reducible exact H2_) | (have H2_ := (Option.bind_some _ _).symm.trans H; with_reducible exact H2_) | with_reducible exact H | (rw [hy232]; exact H) | exact H
         have Ny232 := Aside0.mk hy232
         clear hy232
         obtain ⟨y235, hy235⟩ : ∃ y_ : List (List Int), y_ = (([y229, y232] : List (List Int))) := ⟨_, rfl⟩
         replace H : ((wireloomref05_SameLists.f kj2 t226 y235).bind fun t238 => (wireloomlaw05_examples.j1 kj2 (!t238) 4 y161)) = some r := by first | (rw [hy235]; with_reducible exact H) | (have H2_ := (Option.bind_some _ _).symm.trans H; rw [hy235]; with_reducible exact H2_) | (have H2_ := (Option.bind_some _ _).symm.trans H; with_reducible exact H2_) | with_reducible exact H | (rw [hy235]; exact H) | exact H
         have Ny235 := Aside0.mk hy235
         clear hy235
         replace H := Option.bind_eq_some_iff.mp H
         obtain ⟨t238, A900, H⟩ := H
         replace H : (wireloomlaw05_examples.j1 kj2 (!t238) 4 y161) = some r := H
         have A90 := Aside0.mk A900
         clear A900
         have H' := Aside0.mk H
         clear H
         have hnb91 := NB169_164.out
         have hnc91 := NB164_169.out
         have hnb92 := NB169_174.out
         have hnc92 := NB174_169.out
         have hcz93_0 : wc.cell? ⟨gb169, 0, none⟩ = some (.int .i64 t165) := (blk_cell BK169.out 0).trans rfl
         have hcz93_1 : wc.cell? ⟨gb169, 1, none⟩ = some (.slice Ao13 t166.length co13) := (blk_cell BK169.out 1).trans rfl
         have hfz93_0 := blk_frozen BK169.out 0
         have hfz93_1 := blk_frozen BK169.out 1
         go_wp2_with (first | ((with_reducible refine gate_callee (f := 15) rfl ?_); refine goesL_ (some 42) rfl rfl Try.func15 (by kernel_rfl) rfl #[.agg #[.int .i64 t165, .slice Ao13 t166.length co13]] rfl (by (try simp only [List.map_toArray, List.map_cons, List.map_nil]); first | done | rfl | (simp only [List.length_drop, List.length_take]; rfl)) ?_; (with_reducible refine (wireloomlaw05_order.calls t165 _ _ t166 t202 t205 _ ?side1 ?side2 A79.out).mono ?_); (case side1 => repeat (first | exact (Kd.R_reads' HO_170001.out).2.2 | (with_reducible refine Kd.C_alloc ?_ _) | (with_reducible refine Kd.C_drewN ?_ _) | (with_reducible refine Kd.C_drew ?_))); (case side2 => exact (Kd.R_reads' HO_170001.out).2.1); rintro e w94 ⟨v203, rfl, ho0, hb⟩; refine ⟨_, rfl, ?_⟩; have n0_ := Aside0.mk (Kd.R_below (rA HO_165001.out) hb); have n1_ := Aside0.mk (Kd.R_below (rA HO_170001.out) hb); have n2_ := Aside0.mk (Kd.R_below (rA HO_175001.out) hb); have n3_ := Aside0.mk (Kd.R_lower ho0 (below_size (by repeat (first | (with_reducible first | exact HB.out | apply below_alloc | apply pw_below_drewN | apply below_drew1 | refine below_set ?_ GE164.out | refine below_set ?_ GE169.out | refine below_set ?_ GE174.out) | exact HB.out)))); have n4_ := Aside0.mk (blk_below (g := gb164) (o := .cells #[.int .i64 4, .slice Ao6 y161.length co6] 31 (0, 0)) (bA BK164.out) hb); have n5_ := Aside0.mk (blk_below (g := gb169) (o := .cells #[.int .i64 t165, .slice Ao13 t166.length co13] 31 (0, 0)) (bA BK169.out) hb); have n6_ := Aside0.mk (blk_below (g := gb174) (o := .cells #[.int .i64 t170, .slice Ao20 t171.length co20] 31 (0, 0)) (bA BK174.out) hb); have n7_ := Aside0.mk (below_step (by repeat (first | (with_reducible first | exact HB.out | apply below_alloc | apply pw_below_drewN | apply below_drew1 | refine below_set ?_ GE164.out | refine below_set ?_ GE169.out | refine below_set ?_ GE174.out) | exact HB.out)) hb); clear HO_165001; clear HO_170001; clear HO_175001; clear BK164; clear BK169; clear BK174; clear HB; have HO_165001 := n0_; have HO_170001 := n1_; have HO_175001 := n2_; have HO204 := n3_; have BK164 := n4_; have BK169 := n5_; have BK174 := n6_; have HB := n7_; clear n0_ n1_ n2_ n3_ n4_ n5_ n6_ n7_; (try clear hb); (try clear hb2); (try clear hk); (try clear hi); (try clear ho0); have hcz95_0 : w94.cell? ⟨gb169, 0, none⟩ = some (.int .i64 t165) := (blk_cell BK169.out 0).trans rfl; have hcz95_1 : w94.cell? ⟨gb169, 1, none⟩ = some (.slice Ao13 t166.length co13) := (blk_cell BK169.out 1).trans rfl; have hfz95_0 := blk_frozen BK169.out 0; have hfz95_1 := blk_frozen BK169.out 1) | (go_at_call 19; (with_reducible refine (wireloomlaw05_depth.calls t165 _ _ t166 t206 t209 _ ?side1 ?side2 A81.out).mono ?_); (case side1 => repeat (first | exact (Kd.R_reads' HO_170001.out).2.2 | (with_reducible refine Kd.C_alloc ?_ _) | (with_reducible refine Kd.C_drewN ?_ _) | (with_reducible refine Kd.C_drew ?_))); (case side2 => exact (Kd.R_reads' HO_170001.out).2.1); rintro e w96 ⟨v207, rfl, ho0, hb⟩; have n0_ := Aside0.mk (Kd.R_below (rA HO_165001.out) hb); have n1_ := Aside0.mk (Kd.R_below (rA HO_170001.out) hb); have n2_ := Aside0.mk (Kd.R_below (rA HO_175001.out) hb); have n3_ := Aside0.mk (Kd.R_elder' (rA HO204.out) (Kd.R_base ho0) hb); have n4_ := Aside0.mk (Kd.R_lower (Kd.R_new' ho0 (Kd.R_lt (rA HO204.out))) (below_size (by repeat (first | (with_reducible first | exact HB.out | apply below_alloc | apply pw_below_drewN | apply below_drew1 | refine below_set ?_ GE164.out | refine below_set ?_ GE169.out | refine below_set ?_ GE174.out) | exact HB.out)))); have n5_ := Aside0.mk (blk_below (g := gb164) (o := .cells #[.int .i64 4, .slice Ao6 y161.length co6] 31 (0, 0)) (bA BK164.out) hb); have n6_ := Aside0.mk (blk_below (g := gb169) (o := .cells #[.int .i64 t165, .slice Ao13 t166.length co13] 31 (0, 0)) (bA BK169.out) hb); have n7_ := Aside0.mk (blk_below (g := gb174) (o := .cells #[.int .i64 t170, .slice Ao20 t171.length co20] 31 (0, 0)) (bA BK174.out) hb); have n8_ := Aside0.mk (below_step (by repeat (first | (with_reducible first | exact HB.out | apply below_alloc | apply pw_below_drewN | apply below_drew1 | refine below_set ?_ GE164.out | refine below_set ?_ GE169.out | refine below_set ?_ GE174.out) | exact HB.out)) hb); clear HO_165001; clear HO_170001; clear HO_175001; clear HO204; clear BK164; clear BK169; clear BK174; clear HB; have HO_165001 := n0_; have HO_170001 := n1_; have HO_175001 := n2_; have HO204 := n3_; have HO208 := n4_; have BK164 := n5_; have BK169 := n6_; have BK174 := n7_; have HB := n8_; clear n0_ n1_ n2_ n3_ n4_ n5_ n6_ n7_ n8_; (try clear hb); (try clear hb2); (try clear hk); (try clear hi); (try clear ho0); have hcz97_0 : w96.cell? ⟨gb169, 0, none⟩ = some (.int .i64 t165) := (blk_cell BK169.out 0).trans rfl; have hcz97_1 : w96.cell? ⟨gb169, 1, none⟩ = some (.slice Ao13 t166.length co13) := (blk_cell BK169.out 1).trans rfl; have hfz97_0 := blk_frozen BK169.out 0; have hfz97_1 := blk_frozen BK169.out 1) | (go_at_call 17; (with_reducible refine (wireloomlaw05_cycle.calls t165 _ _ t166 t210 t213 _ ?side1 ?side2 A83.out).mono ?_); (case side1 => repeat (first | exact (Kd.R_reads' HO_170001.out).2.2 | (with_reducible refine Kd.C_alloc ?_ _) | (with_reducible refine Kd.C_drewN ?_ _) | (with_reducible refine Kd.C_drew ?_))); (case side2 => exact (Kd.R_reads' HO_170001.out).2.1); rintro e w98 ⟨v211, rfl, ho0, hb⟩; have n0_ := Aside0.mk (Kd.R_below (rA HO_165001.out) hb); have n1_ := Aside0.mk (Kd.R_below (rA HO_170001.out) hb); have n2_ := Aside0.mk (Kd.R_below (rA HO_175001.out) hb); have n3_ := Aside0.mk (Kd.R_elder' (rA HO204.out) (Kd.R_base ho0) hb); have n4_ := Aside0.mk (Kd.R_elder' (rA HO208.out) (Kd.R_base ho0) hb); have n5_ := Aside0.mk (Kd.R_lower (Kd.R_new' (Kd.R_new' ho0 (Kd.R_lt (rA HO204.out))) (Kd.R_lt (rA HO208.out))) (below_size (by repeat (first | (with_reducible first | exact HB.out | apply below_alloc | apply pw_below_drewN | apply below_drew1 | refine below_set ?_ GE164.out | refine below_set ?_ GE169.out | refine below_set ?_ GE174.out) | exact HB.out)))); have n6_ := Aside0.mk (blk_below (g := gb164) (o := .cells #[.int .i64 4, .slice Ao6 y161.length co6] 31 (0, 0)) (bA BK164.out) hb); have n7_ := Aside0.mk (blk_below (g := gb169) (o := .cells #[.int .i64 t165, .slice Ao13 t166.length co13] 31 (0, 0)) (bA BK169.out) hb); have n8_ := Aside0.mk (blk_below (g := gb174) (o := .cells #[.int .i64 t170, .slice Ao20 t171.length co20] 31 (0, 0)) (bA BK174.out) hb); have n9_ := Aside0.mk (below_step (by repeat (first | (with_reducible first | exact HB.out | apply below_alloc | apply pw_below_drewN | apply below_drew1 | refine below_set ?_ GE164.out | refine below_set ?_ GE169.out | refine below_set ?_ GE174.out) | exact HB.out)) hb); clear HO_165001; clear HO_170001; clear HO_175001; clear HO204; clear HO208; clear BK164; clear BK169; clear BK174; clear HB; have HO_165001 := n0_; have HO_170001 := n1_; have HO_175001 := n2_; have HO204 := n3_; have HO208 := n4_; have HO212 := n5_; have BK164 := n6_; have BK169 := n7_; have BK174 := n8_; have HB := n9_; clear n0_ n1_ n2_ n3_ n4_ n5_ n6_ n7_ n8_ n9_; (try clear hb); (try clear hb2); (try clear hk); (try clear hi); (try clear ho0)) | ((with_reducible refine gate_dst (N := 54) rfl ?_); (try (refine gate_guard (by rfl) ?_; dsimp only)); refine Kd.R_lit (Kd.int .i64) _ 3 ?hg (N := 54) ?hd (xs := ([0, 3, 2] : List Int)) (inner := [.int .i64 0, .int .i64 3, .int .i64 2]) (ok := fun _ => True) (okp := fun _ => True) ?hr ?hp (fun _ hk => hk) trivial (Below.refl _ _) (Nat.le_refl _) (by simp) ?_; (case hd => rfl); (case hg => rfl); (case hr => first | (go_simp; done) | (go_simp; rfl)); (case hp => exact (Reps.one (show Kd.M (Kd.int .i64) _ _ _ 0 [.int .i64 0] from rfl) (Reps.one (show Kd.M (Kd.int .i64) _ _ _ 3 [.int .i64 3] from rfl) (Reps.one (show Kd.M (Kd.int .i64) _ _ _ 2 [.int .i64 2] from rfl) (Reps.none _ _))))); intro v215 w99 ho100 hb hg_ hnew_; clear hg_ hnew_; (first | rw [← Ny214.out] at ho100 | (simp only [Int.reduceToNat] at ho100; rw [← Ny214.out] at ho100)); have n0_ := Aside0.mk (Kd.R_below (rA HO_165001.out) hb); have n1_ := Aside0.mk (Kd.R_below (rA HO_170001.out) hb); have n2_ := Aside0.mk (Kd.R_below (rA HO_175001.out) hb); have n3_ := Aside0.mk (Kd.R_elder' (rA HO204.out) (Kd.R_base ho100) hb); have n4_ := Aside0.mk (Kd.R_elder' (rA HO208.out) (Kd.R_base ho100) hb); have n5_ := Aside0.mk (Kd.R_elder' (rA HO212.out) (Kd.R_base ho100) hb); have n6_ := Aside0.mk (Kd.R_lower (Kd.R_new' (Kd.R_new' (Kd.R_new' ho100 (Kd.R_lt (rA HO204.out))) (Kd.R_lt (rA HO208.out))) (Kd.R_lt (rA HO212.out))) (below_size (by repeat (first | (with_reducible first | exact HB.out | apply below_alloc | apply pw_below_drewN | apply below_drew1 | refine below_set ?_ GE164.out | refine below_set ?_ GE169.out | refine below_set ?_ GE174.out) | exact HB.out)))); have n7_ := Aside0.mk (blk_below (g := gb164) (o := .cells #[.int .i64 4, .slice Ao6 y161.length co6] 31 (0, 0)) (bA BK164.out) hb); have n8_ := Aside0.mk (blk_below (g := gb169) (o := .cells #[.int .i64 t165, .slice Ao13 t166.length co13] 31 (0, 0)) (bA BK169.out) hb); have n9_ := Aside0.mk (blk_below (g := gb174) (o := .cells #[.int .i64 t170, .slice Ao20 t171.length co20] 31 (0, 0)) (bA BK174.out) hb); have n10_ := Aside0.mk (below_step (by repeat (first | (with_reducible first | exact HB.out | apply below_alloc | apply pw_below_drewN | apply below_drew1 | refine below_set ?_ GE164.out | refine below_set ?_ GE169.out | refine below_set ?_ GE174.out) | exact HB.out)) hb); clear HO_165001; clear HO_170001; clear HO_175001; clear HO204; clear HO208; clear HO212; clear BK164; clear BK169; clear BK174; clear HB; have HO_165001 := n0_; have HO_170001 := n1_; have HO_175001 := n2_; have HO204 := n3_; have HO208 := n4_; have HO212 := n5_; have HO216 := n6_; have BK164 := n7_; have BK169 := n8_; have BK174 := n9_; have HB := n10_; clear n0_ n1_ n2_ n3_ n4_ n5_ n6_ n7_ n8_ n9_ n10_; clear hb ho100; obtain ⟨Ao101, co101, eo101⟩ := Kd.R_slice HO216.out; subst eo101; obtain ⟨Ao102, co102, eo102⟩ := Kd.R_slice HO212.out; subst eo102) | (go_at_call 14; (with_reducible refine (wireloomref05_Alike.calls kj2 _ _ t210 t213 _ _ y214 0 true _ ?side1 ?side2 ?side3 ?side4 A84.out).mono ?_); (case side1 => repeat (first | exact (Kd.R_reads' HO212.out).2.2 | (with_reducible refine Kd.C_alloc ?_ _) | (with_reducible refine Kd.C_drewN ?_ _) | (with_reducible refine Kd.C_drew ?_))); (case side2 => exact (Kd.R_reads' HO212.out).2.1); (case side3 => repeat (first | exact (Kd.R_reads' HO216.out).2.2 | (with_reducible refine Kd.C_alloc ?_ _) | (with_reducible refine Kd.C_drewN ?_ _) | (with_reducible refine Kd.C_drew ?_))); (case side4 => exact (Kd.R_reads' HO216.out).2.1); rintro e w103 ⟨rfl, hb⟩; have n0_ := Aside0.mk (Kd.R_below (rA HO_165001.out) hb); have n1_ := Aside0.mk (Kd.R_below (rA HO_170001.out) hb); have n2_ := Aside0.mk (Kd.R_below (rA HO_175001.out) hb); have n3_ := Aside0.mk (Kd.R_below (rA HO204.out) hb); have n4_ := Aside0.mk (Kd.R_below (rA HO208.out) hb); have n5_ := Aside0.mk (Kd.R_below (rA HO212.out) hb); have n6_ := Aside0.mk (Kd.R_below (rA HO216.out) hb); have n7_ := Aside0.mk (blk_below (g := gb164) (o := .cells #[.int .i64 4, .slice Ao6 y161.length co6] 31 (0, 0)) (bA BK164.out) hb); have n8_ := Aside0.mk (blk_below (g := gb169) (o := .cells #[.int .i64 t165, .slice Ao13 t166.length co13] 31 (0, 0)) (bA BK169.out) hb); have n9_ := Aside0.mk (blk_below (g := gb174) (o := .cells #[.int .i64 t170, .slice Ao20 t171.length co20] 31 (0, 0)) (bA BK174.out) hb); have n10_ := Aside0.mk (below_step (by repeat (first | (with_reducible first | exact HB.out | apply below_alloc | apply pw_below_drewN | apply below_drew1 | refine below_set ?_ GE164.out | refine below_set ?_ GE169.out | refine below_set ?_ GE174.out) | exact HB.out)) hb); clear HO_165001; clear HO_170001; clear HO_175001; clear HO204; clear HO208; clear HO212; clear HO216; clear BK164; clear BK169; clear BK174; clear HB; have HO_165001 := n0_; have HO_170001 := n1_; have HO_175001 := n2_; have HO204 := n3_; have HO208 := n4_; have HO212 := n5_; have HO216 := n6_; have BK164 := n7_; have BK169 := n8_; have BK174 := n9_; have HB := n10_; clear n0_ n1_ n2_ n3_ n4_ n5_ n6_ n7_ n8_ n9_ n10_; (try clear hb); (try clear hb2); (try clear hk); (try clear hi); have hnb104 := NB174_164.out; have hnc104 := NB164_174.out; have hcz105_0 : w103.cell? ⟨gb174, 0, none⟩ = some (.int .i64 t170) := (blk_cell BK174.out 0).trans rfl; have hcz105_1 : w103.cell? ⟨gb174, 1, none⟩ = some (.slice Ao20 t171.length co20) := (blk_cell BK174.out 1).trans rfl; have hfz105_0 := blk_frozen BK174.out 0; have hfz105_1 := blk_frozen BK174.out 1) | (go_at_call 17; (with_reducible refine (wireloomlaw05_cycle.calls t170 _ _ t171 t218 t221 _ ?side1 ?side2 A86.out).mono ?_); (case side1 => repeat (first | exact (Kd.R_reads' HO_175001.out).2.2 | (with_reducible refine Kd.C_alloc ?_ _) | (with_reducible refine Kd.C_drewN ?_ _) | (with_reducible refine Kd.C_drew ?_))); (case side2 => exact (Kd.R_reads' HO_175001.out).2.1); rintro e w106 ⟨v219, rfl, ho0, hb⟩; have n0_ := Aside0.mk (Kd.R_below (rA HO_165001.out) hb); have n1_ := Aside0.mk (Kd.R_below (rA HO_170001.out) hb); have n2_ := Aside0.mk (Kd.R_below (rA HO_175001.out) hb); have n3_ := Aside0.mk (Kd.R_elder' (rA HO204.out) (Kd.R_base ho0) hb); have n4_ := Aside0.mk (Kd.R_elder' (rA HO208.out) (Kd.R_base ho0) hb); have n5_ := Aside0.mk (Kd.R_elder' (rA HO212.out) (Kd.R_base ho0) hb); have n6_ := Aside0.mk (Kd.R_elder' (rA HO216.out) (Kd.R_base ho0) hb); have n7_ := Aside0.mk (Kd.R_lower (Kd.R_new' (Kd.R_new' (Kd.R_new' (Kd.R_new' ho0 (Kd.R_lt (rA HO204.out))) (Kd.R_lt (rA HO208.out))) (Kd.R_lt (rA HO212.out))) (Kd.R_lt (rA HO216.out))) (below_size (by repeat (first | (with_reducible first | exact HB.out | apply below_alloc | apply pw_below_drewN | apply below_drew1 | refine below_set ?_ GE164.out | refine below_set ?_ GE169.out | refine below_set ?_ GE174.out) | exact HB.out)))); have n8_ := Aside0.mk (blk_below (g := gb164) (o := .cells #[.int .i64 4, .slice Ao6 y161.length co6] 31 (0, 0)) (bA BK164.out) hb); have n9_ := Aside0.mk (blk_below (g := gb169) (o := .cells #[.int .i64 t165, .slice Ao13 t166.length co13] 31 (0, 0)) (bA BK169.out) hb); have n10_ := Aside0.mk (blk_below (g := gb174) (o := .cells #[.int .i64 t170, .slice Ao20 t171.length co20] 31 (0, 0)) (bA BK174.out) hb); have n11_ := Aside0.mk (below_step (by repeat (first | (with_reducible first | exact HB.out | apply below_alloc | apply pw_below_drewN | apply below_drew1 | refine below_set ?_ GE164.out | refine below_set ?_ GE169.out | refine below_set ?_ GE174.out) | exact HB.out)) hb); clear HO_165001; clear HO_170001; clear HO_175001; clear HO204; clear HO208; clear HO212; clear HO216; clear BK164; clear BK169; clear BK174; clear HB; have HO_165001 := n0_; have HO_170001 := n1_; have HO_175001 := n2_; have HO204 := n3_; have HO208 := n4_; have HO212 := n5_; have HO216 := n6_; have HO220 := n7_; have BK164 := n8_; have BK169 := n9_; have BK174 := n10_; have HB := n11_; clear n0_ n1_ n2_ n3_ n4_ n5_ n6_ n7_ n8_ n9_ n10_ n11_; (try clear hb); (try clear hb2); (try clear hk); (try clear hi); (try clear ho0)) | ((with_reducible refine gate_dst (N := 62) rfl ?_); (try (refine gate_guard (by rfl) ?_; dsimp only)); refine Kd.R_lit (Kd.int .i64) _ 3 ?hg (N := 62) ?hd (xs := ([1] : List Int)) (inner := [.int .i64 1]) (ok := fun _ => True) (okp := fun _ => True) ?hr ?hp (fun _ hk => hk) trivial (Below.refl _ _) (Nat.le_refl _) (by simp) ?_; (case hd => rfl); (case hg => rfl); (case hr => first | (go_simp; done) | (go_simp; rfl)); (case hp => exact (Reps.one (show Kd.M (Kd.int .i64) _ _ _ 1 [.int .i64 1] from rfl) (Reps.none _ _))); intro v223 w107 ho108 hb hg_ hnew_; clear hg_ hnew_; (first | rw [← Ny222.out] at ho108 | (simp only [Int.reduceToNat] at ho108; rw [← Ny222.out] at ho108)); have n0_ := Aside0.mk (Kd.R_below (rA HO_165001.out) hb); have n1_ := Aside0.mk (Kd.R_below (rA HO_170001.out) hb); have n2_ := Aside0.mk (Kd.R_below (rA HO_175001.out) hb); have n3_ := Aside0.mk (Kd.R_elder' (rA HO204.out) (Kd.R_base ho108) hb); have n4_ := Aside0.mk (Kd.R_elder' (rA HO208.out) (Kd.R_base ho108) hb); have n5_ := Aside0.mk (Kd.R_elder' (rA HO212.out) (Kd.R_base ho108) hb); have n6_ := Aside0.mk (Kd.R_elder' (rA HO216.out) (Kd.R_base ho108) hb); have n7_ := Aside0.mk (Kd.R_elder' (rA HO220.out) (Kd.R_base ho108) hb); have n8_ := Aside0.mk (Kd.R_lower (Kd.R_new' (Kd.R_new' (Kd.R_new' (Kd.R_new' (Kd.R_new' ho108 (Kd.R_lt (rA HO204.out))) (Kd.R_lt (rA HO208.out))) (Kd.R_lt (rA HO212.out))) (Kd.R_lt (rA HO216.out))) (Kd.R_lt (rA HO220.out))) (below_size (by repeat (first | (with_reducible first | exact HB.out | apply below_alloc | apply pw_below_drewN | apply below_drew1 | refine below_set ?_ GE164.out | refine below_set ?_ GE169.out | refine below_set ?_ GE174.out) | exact HB.out)))); have n9_ := Aside0.mk (blk_below (g := gb164) (o := .cells #[.int .i64 4, .slice Ao6 y161.length co6] 31 (0, 0)) (bA BK164.out) hb); have n10_ := Aside0.mk (blk_below (g := gb169) (o := .cells #[.int .i64 t165, .slice Ao13 t166.length co13] 31 (0, 0)) (bA BK169.out) hb); have n11_ := Aside0.mk (blk_below (g := gb174) (o := .cells #[.int .i64 t170, .slice Ao20 t171.length co20] 31 (0, 0)) (bA BK174.out) hb); have n12_ := Aside0.mk (below_step (by repeat (first | (with_reducible first | exact HB.out | apply below_alloc | apply pw_below_drewN | apply below_drew1 | refine below_set ?_ GE164.out | refine below_set ?_ GE169.out | refine below_set ?_ GE174.out) | exact HB.out)) hb); clear HO_165001; clear HO_170001; clear HO_175001; clear HO204; clear HO208; clear HO212; clear HO216; clear HO220; clear BK164; clear BK169; clear BK174; clear HB; have HO_165001 := n0_; have HO_170001 := n1_; have HO_175001 := n2_; have HO204 := n3_; have HO208 := n4_; have HO212 := n5_; have HO216 := n6_; have HO220 := n7_; have HO224 := n8_; have BK164 := n9_; have BK169 := n10_; have BK174 := n11_; have HB := n12_; clear n0_ n1_ n2_ n3_ n4_ n5_ n6_ n7_ n8_ n9_ n10_ n11_ n12_; clear hb ho108; obtain ⟨Ao109, co109, eo109⟩ := Kd.R_slice HO224.out; subst eo109; obtain ⟨Ao110, co110, eo110⟩ := Kd.R_slice HO220.out; subst eo110) | (go_at_call 14; (with_reducible refine (wireloomref05_Alike.calls kj2 _ _ t218 t221 _ _ y222 0 true _ ?side1 ?side2 ?side3 ?side4 A87.out).mono ?_); (case side1 => repeat (first | exact (Kd.R_reads' HO220.out).2.2 | (with_reducible refine Kd.C_alloc ?_ _) | (with_reducible refine Kd.C_drewN ?_ _) | (with_reducible refine Kd.C_drew ?_))); (case side2 => exact (Kd.R_reads' HO220.out).2.1); (case side3 => repeat (first | exact (Kd.R_reads' HO224.out).2.2 | (with_reducible refine Kd.C_alloc ?_ _) | (with_reducible refine Kd.C_drewN ?_ _) | (with_reducible refine Kd.C_drew ?_))); (case side4 => exact (Kd.R_reads' HO224.out).2.1); rintro e w111 ⟨rfl, hb⟩; have n0_ := Aside0.mk (Kd.R_below (rA HO_165001.out) hb); have n1_ := Aside0.mk (Kd.R_below (rA HO_170001.out) hb); have n2_ := Aside0.mk (Kd.R_below (rA HO_175001.out) hb); have n3_ := Aside0.mk (Kd.R_below (rA HO204.out) hb); have n4_ := Aside0.mk (Kd.R_below (rA HO208.out) hb); have n5_ := Aside0.mk (Kd.R_below (rA HO212.out) hb); have n6_ := Aside0.mk (Kd.R_below (rA HO216.out) hb); have n7_ := Aside0.mk (Kd.R_below (rA HO220.out) hb); have n8_ := Aside0.mk (Kd.R_below (rA HO224.out) hb); have n9_ := Aside0.mk (blk_below (g := gb164) (o := .cells #[.int .i64 4, .slice Ao6 y161.length co6] 31 (0, 0)) (bA BK164.out) hb); have n10_ := Aside0.mk (blk_below (g := gb169) (o := .cells #[.int .i64 t165, .slice Ao13 t166.length co13] 31 (0, 0)) (bA BK169.out) hb); have n11_ := Aside0.mk (blk_below (g := gb174) (o := .cells #[.int .i64 t170, .slice Ao20 t171.length co20] 31 (0, 0)) (bA BK174.out) hb); have n12_ := Aside0.mk (below_step (by repeat (first | (with_reducible first | exact HB.out | apply below_alloc | apply pw_below_drewN | apply below_drew1 | refine below_set ?_ GE164.out | refine below_set ?_ GE169.out | refine below_set ?_ GE174.out) | exact HB.out)) hb); clear HO_165001; clear HO_170001; clear HO_175001; clear HO204; clear HO208; clear HO212; clear HO216; clear HO220; clear HO224; clear BK164; clear BK169; clear BK174; clear HB; have HO_165001 := n0_; have HO_170001 := n1_; have HO_175001 := n2_; have HO204 := n3_; have HO208 := n4_; have HO212 := n5_; have HO216 := n6_; have HO220 := n7_; have HO224 := n8_; have BK164 := n9_; have BK169 := n10_; have BK174 := n11_; have HB := n12_; clear n0_ n1_ n2_ n3_ n4_ n5_ n6_ n7_ n8_ n9_ n10_ n11_ n12_; (try clear hb); (try clear hb2); (try clear hk); (try clear hi); have hcz112_0 : w111.cell? ⟨gb169, 0, none⟩ = some (.int .i64 t165) := (blk_cell BK169.out 0).trans rfl; have hcz112_1 : w111.cell? ⟨gb169, 1, none⟩ = some (.slice Ao13 t166.length co13) := (blk_cell BK169.out 1).trans rfl; have hfz112_0 := blk_frozen BK169.out 0; have hfz112_1 := blk_frozen BK169.out 1) | (go_at_call 27; (with_reducible refine (digraph_Components.calls 4 _ _ t166 t226 _ ?side1 ?side2 A89.out).mono ?_); (case side1 => repeat (first | exact (Kd.R_reads' HO_170001.out).2.2 | (with_reducible refine Kd.C_alloc ?_ _) | (with_reducible refine Kd.C_drewN ?_ _) | (with_reducible refine Kd.C_drew ?_))); (case side2 => exact (Kd.R_reads' HO_170001.out).2.1); rintro e w113 ⟨v227, rfl, ho0, hb⟩; have n0_ := Aside0.mk (Kd.R_below (rA HO_165001.out) hb); have n1_ := Aside0.mk (Kd.R_below (rA HO_170001.out) hb); have n2_ := Aside0.mk (Kd.R_below (rA HO_175001.out) hb); have n3_ := Aside0.mk (Kd.R_below (rA HO204.out) hb); have n4_ := Aside0.mk (Kd.R_below (rA HO208.out) hb); have n5_ := Aside0.mk (Kd.R_below (rA HO212.out) hb); have n6_ := Aside0.mk (Kd.R_below (rA HO216.out) hb); have n7_ := Aside0.mk (Kd.R_below (rA HO220.out) hb); have n8_ := Aside0.mk (Kd.R_below (rA HO224.out) hb); have n9_ := Aside0.mk (Kd.N_lower (Kd.N_mono (ok' := fun k_ => some k_ ≠ (.slice Ao6 y161.length co6 : Value).ownBlock ∧ some k_ ≠ (.slice Ao13 t166.length co13 : Value).ownBlock ∧ some k_ ≠ (.slice Ao20 t171.length co20 : Value).ownBlock ∧ some k_ ≠ (v203 : Value).ownBlock ∧ some k_ ≠ (v207 : Value).ownBlock ∧ some k_ ≠ (.slice Ao102 t210.length co102 : Value).ownBlock ∧ some k_ ≠ (.slice Ao101 y214.length co101 : Value).ownBlock ∧ some k_ ≠ (.slice Ao110 t218.length co110 : Value).ownBlock ∧ some k_ ≠ (.slice Ao109 y222.length co109 : Value).ownBlock ∧ k_ ≠ gb164 ∧ k_ ≠ gb169 ∧ k_ ≠ gb174) (Kd.S_N (Kd.S_bound ho0)) (fun k_ hk_ => ⟨(Kd.fresh' (Kd.R_lt (rA HO_165001.out)) k_ hk_.2.1), (Kd.fresh' (Kd.R_lt (rA HO_170001.out)) k_ hk_.2.1), (Kd.fresh' (Kd.R_lt (rA HO_175001.out)) k_ hk_.2.1), (Kd.fresh' (Kd.R_lt (rA HO204.out)) k_ hk_.2.1), (Kd.fresh' (Kd.R_lt (rA HO208.out)) k_ hk_.2.1), (Kd.fresh' (Kd.R_lt (rA HO212.out)) k_ hk_.2.1), (Kd.fresh' (Kd.R_lt (rA HO216.out)) k_ hk_.2.1), (Kd.fresh' (Kd.R_lt (rA HO220.out)) k_ hk_.2.1), (Kd.fresh' (Kd.R_lt (rA HO224.out)) k_ hk_.2.1), (Kd.freshB (g := gb164) (o := .cells #[.int .i64 4, .slice Ao6 y161.length co6] 31 (0, 0)) (bA BK164.out) k_ hk_.2.1), (Kd.freshB (g := gb169) (o := .cells #[.int .i64 t165, .slice Ao13 t166.length co13] 31 (0, 0)) (bA BK169.out) k_ hk_.2.1), (Kd.freshB (g := gb174) (o := .cells #[.int .i64 t170, .slice Ao20 t171.length co20] 31 (0, 0)) (bA BK174.out) k_ hk_.2.1)⟩)) (below_size (by repeat (first | (with_reducible first | exact HB.out | apply below_alloc | apply pw_below_drewN | apply below_drew1 | refine below_set ?_ GE164.out | refine below_set ?_ GE169.out | refine below_set ?_ GE174.out) | exact HB.out)))); have n10_ := Aside0.mk (blk_below (g := gb164) (o := .cells #[.int .i64 4, .slice Ao6 y161.length co6] 31 (0, 0)) (bA BK164.out) hb); have n11_ := Aside0.mk (blk_below (g := gb169) (o := .cells #[.int .i64 t165, .slice Ao13 t166.length co13] 31 (0, 0)) (bA BK169.out) hb); have n12_ := Aside0.mk (blk_below (g := gb174) (o := .cells #[.int .i64 t170, .slice Ao20 t171.length co20] 31 (0, 0)) (bA BK174.out) hb); have n13_ := Aside0.mk (below_step (by repeat (first | (with_reducible first | exact HB.out | apply below_alloc | apply pw_below_drewN | apply below_drew1 | refine below_set ?_ GE164.out | refine below_set ?_ GE169.out | refine below_set ?_ GE174.out) | exact HB.out)) hb); clear HO_165001; clear HO_170001; clear HO_175001; clear HO204; clear HO208; clear HO212; clear HO216; clear HO220; clear HO224; clear BK164; clear BK169; clear BK174; clear HB; have HO_165001 := n0_; have HO_170001 := n1_; have HO_175001 := n2_; have HO204 := n3_; have HO208 := n4_; have HO212 := n5_; have HO216 := n6_; have HO220 := n7_; have HO224 := n8_; have HO228 := n9_; have BK164 := n10_; have BK169 := n11_; have BK174 := n12_; have HB := n13_; clear n0_ n1_ n2_ n3_ n4_ n5_ n6_ n7_ n8_ n9_ n10_ n11_ n12_ n13_; (try clear hb); (try clear hb2); (try clear hk); (try clear hi); (try clear ho0)) | ((with_reducible refine gate_dst (N := 71) rfl ?_); (try (refine gate_guard (by rfl) ?_; dsimp only)); refine Kd.R_lit (Kd.int .i64) _ 3 ?hg (N := 71) ?hd (xs := ([0, 2, 3] : List Int)) (inner := [.int .i64 0, .int .i64 2, .int .i64 3]) (ok := fun _ => True) (okp := fun _ => True) ?hr ?hp (fun _ hk => hk) trivial (Below.refl _ _) (Nat.le_refl _) (by simp) ?_; (case hd => rfl); (case hg => rfl); (case hr => first | (go_simp; done) | (go_simp; rfl)); (case hp => exact (Reps.one (show Kd.M (Kd.int .i64) _ _ _ 0 [.int .i64 0] from rfl) (Reps.one (show Kd.M (Kd.int .i64) _ _ _ 2 [.int .i64 2] from rfl) (Reps.one (show Kd.M (Kd.int .i64) _ _ _ 3 [.int .i64 3] from rfl) (Reps.none _ _))))); intro v230 w114 ho115 hb hg_ hnew_; clear hg_ hnew_; (first | rw [← Ny229.out] at ho115 | (simp only [Int.reduceToNat] at ho115; rw [← Ny229.out] at ho115)); have n0_ := Aside0.mk (Kd.R_below (rA HO_165001.out) hb); have n1_ := Aside0.mk (Kd.R_below (rA HO_170001.out) hb); have n2_ := Aside0.mk (Kd.R_below (rA HO_175001.out) hb); have n3_ := Aside0.mk (Kd.R_elder' (rA HO204.out) (Kd.R_base ho115) hb); have n4_ := Aside0.mk (Kd.R_elder' (rA HO208.out) (Kd.R_base ho115) hb); have n5_ := Aside0.mk (Kd.R_elder' (rA HO212.out) (Kd.R_base ho115) hb); have n6_ := Aside0.mk (Kd.R_elder' (rA HO216.out) (Kd.R_base ho115) hb); have n7_ := Aside0.mk (Kd.R_elder' (rA HO220.out) (Kd.R_base ho115) hb); have n8_ := Aside0.mk (Kd.R_elder' (rA HO224.out) (Kd.R_base ho115) hb); have n9_ := Aside0.mk (Kd.N_elder' (by (with_reducible repeat (first | apply Kd.N_alloc | apply Kd.N_drewN | apply Kd.N_drew)); exact HO228.out) (Kd.R_base ho115) hb); have n10_ := Aside0.mk (Kd.R_lower (Kd.R_new' (Kd.R_new' (Kd.R_new' (Kd.R_new' (Kd.R_new' (Kd.R_new' ho115 (Kd.R_lt (rA HO204.out))) (Kd.R_lt (rA HO208.out))) (Kd.R_lt (rA HO212.out))) (Kd.R_lt (rA HO216.out))) (Kd.R_lt (rA HO220.out))) (Kd.R_lt (rA HO224.out))) (below_size (by repeat (first | (with_reducible first | exact HB.out | apply below_alloc | apply pw_below_drewN | apply below_drew1 | refine below_set ?_ GE164.out | refine below_set ?_ GE169.out | refine below_set ?_ GE174.out) | exact HB.out)))); have n11_ := Aside0.mk (blk_below (g := gb164) (o := .cells #[.int .i64 4, .slice Ao6 y161.length co6] 31 (0, 0)) (bA BK164.out) hb); have n12_ := Aside0.mk (blk_below (g := gb169) (o := .cells #[.int .i64 t165, .slice Ao13 t166.length co13] 31 (0, 0)) (bA BK169.out) hb); have n13_ := Aside0.mk (blk_below (g := gb174) (o := .cells #[.int .i64 t170, .slice Ao20 t171.length co20] 31 (0, 0)) (bA BK174.out) hb); have n14_ := Aside0.mk (below_step (by repeat (first | (with_reducible first | exact HB.out | apply below_alloc | apply pw_below_drewN | apply below_drew1 | refine below_set ?_ GE164.out | refine below_set ?_ GE169.out | refine below_set ?_ GE174.out) | exact HB.out)) hb); clear HO_165001; clear HO_170001; clear HO_175001; clear HO204; clear HO208; clear HO212; clear HO216; clear HO220; clear HO224; clear HO228; clear BK164; clear BK169; clear BK174; clear HB; have HO_165001 := n0_; have HO_170001 := n1_; have HO_175001 := n2_; have HO204 := n3_; have HO208 := n4_; have HO212 := n5_; have HO216 := n6_; have HO220 := n7_; have HO224 := n8_; have HO228 := n9_; have HO231 := n10_; have BK164 := n11_; have BK169 := n12_; have BK174 := n13_; have HB := n14_; clear n0_ n1_ n2_ n3_ n4_ n5_ n6_ n7_ n8_ n9_ n10_ n11_ n12_ n13_ n14_; clear hb ho115) | ((with_reducible refine gate_dst (N := 72) rfl ?_); (try (refine gate_guard (by rfl) ?_; dsimp only)); refine Kd.R_lit (Kd.int .i64) _ 3 ?hg (N := 72) ?hd (xs := ([1] : List Int)) (inner := [.int .i64 1]) (ok := fun _ => True) (okp := fun _ => True) ?hr ?hp (fun _ hk => hk) trivial (Below.refl _ _) (Nat.le_refl _) (by simp) ?_; (case hd => rfl); (case hg => rfl); (case hr => first | (go_simp; done) | (go_simp; rfl)); (case hp => exact (Reps.one (show Kd.M (Kd.int .i64) _ _ _ 1 [.int .i64 1] from rfl) (Reps.none _ _))); intro v233 w116 ho117 hb hg_ hnew_; clear hg_ hnew_; (first | rw [← Ny232.out] at ho117 | (simp only [Int.reduceToNat] at ho117; rw [← Ny232.out] at ho117)); have n0_ := Aside0.mk (Kd.R_below (rA HO_165001.out) hb); have n1_ := Aside0.mk (Kd.R_below (rA HO_170001.out) hb); have n2_ := Aside0.mk (Kd.R_below (rA HO_175001.out) hb); have n3_ := Aside0.mk (Kd.R_elder' (rA HO204.out) (Kd.R_base ho117) hb); have n4_ := Aside0.mk (Kd.R_elder' (rA HO208.out) (Kd.R_base ho117) hb); have n5_ := Aside0.mk (Kd.R_elder' (rA HO212.out) (Kd.R_base ho117) hb); have n6_ := Aside0.mk (Kd.R_elder' (rA HO216.out) (Kd.R_base ho117) hb); have n7_ := Aside0.mk (Kd.R_elder' (rA HO220.out) (Kd.R_base ho117) hb); have n8_ := Aside0.mk (Kd.R_elder' (rA HO224.out) (Kd.R_base ho117) hb); have n9_ := Aside0.mk (Kd.N_elder' (by (with_reducible repeat (first | apply Kd.N_alloc | apply Kd.N_drewN | apply Kd.N_drew)); exact HO228.out) (Kd.R_base ho117) hb); have n10_ := Aside0.mk (Kd.R_elder' (rA HO231.out) (Kd.R_base ho117) hb); have n11_ := Aside0.mk (Kd.R_lower (Kd.R_new' (Kd.R_new' (Kd.R_new' (Kd.R_new' (Kd.R_new' (Kd.R_new' (Kd.R_new' ho117 (Kd.R_lt (rA HO204.out))) (Kd.R_lt (rA HO208.out))) (Kd.R_lt (rA HO212.out))) (Kd.R_lt (rA HO216.out))) (Kd.R_lt (rA HO220.out))) (Kd.R_lt (rA HO224.out))) (Kd.R_lt (rA HO231.out))) (below_size (by repeat (first | (with_reducible first | exact HB.out | apply below_alloc | apply pw_below_drewN | apply below_drew1 | refine below_set ?_ GE164.out | refine below_set ?_ GE169.out | refine below_set ?_ GE174.out) | exact HB.out)))); have n12_ := Aside0.mk (blk_below (g := gb164) (o := .cells #[.int .i64 4, .slice Ao6 y161.length co6] 31 (0, 0)) (bA BK164.out) hb); have n13_ := Aside0.mk (blk_below (g := gb169) (o := .cells #[.int .i64 t165, .slice Ao13 t166.length co13] 31 (0, 0)) (bA BK169.out) hb); have n14_ := Aside0.mk (blk_below (g := gb174) (o := .cells #[.int .i64 t170, .slice Ao20 t171.length co20] 31 (0, 0)) (bA BK174.out) hb); have n15_ := Aside0.mk (below_step (by repeat (first | (with_reducible first | exact HB.out | apply below_alloc | apply pw_below_drewN | apply below_drew1 | refine below_set ?_ GE164.out | refine below_set ?_ GE169.out | refine below_set ?_ GE174.out) | exact HB.out)) hb); clear HO_165001; clear HO_170001; clear HO_175001; clear HO204; clear HO208; clear HO212; clear HO216; clear HO220; clear HO224; clear HO228; clear HO231; clear BK164; clear BK169; clear BK174; clear HB; have HO_165001 := n0_; have HO_170001 := n1_; have HO_175001 := n2_; have HO204 := n3_; have HO208 := n4_; have HO212 := n5_; have HO216 := n6_; have HO220 := n7_; have HO224 := n8_; have HO228 := n9_; have HO231 := n10_; have HO234 := n11_; have BK164 := n12_; have BK169 := n13_; have BK174 := n14_; have HB := n15_; clear n0_ n1_ n2_ n3_ n4_ n5_ n6_ n7_ n8_ n9_ n10_ n11_ n12_ n13_ n14_ n15_; clear hb ho117; obtain ⟨Ao118, co118, eo118⟩ := Kd.R_slice HO231.out; subst eo118; obtain ⟨Ao119, co119, eo119⟩ := Kd.R_slice HO234.out; subst eo119) | ((with_reducible refine gate_dst (N := 73) rfl ?_); (try (refine gate_guard (by rfl) ?_; dsimp only)); refine Kd.N_lit (Kd.slice 3 (Kd.int .i64)) _ 26 ?hg (N' := 73) ?hd (xs := ([y229, y232] : List (List Int))) (inner := [.slice Ao118 y229.length co118, .slice Ao119 y232.length co119]) (ok := (fun k_ => some k_ ≠ (.slice Ao6 y161.length co6 : Value).ownBlock ∧ some k_ ≠ (.slice Ao13 t166.length co13 : Value).ownBlock ∧ some k_ ≠ (.slice Ao20 t171.length co20 : Value).ownBlock ∧ some k_ ≠ (v203 : Value).ownBlock ∧ some k_ ≠ (v207 : Value).ownBlock ∧ some k_ ≠ (.slice Ao102 t210.length co102 : Value).ownBlock ∧ some k_ ≠ (.slice Ao101 y214.length co101 : Value).ownBlock ∧ some k_ ≠ (.slice Ao110 t218.length co110 : Value).ownBlock ∧ some k_ ≠ (.slice Ao109 y222.length co109 : Value).ownBlock ∧ some k_ ≠ (v227 : Value).ownBlock ∧ k_ ≠ gb164 ∧ k_ ≠ gb169 ∧ k_ ≠ gb174)) (okp := (fun k_ => some k_ ≠ (.slice Ao6 y161.length co6 : Value).ownBlock ∧ some k_ ≠ (.slice Ao13 t166.length co13 : Value).ownBlock ∧ some k_ ≠ (.slice Ao20 t171.length co20 : Value).ownBlock ∧ some k_ ≠ (v203 : Value).ownBlock ∧ some k_ ≠ (v207 : Value).ownBlock ∧ some k_ ≠ (.slice Ao102 t210.length co102 : Value).ownBlock ∧ some k_ ≠ (.slice Ao101 y214.length co101 : Value).ownBlock ∧ some k_ ≠ (.slice Ao110 t218.length co110 : Value).ownBlock ∧ some k_ ≠ (.slice Ao109 y222.length co109 : Value).ownBlock ∧ some k_ ≠ (v227 : Value).ownBlock ∧ k_ ≠ gb164 ∧ k_ ≠ gb169 ∧ k_ ≠ gb174)) ?hr ?hp (fun _ hk => hk) ((show ∀ k_, w116.heap.size ≤ k_ → (fun k_ => some k_ ≠ (.slice Ao6 y161.length co6 : Value).ownBlock ∧ some k_ ≠ (.slice Ao13 t166.length co13 : Value).ownBlock ∧ some k_ ≠ (.slice Ao20 t171.length co20 : Value).ownBlock ∧ some k_ ≠ (v203 : Value).ownBlock ∧ some k_ ≠ (v207 : Value).ownBlock ∧ some k_ ≠ (.slice Ao102 t210.length co102 : Value).ownBlock ∧ some k_ ≠ (.slice Ao101 y214.length co101 : Value).ownBlock ∧ some k_ ≠ (.slice Ao110 t218.length co110 : Value).ownBlock ∧ some k_ ≠ (.slice Ao109 y222.length co109 : Value).ownBlock ∧ some k_ ≠ (v227 : Value).ownBlock ∧ k_ ≠ gb164 ∧ k_ ≠ gb169 ∧ k_ ≠ gb174) k_ from fun k_ hk => ⟨Kd.fresh' (Kd.R_lt (rA HO_165001.out)) k_ hk, Kd.fresh' (Kd.R_lt (rA HO_170001.out)) k_ hk, Kd.fresh' (Kd.R_lt (rA HO_175001.out)) k_ hk, Kd.fresh' (Kd.R_lt (rA HO204.out)) k_ hk, Kd.fresh' (Kd.R_lt (rA HO208.out)) k_ hk, Kd.fresh' (Kd.R_lt (rA HO212.out)) k_ hk, Kd.fresh' (Kd.R_lt (rA HO216.out)) k_ hk, Kd.fresh' (Kd.R_lt (rA HO220.out)) k_ hk, Kd.fresh' (Kd.R_lt (rA HO224.out)) k_ hk, Kd.fresh' (Kd.N_lt (by (with_reducible repeat (first | apply Kd.N_alloc | apply Kd.N_drewN | apply Kd.N_drew)); exact HO228.out)) k_ hk, Kd.freshB (g := gb164) (o := .cells #[.int .i64 4, .slice Ao6 y161.length co6] 31 (0, 0)) (bA BK164.out) k_ hk, Kd.freshB (g := gb169) (o := .cells #[.int .i64 t165, .slice Ao13 t166.length co13] 31 (0, 0)) (bA BK169.out) k_ hk, Kd.freshB (g := gb174) (o := .cells #[.int .i64 t170, .slice Ao20 t171.length co20] 31 (0, 0)) (bA BK174.out) k_ hk⟩) _ (Nat.le_refl _)) (Below.refl _ _) (Nat.le_refl _) (by simp) ?_; (case hd => rfl); (case hg => rfl); (case hr => first | (go_simp; done) | (go_simp; rfl)); (case hp => exact (Reps.one (show Kd.FK (Kd.slice 3 (Kd.int .i64)) _ _ y229 [.slice Ao118 y229.length co118] from (Kd.FK_slice_mk (Kd.R_reads' (Kd.R_mono (ok' := (fun k_ => some k_ ≠ (.slice Ao6 y161.length co6 : Value).ownBlock ∧ some k_ ≠ (.slice Ao13 t166.length co13 : Value).ownBlock ∧ some k_ ≠ (.slice Ao20 t171.length co20 : Value).ownBlock ∧ some k_ ≠ (v203 : Value).ownBlock ∧ some k_ ≠ (v207 : Value).ownBlock ∧ some k_ ≠ (.slice Ao102 t210.length co102 : Value).ownBlock ∧ some k_ ≠ (.slice Ao101 y214.length co101 : Value).ownBlock ∧ some k_ ≠ (.slice Ao110 t218.length co110 : Value).ownBlock ∧ some k_ ≠ (.slice Ao109 y222.length co109 : Value).ownBlock ∧ some k_ ≠ (v227 : Value).ownBlock ∧ k_ ≠ gb164 ∧ k_ ≠ gb169 ∧ k_ ≠ gb174)) (Kd.R_types (Kd.R_types (Kd.R_types (Kd.R_apart' (Kd.R_apart' (Kd.R_apart' (Kd.R_apart' (HO231.out) (Kd.R_typed HO_165001.out) (by decide)) (Kd.R_typed HO_170001.out) (by decide)) (Kd.R_typed HO_175001.out) (by decide)) (Kd.N_typed HO228.out) (by decide)) BK164.out (by decide)) BK169.out (by decide)) BK174.out (by decide)) (fun k_ hk => ⟨hk.1.1.1.1.1.1.2, ⟨hk.1.1.1.1.1.2, ⟨hk.1.1.1.1.2, ⟨hk.1.1.1.1.1.1.1.1.1.1.1.1.1.2, ⟨hk.1.1.1.1.1.1.1.1.1.1.1.1.2, ⟨hk.1.1.1.1.1.1.1.1.1.1.1.2, ⟨hk.1.1.1.1.1.1.1.1.1.1.2, ⟨hk.1.1.1.1.1.1.1.1.1.2, ⟨hk.1.1.1.1.1.1.1.1.2, ⟨hk.1.1.1.2, ⟨hk.1.1.2, ⟨hk.1.2, hk.2⟩⟩⟩⟩⟩⟩⟩⟩⟩⟩⟩⟩))).2.1 (Kd.R_F (Kd.R_mono (ok' := (fun k_ => some k_ ≠ (.slice Ao6 y161.length co6 : Value).ownBlock ∧ some k_ ≠ (.slice Ao13 t166.length co13 : Value).ownBlock ∧ some k_ ≠ (.slice Ao20 t171.length co20 : Value).ownBlock ∧ some k_ ≠ (v203 : Value).ownBlock ∧ some k_ ≠ (v207 : Value).ownBlock ∧ some k_ ≠ (.slice Ao102 t210.length co102 : Value).ownBlock ∧ some k_ ≠ (.slice Ao101 y214.length co101 : Value).ownBlock ∧ some k_ ≠ (.slice Ao110 t218.length co110 : Value).ownBlock ∧ some k_ ≠ (.slice Ao109 y222.length co109 : Value).ownBlock ∧ some k_ ≠ (v227 : Value).ownBlock ∧ k_ ≠ gb164 ∧ k_ ≠ gb169 ∧ k_ ≠ gb174)) (Kd.R_types (Kd.R_types (Kd.R_types (Kd.R_apart' (Kd.R_apart' (Kd.R_apart' (Kd.R_apart' (HO231.out) (Kd.R_typed HO_165001.out) (by decide)) (Kd.R_typed HO_170001.out) (by decide)) (Kd.R_typed HO_175001.out) (by decide)) (Kd.N_typed HO228.out) (by decide)) BK164.out (by decide)) BK169.out (by decide)) BK174.out (by decide)) (fun k_ hk => ⟨hk.1.1.1.1.1.1.2, ⟨hk.1.1.1.1.1.2, ⟨hk.1.1.1.1.2, ⟨hk.1.1.1.1.1.1.1.1.1.1.1.1.1.2, ⟨hk.1.1.1.1.1.1.1.1.1.1.1.1.2, ⟨hk.1.1.1.1.1.1.1.1.1.1.1.2, ⟨hk.1.1.1.1.1.1.1.1.1.1.2, ⟨hk.1.1.1.1.1.1.1.1.1.2, ⟨hk.1.1.1.1.1.1.1.1.2, ⟨hk.1.1.1.2, ⟨hk.1.1.2, ⟨hk.1.2, hk.2⟩⟩⟩⟩⟩⟩⟩⟩⟩⟩⟩⟩))))) (Reps.one (show Kd.FK (Kd.slice 3 (Kd.int .i64)) _ _ y232 [.slice Ao119 y232.length co119] from (Kd.FK_slice_mk (Kd.R_reads' (Kd.R_mono (ok' := (fun k_ => some k_ ≠ (.slice Ao6 y161.length co6 : Value).ownBlock ∧ some k_ ≠ (.slice Ao13 t166.length co13 : Value).ownBlock ∧ some k_ ≠ (.slice Ao20 t171.length co20 : Value).ownBlock ∧ some k_ ≠ (v203 : Value).ownBlock ∧ some k_ ≠ (v207 : Value).ownBlock ∧ some k_ ≠ (.slice Ao102 t210.length co102 : Value).ownBlock ∧ some k_ ≠ (.slice Ao101 y214.length co101 : Value).ownBlock ∧ some k_ ≠ (.slice Ao110 t218.length co110 : Value).ownBlock ∧ some k_ ≠ (.slice Ao109 y222.length co109 : Value).ownBlock ∧ some k_ ≠ (v227 : Value).ownBlock ∧ k_ ≠ gb164 ∧ k_ ≠ gb169 ∧ k_ ≠ gb174)) (Kd.R_types (Kd.R_types (Kd.R_types (Kd.R_apart' (Kd.R_apart' (Kd.R_apart' (Kd.R_apart' (HO234.out) (Kd.R_typed HO_165001.out) (by decide)) (Kd.R_typed HO_170001.out) (by decide)) (Kd.R_typed HO_175001.out) (by decide)) (Kd.N_typed HO228.out) (by decide)) BK164.out (by decide)) BK169.out (by decide)) BK174.out (by decide)) (fun k_ hk => ⟨hk.1.1.1.1.1.1.2, ⟨hk.1.1.1.1.1.2, ⟨hk.1.1.1.1.2, ⟨hk.1.1.1.1.1.1.1.1.1.1.1.1.1.2, ⟨hk.1.1.1.1.1.1.1.1.1.1.1.1.2, ⟨hk.1.1.1.1.1.1.1.1.1.1.1.2, ⟨hk.1.1.1.1.1.1.1.1.1.1.2, ⟨hk.1.1.1.1.1.1.1.1.1.2, ⟨hk.1.1.1.1.1.1.1.1.2, ⟨hk.1.1.1.2, ⟨hk.1.1.2, ⟨hk.1.2, hk.2⟩⟩⟩⟩⟩⟩⟩⟩⟩⟩⟩⟩))).2.1 (Kd.R_F (Kd.R_mono (ok' := (fun k_ => some k_ ≠ (.slice Ao6 y161.length co6 : Value).ownBlock ∧ some k_ ≠ (.slice Ao13 t166.length co13 : Value).ownBlock ∧ some k_ ≠ (.slice Ao20 t171.length co20 : Value).ownBlock ∧ some k_ ≠ (v203 : Value).ownBlock ∧ some k_ ≠ (v207 : Value).ownBlock ∧ some k_ ≠ (.slice Ao102 t210.length co102 : Value).ownBlock ∧ some k_ ≠ (.slice Ao101 y214.length co101 : Value).ownBlock ∧ some k_ ≠ (.slice Ao110 t218.length co110 : Value).ownBlock ∧ some k_ ≠ (.slice Ao109 y222.length co109 : Value).ownBlock ∧ some k_ ≠ (v227 : Value).ownBlock ∧ k_ ≠ gb164 ∧ k_ ≠ gb169 ∧ k_ ≠ gb174)) (Kd.R_types (Kd.R_types (Kd.R_types (Kd.R_apart' (Kd.R_apart' (Kd.R_apart' (Kd.R_apart' (HO234.out) (Kd.R_typed HO_165001.out) (by decide)) (Kd.R_typed HO_170001.out) (by decide)) (Kd.R_typed HO_175001.out) (by decide)) (Kd.N_typed HO228.out) (by decide)) BK164.out (by decide)) BK169.out (by decide)) BK174.out (by decide)) (fun k_ hk => ⟨hk.1.1.1.1.1.1.2, ⟨hk.1.1.1.1.1.2, ⟨hk.1.1.1.1.2, ⟨hk.1.1.1.1.1.1.1.1.1.1.1.1.1.2, ⟨hk.1.1.1.1.1.1.1.1.1.1.1.1.2, ⟨hk.1.1.1.1.1.1.1.1.1.1.1.2, ⟨hk.1.1.1.1.1.1.1.1.1.1.2, ⟨hk.1.1.1.1.1.1.1.1.1.2, ⟨hk.1.1.1.1.1.1.1.1.2, ⟨hk.1.1.1.2, ⟨hk.1.1.2, ⟨hk.1.2, hk.2⟩⟩⟩⟩⟩⟩⟩⟩⟩⟩⟩⟩))))) (Reps.none _ _)))); intro v236 w120 ho121 hb hg_ hnew_; clear hg_ hnew_; (first | rw [← Ny235.out] at ho121 | (simp only [Int.reduceToNat] at ho121; rw [← Ny235.out] at ho121)); have n0_ := Aside0.mk (Kd.R_below (rA HO_165001.out) hb); have n1_ := Aside0.mk (Kd.R_below (rA HO_170001.out) hb); have n2_ := Aside0.mk (Kd.R_below (rA HO_175001.out) hb); have n3_ := Aside0.mk (Kd.R_below (rA HO204.out) hb); have n4_ := Aside0.mk (Kd.R_below (rA HO208.out) hb); have n5_ := Aside0.mk (Kd.R_below (rA HO212.out) hb); have n6_ := Aside0.mk (Kd.R_below (rA HO216.out) hb); have n7_ := Aside0.mk (Kd.R_below (rA HO220.out) hb); have n8_ := Aside0.mk (Kd.R_below (rA HO224.out) hb); have n9_ := Aside0.mk (Kd.N_elder' (by (with_reducible repeat (first | apply Kd.N_alloc | apply Kd.N_drewN | apply Kd.N_drew)); exact HO228.out) (Kd.N_base ho121) hb); have n10_ := Aside0.mk (Kd.N_lower ho121 (below_size (by repeat (first | (with_reducible first | exact HB.out | apply below_alloc | apply pw_below_drewN | apply below_drew1 | refine below_set ?_ GE164.out | refine below_set ?_ GE169.out | refine below_set ?_ GE174.out) | exact HB.out)))); have n11_ := Aside0.mk (blk_below (g := gb164) (o := .cells #[.int .i64 4, .slice Ao6 y161.length co6] 31 (0, 0)) (bA BK164.out) hb); have n12_ := Aside0.mk (blk_below (g := gb169) (o := .cells #[.int .i64 t165, .slice Ao13 t166.length co13] 31 (0, 0)) (bA BK169.out) hb); have n13_ := Aside0.mk (blk_below (g := gb174) (o := .cells #[.int .i64 t170, .slice Ao20 t171.length co20] 31 (0, 0)) (bA BK174.out) hb); have n14_ := Aside0.mk (below_step (by repeat (first | (with_reducible first | exact HB.out | apply below_alloc | apply pw_below_drewN | apply below_drew1 | refine below_set ?_ GE164.out | refine below_set ?_ GE169.out | refine below_set ?_ GE174.out) | exact HB.out)) hb); clear HO_165001; clear HO_170001; clear HO_175001; clear HO204; clear HO208; clear HO212; clear HO216; clear HO220; clear HO224; clear HO228; clear BK164; clear BK169; clear BK174; clear HB; clear HO231; clear HO234; have HO_165001 := n0_; have HO_170001 := n1_; have HO_175001 := n2_; have HO204 := n3_; have HO208 := n4_; have HO212 := n5_; have HO216 := n6_; have HO220 := n7_; have HO224 := n8_; have HO228 := n9_; have HO237 := n10_; have BK164 := n11_; have BK169 := n12_; have BK174 := n13_; have HB := n14_; clear n0_ n1_ n2_ n3_ n4_ n5_ n6_ n7_ n8_ n9_ n10_ n11_ n12_ n13_ n14_; clear hb ho121; obtain ⟨Ao122, co122, eo122⟩ := Kd.N_slice HO228.out; subst eo122; obtain ⟨Ao123, co123, eo123⟩ := Kd.N_slice HO237.out; subst eo123) | (go_at_call 26; (with_reducible refine (wireloomref05_SameLists.calls kj2 _ _ t226 _ _ y235 t238 _ ?side1 ?side2 ?side3 ?side4 A90.out).mono ?_); (case side1 => repeat (first | exact (Kd.N_reads' HO228.out).2.2 | (with_reducible refine Kd.C_alloc ?_ _) | (with_reducible refine Kd.C_drewN ?_ _) | (with_reducible refine Kd.C_drew ?_))); (case side2 => exact (Kd.N_reads' HO228.out).2.1); (case side3 => repeat (first | exact (Kd.N_reads' HO237.out).2.2 | (with_reducible refine Kd.C_alloc ?_ _) | (with_reducible refine Kd.C_drewN ?_ _) | (with_reducible refine Kd.C_drew ?_))); (case side4 => exact (Kd.N_reads' HO237.out).2.1); rintro e w' ⟨rfl, ⟨nd, rfl⟩⟩))
         go_meet
         case rel => exact ⟨_, (!t238), (by first | rfl | (simp; done) | (simp [*]; done)), H', ⟨by have := HJ2.out; first | omega | exact Nat.le_refl _⟩, ⟨rA HO_165001.out⟩, ⟨rA HO_170001.out⟩, ⟨rA HO_175001.out⟩, ⟨bA BK164.out⟩, ⟨bA BK169.out⟩, ⟨bA BK174.out⟩, ⟨by repeat (first | (with_reducible first | exact HB.out | apply below_alloc | apply pw_below_drewN | apply below_drew1 | refine below_set ?_ GE164.out | refine below_set ?_ GE169.out | refine below_set ?_ GE174.out) | exact HB.out)⟩⟩
        ·replace c88 := Bool.eq_false_iff.mpr c88
         subst c88
         have H1 : (wireloomlaw05_examples.j1 kj2 true 4 y161) = some r := by rw [if_neg (show ¬ (false = true) by decide)] at H; exact H
         clear H
         have H := H1
         clear H1
         have H' := Aside0.mk H
         clear H
         have hnb124 := NB169_164.out
         have hnc124 := NB164_169.out
         have hnb125 := NB169_174.out
         have hnc125 := NB174_169.out
         have hcz126_0 : wc.cell? ⟨gb169, 0, none⟩ = some (.int .i64 t165) := (blk_cell BK169.out 0).trans rfl
         have hcz126_1 : wc.cell? ⟨gb169, 1, none⟩ = some (.slice Ao13 t166.length co13) := (blk_cell BK169.out 1).trans rfl
         have hfz126_0 := blk_frozen BK169.out 0
         have hfz126_1 := blk_frozen BK169.out 1
         go_wp2_with (first | ((with_reducible refine gate_callee (f := 15) rfl ?_); refine goesL_ (some 42) rfl rfl Try.func15 (by kernel_rfl) rfl #[.agg #[.int .i64 t165, .slice Ao13 t166.length co13]] rfl (by (try simp only [List.map_toArray, List.map_cons, List.map_nil]); first | done | rfl | (simp only [List.length_drop, List.length_take]; rfl)) ?_; (with_reducible refine (wireloomlaw05_order.calls t165 _ _ t166 t202 t205 _ ?side1 ?side2 A79.out).mono ?_); (case side1 => repeat (first | exact (Kd.R_reads' HO_170001.out).2.2 | (with_reducible refine Kd.C_alloc ?_ _) | (with_reducible refine Kd.C_drewN ?_ _) | (with_reducible refine Kd.C_drew ?_))); (case side2 => exact (Kd.R_reads' HO_170001.out).2.1); rintro e w127 ⟨v203, rfl, ho0, hb⟩; refine ⟨_, rfl, ?_⟩; have n0_ := Aside0.mk (Kd.R_below (rA HO_165001.out) hb); have n1_ := Aside0.mk (Kd.R_below (rA HO_170001.out) hb); have n2_ := Aside0.mk (Kd.R_below (rA HO_175001.out) hb); have n3_ := Aside0.mk (Kd.R_lower ho0 (below_size (by repeat (first | (with_reducible first | exact HB.out | apply below_alloc | apply pw_below_drewN | apply below_drew1 | refine below_set ?_ GE164.out | refine below_set ?_ GE169.out | refine below_set ?_ GE174.out) | exact HB.out)))); have n4_ := Aside0.mk (blk_below (g := gb164) (o := .cells #[.int .i64 4, .slice Ao6 y161.length co6] 31 (0, 0)) (bA BK164.out) hb); have n5_ := Aside0.mk (blk_below (g := gb169) (o := .cells #[.int .i64 t165, .slice Ao13 t166.length co13] 31 (0, 0)) (bA BK169.out) hb); have n6_ := Aside0.mk (blk_below (g := gb174) (o := .cells #[.int .i64 t170, .slice Ao20 t171.length co20] 31 (0, 0)) (bA BK174.out) hb); have n7_ := Aside0.mk (below_step (by repeat (first | (with_reducible first | exact HB.out | apply below_alloc | apply pw_below_drewN | apply below_drew1 | refine below_set ?_ GE164.out | refine below_set ?_ GE169.out | refine below_set ?_ GE174.out) | exact HB.out)) hb); clear HO_165001; clear HO_170001; clear HO_175001; clear BK164; clear BK169; clear BK174; clear HB; have HO_165001 := n0_; have HO_170001 := n1_; have HO_175001 := n2_; have HO204 := n3_; have BK164 := n4_; have BK169 := n5_; have BK174 := n6_; have HB := n7_; clear n0_ n1_ n2_ n3_ n4_ n5_ n6_ n7_; (try clear hb); (try clear hb2); (try clear hk); (try clear hi); (try clear ho0); have hcz128_0 : w127.cell? ⟨gb169, 0, none⟩ = some (.int .i64 t165) := (blk_cell BK169.out 0).trans rfl; have hcz128_1 : w127.cell? ⟨gb169, 1, none⟩ = some (.slice Ao13 t166.length co13) := (blk_cell BK169.out 1).trans rfl; have hfz128_0 := blk_frozen BK169.out 0; have hfz128_1 := blk_frozen BK169.out 1) | (go_at_call 19; (with_reducible refine (wireloomlaw05_depth.calls t165 _ _ t166 t206 t209 _ ?side1 ?side2 A81.out).mono ?_); (case side1 => repeat (first | exact (Kd.R_reads' HO_170001.out).2.2 | (with_reducible refine Kd.C_alloc ?_ _) | (with_reducible refine Kd.C_drewN ?_ _) | (with_reducible refine Kd.C_drew ?_))); (case side2 => exact (Kd.R_reads' HO_170001.out).2.1); rintro e w129 ⟨v207, rfl, ho0, hb⟩; have n0_ := Aside0.mk (Kd.R_below (rA HO_165001.out) hb); have n1_ := Aside0.mk (Kd.R_below (rA HO_170001.out) hb); have n2_ := Aside0.mk (Kd.R_below (rA HO_175001.out) hb); have n3_ := Aside0.mk (Kd.R_elder' (rA HO204.out) (Kd.R_base ho0) hb); have n4_ := Aside0.mk (Kd.R_lower (Kd.R_new' ho0 (Kd.R_lt (rA HO204.out))) (below_size (by repeat (first | (with_reducible first | exact HB.out | apply below_alloc | apply pw_below_drewN | apply below_drew1 | refine below_set ?_ GE164.out | refine below_set ?_ GE169.out | refine below_set ?_ GE174.out) | exact HB.out)))); have n5_ := Aside0.mk (blk_below (g := gb164) (o := .cells #[.int .i64 4, .slice Ao6 y161.length co6] 31 (0, 0)) (bA BK164.out) hb); have n6_ := Aside0.mk (blk_below (g := gb169) (o := .cells #[.int .i64 t165, .slice Ao13 t166.length co13] 31 (0, 0)) (bA BK169.out) hb); have n7_ := Aside0.mk (blk_below (g := gb174) (o := .cells #[.int .i64 t170, .slice Ao20 t171.length co20] 31 (0, 0)) (bA BK174.out) hb); have n8_ := Aside0.mk (below_step (by repeat (first | (with_reducible first | exact HB.out | apply below_alloc | apply pw_below_drewN | apply below_drew1 | refine below_set ?_ GE164.out | refine below_set ?_ GE169.out | refine below_set ?_ GE174.out) | exact HB.out)) hb); clear HO_165001; clear HO_170001; clear HO_175001; clear HO204; clear BK164; clear BK169; clear BK174; clear HB; have HO_165001 := n0_; have HO_170001 := n1_; have HO_175001 := n2_; have HO204 := n3_; have HO208 := n4_; have BK164 := n5_; have BK169 := n6_; have BK174 := n7_; have HB := n8_; clear n0_ n1_ n2_ n3_ n4_ n5_ n6_ n7_ n8_; (try clear hb); (try clear hb2); (try clear hk); (try clear hi); (try clear ho0); have hcz130_0 : w129.cell? ⟨gb169, 0, none⟩ = some (.int .i64 t165) := (blk_cell BK169.out 0).trans rfl; have hcz130_1 : w129.cell? ⟨gb169, 1, none⟩ = some (.slice Ao13 t166.length co13) := (blk_cell BK169.out 1).trans rfl; have hfz130_0 := blk_frozen BK169.out 0; have hfz130_1 := blk_frozen BK169.out 1) | (go_at_call 17; (with_reducible refine (wireloomlaw05_cycle.calls t165 _ _ t166 t210 t213 _ ?side1 ?side2 A83.out).mono ?_); (case side1 => repeat (first | exact (Kd.R_reads' HO_170001.out).2.2 | (with_reducible refine Kd.C_alloc ?_ _) | (with_reducible refine Kd.C_drewN ?_ _) | (with_reducible refine Kd.C_drew ?_))); (case side2 => exact (Kd.R_reads' HO_170001.out).2.1); rintro e w131 ⟨v211, rfl, ho0, hb⟩; have n0_ := Aside0.mk (Kd.R_below (rA HO_165001.out) hb); have n1_ := Aside0.mk (Kd.R_below (rA HO_170001.out) hb); have n2_ := Aside0.mk (Kd.R_below (rA HO_175001.out) hb); have n3_ := Aside0.mk (Kd.R_elder' (rA HO204.out) (Kd.R_base ho0) hb); have n4_ := Aside0.mk (Kd.R_elder' (rA HO208.out) (Kd.R_base ho0) hb); have n5_ := Aside0.mk (Kd.R_lower (Kd.R_new' (Kd.R_new' ho0 (Kd.R_lt (rA HO204.out))) (Kd.R_lt (rA HO208.out))) (below_size (by repeat (first | (with_reducible first | exact HB.out | apply below_alloc | apply pw_below_drewN | apply below_drew1 | refine below_set ?_ GE164.out | refine below_set ?_ GE169.out | refine below_set ?_ GE174.out) | exact HB.out)))); have n6_ := Aside0.mk (blk_below (g := gb164) (o := .cells #[.int .i64 4, .slice Ao6 y161.length co6] 31 (0, 0)) (bA BK164.out) hb); have n7_ := Aside0.mk (blk_below (g := gb169) (o := .cells #[.int .i64 t165, .slice Ao13 t166.length co13] 31 (0, 0)) (bA BK169.out) hb); have n8_ := Aside0.mk (blk_below (g := gb174) (o := .cells #[.int .i64 t170, .slice Ao20 t171.length co20] 31 (0, 0)) (bA BK174.out) hb); have n9_ := Aside0.mk (below_step (by repeat (first | (with_reducible first | exact HB.out | apply below_alloc | apply pw_below_drewN | apply below_drew1 | refine below_set ?_ GE164.out | refine below_set ?_ GE169.out | refine below_set ?_ GE174.out) | exact HB.out)) hb); clear HO_165001; clear HO_170001; clear HO_175001; clear HO204; clear HO208; clear BK164; clear BK169; clear BK174; clear HB; have HO_165001 := n0_; have HO_170001 := n1_; have HO_175001 := n2_; have HO204 := n3_; have HO208 := n4_; have HO212 := n5_; have BK164 := n6_; have BK169 := n7_; have BK174 := n8_; have HB := n9_; clear n0_ n1_ n2_ n3_ n4_ n5_ n6_ n7_ n8_ n9_; (try clear hb); (try clear hb2); (try clear hk); (try clear hi); (try clear ho0)) | ((with_reducible refine gate_dst (N := 54) rfl ?_); (try (refine gate_guard (by rfl) ?_; dsimp only)); refine Kd.R_lit (Kd.int .i64) _ 3 ?hg (N := 54) ?hd (xs := ([0, 3, 2] : List Int)) (inner := [.int .i64 0, .int .i64 3, .int .i64 2]) (ok := fun _ => True) (okp := fun _ => True) ?hr ?hp (fun _ hk => hk) trivial (Below.refl _ _) (Nat.le_refl _) (by simp) ?_; (case hd => rfl); (case hg => rfl); (case hr => first | (go_simp; done) | (go_simp; rfl)); (case hp => exact (Reps.one (show Kd.M (Kd.int .i64) _ _ _ 0 [.int .i64 0] from rfl) (Reps.one (show Kd.M (Kd.int .i64) _ _ _ 3 [.int .i64 3] from rfl) (Reps.one (show Kd.M (Kd.int .i64) _ _ _ 2 [.int .i64 2] from rfl) (Reps.none _ _))))); intro v215 w132 ho133 hb hg_ hnew_; clear hg_ hnew_; (first | rw [← Ny214.out] at ho133 | (simp only [Int.reduceToNat] at ho133; rw [← Ny214.out] at ho133)); have n0_ := Aside0.mk (Kd.R_below (rA HO_165001.out) hb); have n1_ := Aside0.mk (Kd.R_below (rA HO_170001.out) hb); have n2_ := Aside0.mk (Kd.R_below (rA HO_175001.out) hb); have n3_ := Aside0.mk (Kd.R_elder' (rA HO204.out) (Kd.R_base ho133) hb); have n4_ := Aside0.mk (Kd.R_elder' (rA HO208.out) (Kd.R_base ho133) hb); have n5_ := Aside0.mk (Kd.R_elder' (rA HO212.out) (Kd.R_base ho133) hb); have n6_ := Aside0.mk (Kd.R_lower (Kd.R_new' (Kd.R_new' (Kd.R_new' ho133 (Kd.R_lt (rA HO204.out))) (Kd.R_lt (rA HO208.out))) (Kd.R_lt (rA HO212.out))) (below_size (by repeat (first | (with_reducible first | exact HB.out | apply below_alloc | apply pw_below_drewN | apply below_drew1 | refine below_set ?_ GE164.out | refine below_set ?_ GE169.out | refine below_set ?_ GE174.out) | exact HB.out)))); have n7_ := Aside0.mk (blk_below (g := gb164) (o := .cells #[.int .i64 4, .slice Ao6 y161.length co6] 31 (0, 0)) (bA BK164.out) hb); have n8_ := Aside0.mk (blk_below (g := gb169) (o := .cells #[.int .i64 t165, .slice Ao13 t166.length co13] 31 (0, 0)) (bA BK169.out) hb); have n9_ := Aside0.mk (blk_below (g := gb174) (o := .cells #[.int .i64 t170, .slice Ao20 t171.length co20] 31 (0, 0)) (bA BK174.out) hb); have n10_ := Aside0.mk (below_step (by repeat (first | (with_reducible first | exact HB.out | apply below_alloc | apply pw_below_drewN | apply below_drew1 | refine below_set ?_ GE164.out | refine below_set ?_ GE169.out | refine below_set ?_ GE174.out) | exact HB.out)) hb); clear HO_165001; clear HO_170001; clear HO_175001; clear HO204; clear HO208; clear HO212; clear BK164; clear BK169; clear BK174; clear HB; have HO_165001 := n0_; have HO_170001 := n1_; have HO_175001 := n2_; have HO204 := n3_; have HO208 := n4_; have HO212 := n5_; have HO216 := n6_; have BK164 := n7_; have BK169 := n8_; have BK174 := n9_; have HB := n10_; clear n0_ n1_ n2_ n3_ n4_ n5_ n6_ n7_ n8_ n9_ n10_; clear hb ho133; obtain ⟨Ao134, co134, eo134⟩ := Kd.R_slice HO216.out; subst eo134; obtain ⟨Ao135, co135, eo135⟩ := Kd.R_slice HO212.out; subst eo135) | (go_at_call 14; (with_reducible refine (wireloomref05_Alike.calls kj2 _ _ t210 t213 _ _ y214 0 true _ ?side1 ?side2 ?side3 ?side4 A84.out).mono ?_); (case side1 => repeat (first | exact (Kd.R_reads' HO212.out).2.2 | (with_reducible refine Kd.C_alloc ?_ _) | (with_reducible refine Kd.C_drewN ?_ _) | (with_reducible refine Kd.C_drew ?_))); (case side2 => exact (Kd.R_reads' HO212.out).2.1); (case side3 => repeat (first | exact (Kd.R_reads' HO216.out).2.2 | (with_reducible refine Kd.C_alloc ?_ _) | (with_reducible refine Kd.C_drewN ?_ _) | (with_reducible refine Kd.C_drew ?_))); (case side4 => exact (Kd.R_reads' HO216.out).2.1); rintro e w136 ⟨rfl, hb⟩; have n0_ := Aside0.mk (Kd.R_below (rA HO_165001.out) hb); have n1_ := Aside0.mk (Kd.R_below (rA HO_170001.out) hb); have n2_ := Aside0.mk (Kd.R_below (rA HO_175001.out) hb); have n3_ := Aside0.mk (Kd.R_below (rA HO204.out) hb); have n4_ := Aside0.mk (Kd.R_below (rA HO208.out) hb); have n5_ := Aside0.mk (Kd.R_below (rA HO212.out) hb); have n6_ := Aside0.mk (Kd.R_below (rA HO216.out) hb); have n7_ := Aside0.mk (blk_below (g := gb164) (o := .cells #[.int .i64 4, .slice Ao6 y161.length co6] 31 (0, 0)) (bA BK164.out) hb); have n8_ := Aside0.mk (blk_below (g := gb169) (o := .cells #[.int .i64 t165, .slice Ao13 t166.length co13] 31 (0, 0)) (bA BK169.out) hb); have n9_ := Aside0.mk (blk_below (g := gb174) (o := .cells #[.int .i64 t170, .slice Ao20 t171.length co20] 31 (0, 0)) (bA BK174.out) hb); have n10_ := Aside0.mk (below_step (by repeat (first | (with_reducible first | exact HB.out | apply below_alloc | apply pw_below_drewN | apply below_drew1 | refine below_set ?_ GE164.out | refine below_set ?_ GE169.out | refine below_set ?_ GE174.out) | exact HB.out)) hb); clear HO_165001; clear HO_170001; clear HO_175001; clear HO204; clear HO208; clear HO212; clear HO216; clear BK164; clear BK169; clear BK174; clear HB; have HO_165001 := n0_; have HO_170001 := n1_; have HO_175001 := n2_; have HO204 := n3_; have HO208 := n4_; have HO212 := n5_; have HO216 := n6_; have BK164 := n7_; have BK169 := n8_; have BK174 := n9_; have HB := n10_; clear n0_ n1_ n2_ n3_ n4_ n5_ n6_ n7_ n8_ n9_ n10_; (try clear hb); (try clear hb2); (try clear hk); (try clear hi); have hnb137 := NB174_164.out; have hnc137 := NB164_174.out; have hcz138_0 : w136.cell? ⟨gb174, 0, none⟩ = some (.int .i64 t170) := (blk_cell BK174.out 0).trans rfl; have hcz138_1 : w136.cell? ⟨gb174, 1, none⟩ = some (.slice Ao20 t171.length co20) := (blk_cell BK174.out 1).trans rfl; have hfz138_0 := blk_frozen BK174.out 0; have hfz138_1 := blk_frozen BK174.out 1) | (go_at_call 17; (with_reducible refine (wireloomlaw05_cycle.calls t170 _ _ t171 t218 t221 _ ?side1 ?side2 A86.out).mono ?_); (case side1 => repeat (first | exact (Kd.R_reads' HO_175001.out).2.2 | (with_reducible refine Kd.C_alloc ?_ _) | (with_reducible refine Kd.C_drewN ?_ _) | (with_reducible refine Kd.C_drew ?_))); (case side2 => exact (Kd.R_reads' HO_175001.out).2.1); rintro e w139 ⟨v219, rfl, ho0, hb⟩; have n0_ := Aside0.mk (Kd.R_below (rA HO_165001.out) hb); have n1_ := Aside0.mk (Kd.R_below (rA HO_170001.out) hb); have n2_ := Aside0.mk (Kd.R_below (rA HO_175001.out) hb); have n3_ := Aside0.mk (Kd.R_elder' (rA HO204.out) (Kd.R_base ho0) hb); have n4_ := Aside0.mk (Kd.R_elder' (rA HO208.out) (Kd.R_base ho0) hb); have n5_ := Aside0.mk (Kd.R_elder' (rA HO212.out) (Kd.R_base ho0) hb); have n6_ := Aside0.mk (Kd.R_elder' (rA HO216.out) (Kd.R_base ho0) hb); have n7_ := Aside0.mk (Kd.R_lower (Kd.R_new' (Kd.R_new' (Kd.R_new' (Kd.R_new' ho0 (Kd.R_lt (rA HO204.out))) (Kd.R_lt (rA HO208.out))) (Kd.R_lt (rA HO212.out))) (Kd.R_lt (rA HO216.out))) (below_size (by repeat (first | (with_reducible first | exact HB.out | apply below_alloc | apply pw_below_drewN | apply below_drew1 | refine below_set ?_ GE164.out | refine below_set ?_ GE169.out | refine below_set ?_ GE174.out) | exact HB.out)))); have n8_ := Aside0.mk (blk_below (g := gb164) (o := .cells #[.int .i64 4, .slice Ao6 y161.length co6] 31 (0, 0)) (bA BK164.out) hb); have n9_ := Aside0.mk (blk_below (g := gb169) (o := .cells #[.int .i64 t165, .slice Ao13 t166.length co13] 31 (0, 0)) (bA BK169.out) hb); have n10_ := Aside0.mk (blk_below (g := gb174) (o := .cells #[.int .i64 t170, .slice Ao20 t171.length co20] 31 (0, 0)) (bA BK174.out) hb); have n11_ := Aside0.mk (below_step (by repeat (first | (with_reducible first | exact HB.out | apply below_alloc | apply pw_below_drewN | apply below_drew1 | refine below_set ?_ GE164.out | refine below_set ?_ GE169.out | refine below_set ?_ GE174.out) | exact HB.out)) hb); clear HO_165001; clear HO_170001; clear HO_175001; clear HO204; clear HO208; clear HO212; clear HO216; clear BK164; clear BK169; clear BK174; clear HB; have HO_165001 := n0_; have HO_170001 := n1_; have HO_175001 := n2_; have HO204 := n3_; have HO208 := n4_; have HO212 := n5_; have HO216 := n6_; have HO220 := n7_; have BK164 := n8_; have BK169 := n9_; have BK174 := n10_; have HB := n11_; clear n0_ n1_ n2_ n3_ n4_ n5_ n6_ n7_ n8_ n9_ n10_ n11_; (try clear hb); (try clear hb2); (try clear hk); (try clear hi); (try clear ho0)) | ((with_reducible refine gate_dst (N := 62) rfl ?_); (try (refine gate_guard (by rfl) ?_; dsimp only)); refine Kd.R_lit (Kd.int .i64) _ 3 ?hg (N := 62) ?hd (xs := ([1] : List Int)) (inner := [.int .i64 1]) (ok := fun _ => True) (okp := fun _ => True) ?hr ?hp (fun _ hk => hk) trivial (Below.refl _ _) (Nat.le_refl _) (by simp) ?_; (case hd => rfl); (case hg => rfl); (case hr => first | (go_simp; done) | (go_simp; rfl)); (case hp => exact (Reps.one (show Kd.M (Kd.int .i64) _ _ _ 1 [.int .i64 1] from rfl) (Reps.none _ _))); intro v223 w140 ho141 hb hg_ hnew_; clear hg_ hnew_; (first | rw [← Ny222.out] at ho141 | (simp only [Int.reduceToNat] at ho141; rw [← Ny222.out] at ho141)); have n0_ := Aside0.mk (Kd.R_below (rA HO_165001.out) hb); have n1_ := Aside0.mk (Kd.R_below (rA HO_170001.out) hb); have n2_ := Aside0.mk (Kd.R_below (rA HO_175001.out) hb); have n3_ := Aside0.mk (Kd.R_elder' (rA HO204.out) (Kd.R_base ho141) hb); have n4_ := Aside0.mk (Kd.R_elder' (rA HO208.out) (Kd.R_base ho141) hb); have n5_ := Aside0.mk (Kd.R_elder' (rA HO212.out) (Kd.R_base ho141) hb); have n6_ := Aside0.mk (Kd.R_elder' (rA HO216.out) (Kd.R_base ho141) hb); have n7_ := Aside0.mk (Kd.R_elder' (rA HO220.out) (Kd.R_base ho141) hb); have n8_ := Aside0.mk (Kd.R_lower (Kd.R_new' (Kd.R_new' (Kd.R_new' (Kd.R_new' (Kd.R_new' ho141 (Kd.R_lt (rA HO204.out))) (Kd.R_lt (rA HO208.out))) (Kd.R_lt (rA HO212.out))) (Kd.R_lt (rA HO216.out))) (Kd.R_lt (rA HO220.out))) (below_size (by repeat (first | (with_reducible first | exact HB.out | apply below_alloc | apply pw_below_drewN | apply below_drew1 | refine below_set ?_ GE164.out | refine below_set ?_ GE169.out | refine below_set ?_ GE174.out) | exact HB.out)))); have n9_ := Aside0.mk (blk_below (g := gb164) (o := .cells #[.int .i64 4, .slice Ao6 y161.length co6] 31 (0, 0)) (bA BK164.out) hb); have n10_ := Aside0.mk (blk_below (g := gb169) (o := .cells #[.int .i64 t165, .slice Ao13 t166.length co13] 31 (0, 0)) (bA BK169.out) hb); have n11_ := Aside0.mk (blk_below (g := gb174) (o := .cells #[.int .i64 t170, .slice Ao20 t171.length co20] 31 (0, 0)) (bA BK174.out) hb); have n12_ := Aside0.mk (below_step (by repeat (first | (with_reducible first | exact HB.out | apply below_alloc | apply pw_below_drewN | apply below_drew1 | refine below_set ?_ GE164.out | refine below_set ?_ GE169.out | refine below_set ?_ GE174.out) | exact HB.out)) hb); clear HO_165001; clear HO_170001; clear HO_175001; clear HO204; clear HO208; clear HO212; clear HO216; clear HO220; clear BK164; clear BK169; clear BK174; clear HB; have HO_165001 := n0_; have HO_170001 := n1_; have HO_175001 := n2_; have HO204 := n3_; have HO208 := n4_; have HO212 := n5_; have HO216 := n6_; have HO220 := n7_; have HO224 := n8_; have BK164 := n9_; have BK169 := n10_; have BK174 := n11_; have HB := n12_; clear n0_ n1_ n2_ n3_ n4_ n5_ n6_ n7_ n8_ n9_ n10_ n11_ n12_; clear hb ho141; obtain ⟨Ao142, co142, eo142⟩ := Kd.R_slice HO224.out; subst eo142; obtain ⟨Ao143, co143, eo143⟩ := Kd.R_slice HO220.out; subst eo143) | (go_at_call 14; (with_reducible refine (wireloomref05_Alike.calls kj2 _ _ t218 t221 _ _ y222 0 false _ ?side1 ?side2 ?side3 ?side4 A87.out).mono ?_); (case side1 => repeat (first | exact (Kd.R_reads' HO220.out).2.2 | (with_reducible refine Kd.C_alloc ?_ _) | (with_reducible refine Kd.C_drewN ?_ _) | (with_reducible refine Kd.C_drew ?_))); (case side2 => exact (Kd.R_reads' HO220.out).2.1); (case side3 => repeat (first | exact (Kd.R_reads' HO224.out).2.2 | (with_reducible refine Kd.C_alloc ?_ _) | (with_reducible refine Kd.C_drewN ?_ _) | (with_reducible refine Kd.C_drew ?_))); (case side4 => exact (Kd.R_reads' HO224.out).2.1); rintro e w144 ⟨rfl, hb⟩; have n0_ := Aside0.mk (Kd.R_below (rA HO_165001.out) hb); have n1_ := Aside0.mk (Kd.R_below (rA HO_170001.out) hb); have n2_ := Aside0.mk (Kd.R_below (rA HO_175001.out) hb); have n3_ := Aside0.mk (Kd.R_below (rA HO204.out) hb); have n4_ := Aside0.mk (Kd.R_below (rA HO208.out) hb); have n5_ := Aside0.mk (Kd.R_below (rA HO212.out) hb); have n6_ := Aside0.mk (Kd.R_below (rA HO216.out) hb); have n7_ := Aside0.mk (Kd.R_below (rA HO220.out) hb); have n8_ := Aside0.mk (Kd.R_below (rA HO224.out) hb); have n9_ := Aside0.mk (blk_below (g := gb164) (o := .cells #[.int .i64 4, .slice Ao6 y161.length co6] 31 (0, 0)) (bA BK164.out) hb); have n10_ := Aside0.mk (blk_below (g := gb169) (o := .cells #[.int .i64 t165, .slice Ao13 t166.length co13] 31 (0, 0)) (bA BK169.out) hb); have n11_ := Aside0.mk (blk_below (g := gb174) (o := .cells #[.int .i64 t170, .slice Ao20 t171.length co20] 31 (0, 0)) (bA BK174.out) hb); have n12_ := Aside0.mk (below_step (by repeat (first | (with_reducible first | exact HB.out | apply below_alloc | apply pw_below_drewN | apply below_drew1 | refine below_set ?_ GE164.out | refine below_set ?_ GE169.out | refine below_set ?_ GE174.out) | exact HB.out)) hb); clear HO_165001; clear HO_170001; clear HO_175001; clear HO204; clear HO208; clear HO212; clear HO216; clear HO220; clear HO224; clear BK164; clear BK169; clear BK174; clear HB; have HO_165001 := n0_; have HO_170001 := n1_; have HO_175001 := n2_; have HO204 := n3_; have HO208 := n4_; have HO212 := n5_; have HO216 := n6_; have HO220 := n7_; have HO224 := n8_; have BK164 := n9_; have BK169 := n10_; have BK174 := n11_; have HB := n12_; clear n0_ n1_ n2_ n3_ n4_ n5_ n6_ n7_ n8_ n9_ n10_ n11_ n12_; (try clear hb); (try clear hb2); (try clear hk); (try clear hi)))
         go_meet
         case rel => exact ⟨_, (true), (by first | rfl | (simp; done) | (simp [*]; done)), H', ⟨by have := HJ2.out; first | omega | exact Nat.le_refl _⟩, ⟨rA HO_165001.out⟩, ⟨rA HO_170001.out⟩, ⟨rA HO_175001.out⟩, ⟨bA BK164.out⟩, ⟨bA BK169.out⟩, ⟨bA BK174.out⟩, ⟨by repeat (first | (with_reducible first | exact HB.out | apply below_alloc | apply pw_below_drewN | apply below_drew1 | refine below_set ?_ GE164.out | refine below_set ?_ GE169.out | refine below_set ?_ GE174.out) | exact HB.out)⟩⟩
       ·replace c85 := Bool.eq_false_iff.mpr c85
        subst c85
        have H1 : (none) = some r := by rw [if_neg (show ¬ (false = true) by decide)] at H; exact H
        clear H
        have H := H1
        clear H1
        exact absurd H (by simp)
      ·rw [if_neg c82] at H
       exact absurd H (by simp)
     ·rw [if_neg c80] at H
      exact absurd H (by simp)
    case rest =>
     clear HC78
     try clear c1
     try clear c2
     try clear p2
     try clear c3
     try clear c5
     try clear c7
     try clear c8
     try clear c9
     try clear c10
     try clear c11
     try clear c12
     try clear c13
     try clear c14
     try clear c15
     try clear c17
     try clear c18
     try clear c23
     try clear c26
     try clear c29
     try clear c31
     try clear c32
     try clear c55
     try clear c56
     try clear c77
     try clear c80
     try clear c80b0
     try clear c80b1
     try clear c82
     try clear c82b0
     try clear c82b1
     try clear c85
     try clear c88
     try clear c91
     try clear c92
     try clear c104
     try clear c124
     try clear c125
     try clear c137
     try clear hcz105_0
     try clear hcz105_1
     try clear hcz112_0
     try clear hcz112_1
     try clear hcz126_0
     try clear hcz126_1
     try clear hcz128_0
     try clear hcz128_1
     try clear hcz12_0
     try clear hcz12_1
     try clear hcz130_0
     try clear hcz130_1
     try clear hcz138_0
     try clear hcz138_1
     try clear hcz14_0
     try clear hcz14_1
     try clear hcz19_0
     try clear hcz19_1
     try clear hcz33_0
     try clear hcz33_1
     try clear hcz40_0
     try clear hcz40_1
     try clear hcz47_0
     try clear hcz47_1
     try clear hcz53_0
     try clear hcz53_1
     try clear hcz57_0
     try clear hcz57_1
     try clear hcz64_0
     try clear hcz64_1
     try clear hcz71_0
     try clear hcz71_1
     try clear hcz8_0
     try clear hcz8_1
     try clear hcz93_0
     try clear hcz93_1
     try clear hcz95_0
     try clear hcz95_1
     try clear hcz97_0
     try clear hcz97_1
     try clear hfz105_0
     try clear hfz105_1
     try clear hfz112_0
     try clear hfz112_1
     try clear hfz126_0
     try clear hfz126_1
     try clear hfz128_0
     try clear hfz128_1
     try clear hfz12_0
     try clear hfz12_1
     try clear hfz130_0
     try clear hfz130_1
     try clear hfz138_0
     try clear hfz138_1
     try clear hfz14_0
     try clear hfz14_1
     try clear hfz19_0
     try clear hfz19_1
     try clear hfz33_0
     try clear hfz33_1
     try clear hfz40_0
     try clear hfz40_1
     try clear hfz47_0
     try clear hfz47_1
     try clear hfz53_0
     try clear hfz53_1
     try clear hfz57_0
     try clear hfz57_1
     try clear hfz64_0
     try clear hfz64_1
     try clear hfz71_0
     try clear hfz71_1
     try clear hfz8_0
     try clear hfz8_1
     try clear hfz93_0
     try clear hfz93_1
     try clear hfz95_0
     try clear hfz95_1
     try clear hfz97_0
     try clear hfz97_1
     try clear p2
     obtain ⟨kq, x76_77, rfl, HA, HJ77, HO_165001, HO_170001, HO_175001, BK164, BK169, BK174, HB⟩ := hcut
     cases kq with
     | zero => exact absurd HA.out (by simp [wireloomlaw05_examples.j1])
     | succ kj77 =>
      have H := HA.out
      clear HA
      simp only [wireloomlaw05_examples.j1] at H
      by_cases c145 : x76_77 = true
      ·subst c145
       have H1 : (none) = some r := by rw [if_pos rfl] at H; exact H
       clear H
       have H := H1
       clear H1
       exact absurd H (by simp)
      ·replace c145 := Bool.eq_false_iff.mpr c145
       subst c145
       have H1 : ((digraph_Valid.f kj77 4 y161).bind fun t239 => (if t239 = true then ((digraph_Valid.f kj77 3 y161).bind fun t240 => (if t240 = true then (none) else ((digraph_Check.f 4 y161 (([2, 0, 1, 3] : List Int))).bind fun t244 => (if t244 = 0 then ((digraph_Check.f 4 y161 (([0, 1, 2, 3] : List Int))).bind fun t248 => (if t248 = 6 then ((wireloomlaw05_order.f 0 ([] : List (S55))).bind fun bt249 => (if bt249.2 = 0 then ((digraph_Reach.f 4 y161 4).bind fun t253 => (some ((t253.length : Int) == 0))) else (none))) else (none))) else (none))))) else (none))) = some r := by rw [if_neg (show ¬ (false = true) by decide)] at H; exact H
       clear H
       have H := H1
       clear H1
       replace H := Option.bind_eq_some_iff.mp H
       obtain ⟨t239, A1460, H⟩ := H
       replace H : (if t239 = true then ((digraph_Valid.f kj77 3 y161).bind fun t240 => (if t240 = true then (none) else ((digraph_Check.f 4 y161 (([2, 0, 1, 3] : List Int))).bind fun t244 => (if t244 = 0 then ((digraph_Check.f 4 y161 (([0, 1, 2, 3] : List Int))).bind fun t248 => (if t248 = 6 then ((wireloomlaw05_order.f 0 ([] : List (S55))).bind fun bt249 => (if bt249.2 = 0 then ((digraph_Reach.f 4 y161 4).bind fun t253 => (some ((t253.length : Int) == 0))) else (none))) else (none))) else (none))))) else (none)) = some r := H
       have A146 := Aside0.mk A1460
       clear A1460
       by_cases c147 : t239 = true
       ·subst c147
        have H1 : ((digraph_Valid.f kj77 3 y161).bind fun t240 => (if t240 = true then (none) else ((digraph_Check.f 4 y161 (([2, 0, 1, 3] : List Int))).bind fun t244 => (if t244 = 0 then ((digraph_Check.f 4 y161 (([0, 1, 2, 3] : List Int))).bind fun t248 => (if t248 = 6 then ((wireloomlaw05_order.f 0 ([] : List (S55))).bind fun bt249 => (if bt249.2 = 0 then ((digraph_Reach.f 4 y161 4).bind fun t253 => (some ((t253.length : Int) == 0))) else (none))) else (none))) else (none))))) = some r := by rw [if_pos rfl] at H; exact H
        clear H
        have H := H1
        clear H1
        replace H := Option.bind_eq_some_iff.mp H
        obtain ⟨t240, A1480, H⟩ := H
        replace H : (if t240 = true then (none) else ((digraph_Check.f 4 y161 (([2, 0, 1, 3] : List Int))).bind fun t244 => (if t244 = 0 then ((digraph_Check.f 4 y161 (([0, 1, 2, 3] : List Int))).bind fun t248 => (if t248 = 6 then ((wireloomlaw05_order.f 0 ([] : List (S55))).bind fun bt249 => (if bt249.2 = 0 then ((digraph_Reach.f 4 y161 4).bind fun t253 => (some ((t253.length : Int) == 0))) else (none))) else (none))) else (none)))) = some r := H
        have A148 := Aside0.mk A1480
        clear A1480
        by_cases c149 : t240 = true
        ·subst c149
         have H1 : (none) = some r := by rw [if_pos rfl] at H; exact H
         clear H
         have H := H1
         clear H1
         exact absurd H (by simp)
        ·replace c149 := Bool.eq_false_iff.mpr c149
         subst c149
         have H1 : ((digraph_Check.f 4 y161 (([2, 0, 1, 3] : List Int))).bind fun t244 => (if t244 = 0 then ((digraph_Check.f 4 y161 (([0, 1, 2, 3] : List Int))).bind fun t248 => (if t248 = 6 then ((wireloomlaw05_order.f 0 ([] : List (S55))).bind fun bt249 => (if bt249.2 = 0 then ((digraph_Reach.f 4 y161 4).bind fun t253 => (some ((t253.length : Int) == 0))) else (none))) else (none))) else (none))) = some r := by rw [if_neg (show ¬ (false = true) by decide)] at H; exact H
         clear H
         have H := H1
         clear H1
         obtain ⟨y241, hy241⟩ : ∃ y_ : List Int, y_ = (([2, 0, 1, 3] : List Int)) := ⟨_, rfl⟩
         replace H : ((digraph_Check.f 4 y161 y241).bind fun t244 => (if t244 = 0 then ((digraph_Check.f 4 y161 (([0, 1, 2, 3] : List Int))).bind fun t248 => (if t248 = 6 then ((wireloomlaw05_order.f 0 ([] : List (S55))).bind fun bt249 => (if bt249.2 = 0 then ((digraph_Reach.f 4 y161 4).bind fun t253 => (some ((t253.length : Int) == 0))) else (none))) else (none))) else (none))) = some r := by first | (rw [hy241]; with_reducible exact H) | (have H2_ := (Option.bind_some _ _).symm.trans H; rw [hy241]; with_reducible exact H2_) | (have H2_ := (Option.bind_some _ _).symm.trans H; with_reducible exact H2_) | with_reducible exact H | (rw [hy241]; exact H) | exact H
         have Ny241 := Aside0.mk hy241
         clear hy241
         replace H := Option.bind_eq_some_iff.mp H
         obtain ⟨t244, A1500, H⟩ := H
         replace H : (if t244 = 0 then ((digraph_Check.f 4 y161 (([0, 1, 2, 3] : List Int))).bind fun t248 => (if t248 = 6 then ((wireloomlaw05_order.f 0 ([] : List (S55))).bind fun bt249 => (if bt249.2 = 0 then ((digraph_Reach.f 4 y161 4).bind fun t253 => (some ((t253.length : Int) == 0))) else (none))) else (none))) else (none)) = some r := H
         have A150 := Aside0.mk A1500
         clear A1500
         by_cases c151 : t244 = 0
         ·rw [if_pos c151] at H
          have c151b0 : (t244 == 0) = true := beq_iff_eq.mpr c151
          have c151b1 : (t244 != 0) = false := bne_eq_false_iff_eq.mpr c151
          clear c151
          obtain ⟨y245, hy245⟩ : ∃ y_ : List Int, y_ = (([0, 1, 2, 3] : List Int)) := ⟨_, rfl⟩
          replace H : ((digraph_Check.f 4 y161 y245).bind fun t248 => (if t248 = 6 then ((wireloomlaw05_order.f 0 ([] : List (S55))).bind fun bt249 => (if bt249.2 = 0 then ((digraph_Reach.f 4 y161 4).bind fun t253 => (some ((t253.length : Int) == 0))) else (none))) else (none))) = some r := by first | (rw [hy245]; with_reducible exact H) | (have H2_ := (Option.bind_some _ _).symm.trans H; rw [hy245]; with_reducible exact H2_) | (have H2_ := (Option.bind_some _ _).symm.trans H; with_reducible exact H2_) | with_reducible exact H | (rw [hy245]; exact H) | exact H
          have Ny245 := Aside0.mk hy245
          clear hy245
          replace H := Option.bind_eq_some_iff.mp H
          obtain ⟨t248, A1520, H⟩ := H
          replace H : (if t248 = 6 then ((wireloomlaw05_order.f 0 ([] : List (S55))).bind fun bt249 => (if bt249.2 = 0 then ((digraph_Reach.f 4 y161 4).bind fun t253 => (some ((t253.length : Int) == 0))) else (none))) else (none)) = some r := H
          have A152 := Aside0.mk A1520
          clear A1520
          by_cases c153 : t248 = 6
          ·rw [if_pos c153] at H
           have c153b0 : (t248 == 6) = true := beq_iff_eq.mpr c153
           have c153b1 : (t248 != 6) = false := bne_eq_false_iff_eq.mpr c153
           clear c153
           replace H := Option.bind_eq_some_iff.mp H
           obtain ⟨⟨t249, t252⟩, A1540, H⟩ := H
           replace H : (if t252 = 0 then ((digraph_Reach.f 4 y161 4).bind fun t253 => (some ((t253.length : Int) == 0))) else (none)) = some r := H
           have A154 := Aside0.mk A1540
           clear A1540
           by_cases c155 : t252 = 0
           ·rw [if_pos c155] at H
            have c155b0 : (t252 == 0) = true := beq_iff_eq.mpr c155
            have c155b1 : (t252 != 0) = false := bne_eq_false_iff_eq.mpr c155
            clear c155
            replace H := Option.bind_eq_some_iff.mp H
            obtain ⟨t253, A1560, H⟩ := H
            replace H : (some ((t253.length : Int) == 0)) = some r := H
            have A156 := Aside0.mk A1560
            clear A1560
            obtain rfl := Option.some.inj H
            have hnb157 := NB164_169.out
            have hnc157 := NB169_164.out
            have hnb158 := NB164_174.out
            have hnc158 := NB174_164.out
            have hcz159_0 : wc.cell? ⟨gb164, 0, none⟩ = some (.int .i64 4) := (blk_cell BK164.out 0).trans rfl
            have hcz159_1 : wc.cell? ⟨gb164, 1, none⟩ = some (.slice Ao6 y161.length co6) := (blk_cell BK164.out 1).trans rfl
            have hfz159_0 := blk_frozen BK164.out 0
            have hfz159_1 := blk_frozen BK164.out 1
            go_wp2_with (first | ((with_reducible refine gate_callee (f := 12) rfl ?_); refine goesL_ (some 79) rfl rfl Try.func12 (by kernel_rfl) rfl #[.int .i64 4, .slice Ao6 y161.length co6] rfl (by (try simp only [List.map_toArray, List.map_cons, List.map_nil]); first | done | rfl | (simp only [List.length_drop, List.length_take]; rfl)) ?_; (with_reducible refine (digraph_Valid.calls kj77 4 _ _ y161 true _ ?side1 ?side2 A146.out).mono ?_); (case side1 => repeat (first | exact (Kd.R_reads' HO_165001.out).2.2 | (with_reducible refine Kd.C_alloc ?_ _) | (with_reducible refine Kd.C_drewN ?_ _) | (with_reducible refine Kd.C_drew ?_))); (case side2 => exact (Kd.R_reads' HO_165001.out).2.1); rintro e w160 ⟨rfl, hb⟩; refine ⟨_, rfl, ?_⟩; have n0_ := Aside0.mk (Kd.R_below (rA HO_165001.out) hb); have n1_ := Aside0.mk (Kd.R_below (rA HO_170001.out) hb); have n2_ := Aside0.mk (Kd.R_below (rA HO_175001.out) hb); have n3_ := Aside0.mk (blk_below (g := gb164) (o := .cells #[.int .i64 4, .slice Ao6 y161.length co6] 31 (0, 0)) (bA BK164.out) hb); have n4_ := Aside0.mk (blk_below (g := gb169) (o := .cells #[.int .i64 t165, .slice Ao13 t166.length co13] 31 (0, 0)) (bA BK169.out) hb); have n5_ := Aside0.mk (blk_below (g := gb174) (o := .cells #[.int .i64 t170, .slice Ao20 t171.length co20] 31 (0, 0)) (bA BK174.out) hb); have n6_ := Aside0.mk (below_step (by repeat (first | (with_reducible first | exact HB.out | apply below_alloc | apply pw_below_drewN | apply below_drew1 | refine below_set ?_ GE164.out | refine below_set ?_ GE169.out | refine below_set ?_ GE174.out) | exact HB.out)) hb); clear HO_165001; clear HO_170001; clear HO_175001; clear BK164; clear BK169; clear BK174; clear HB; have HO_165001 := n0_; have HO_170001 := n1_; have HO_175001 := n2_; have BK164 := n3_; have BK169 := n4_; have BK174 := n5_; have HB := n6_; clear n0_ n1_ n2_ n3_ n4_ n5_ n6_; (try clear hb); (try clear hb2); (try clear hk); (try clear hi); have hcz161_0 : w160.cell? ⟨gb164, 0, none⟩ = some (.int .i64 4) := (blk_cell BK164.out 0).trans rfl; have hcz161_1 : w160.cell? ⟨gb164, 1, none⟩ = some (.slice Ao6 y161.length co6) := (blk_cell BK164.out 1).trans rfl; have hfz161_0 := blk_frozen BK164.out 0; have hfz161_1 := blk_frozen BK164.out 1) | (go_at_call 12; (with_reducible refine (digraph_Valid.calls kj77 3 _ _ y161 false _ ?side1 ?side2 A148.out).mono ?_); (case side1 => repeat (first | exact (Kd.R_reads' HO_165001.out).2.2 | (with_reducible refine Kd.C_alloc ?_ _) | (with_reducible refine Kd.C_drewN ?_ _) | (with_reducible refine Kd.C_drew ?_))); (case side2 => exact (Kd.R_reads' HO_165001.out).2.1); rintro e w162 ⟨rfl, hb⟩; have n0_ := Aside0.mk (Kd.R_below (rA HO_165001.out) hb); have n1_ := Aside0.mk (Kd.R_below (rA HO_170001.out) hb); have n2_ := Aside0.mk (Kd.R_below (rA HO_175001.out) hb); have n3_ := Aside0.mk (blk_below (g := gb164) (o := .cells #[.int .i64 4, .slice Ao6 y161.length co6] 31 (0, 0)) (bA BK164.out) hb); have n4_ := Aside0.mk (blk_below (g := gb169) (o := .cells #[.int .i64 t165, .slice Ao13 t166.length co13] 31 (0, 0)) (bA BK169.out) hb); have n5_ := Aside0.mk (blk_below (g := gb174) (o := .cells #[.int .i64 t170, .slice Ao20 t171.length co20] 31 (0, 0)) (bA BK174.out) hb); have n6_ := Aside0.mk (below_step (by repeat (first | (with_reducible first | exact HB.out | apply below_alloc | apply pw_below_drewN | apply below_drew1 | refine below_set ?_ GE164.out | refine below_set ?_ GE169.out | refine below_set ?_ GE174.out) | exact HB.out)) hb); clear HO_165001; clear HO_170001; clear HO_175001; clear BK164; clear BK169; clear BK174; clear HB; have HO_165001 := n0_; have HO_170001 := n1_; have HO_175001 := n2_; have BK164 := n3_; have BK169 := n4_; have BK174 := n5_; have HB := n6_; clear n0_ n1_ n2_ n3_ n4_ n5_ n6_; (try clear hb); (try clear hb2); (try clear hk); (try clear hi); have hcz163_0 : w162.cell? ⟨gb164, 0, none⟩ = some (.int .i64 4) := (blk_cell BK164.out 0).trans rfl; have hcz163_1 : w162.cell? ⟨gb164, 1, none⟩ = some (.slice Ao6 y161.length co6) := (blk_cell BK164.out 1).trans rfl; have hfz163_0 := blk_frozen BK164.out 0; have hfz163_1 := blk_frozen BK164.out 1) | ((with_reducible refine gate_dst (N := 89) rfl ?_); (try (refine gate_guard (by rfl) ?_; dsimp only)); refine Kd.R_lit (Kd.int .i64) _ 3 ?hg (N := 89) ?hd (xs := ([2, 0, 1, 3] : List Int)) (inner := [.int .i64 2, .int .i64 0, .int .i64 1, .int .i64 3]) (ok := fun _ => True) (okp := fun _ => True) ?hr ?hp (fun _ hk => hk) trivial (Below.refl _ _) (Nat.le_refl _) (by simp) ?_; (case hd => rfl); (case hg => rfl); (case hr => first | (go_simp; done) | (go_simp; rfl)); (case hp => exact (Reps.one (show Kd.M (Kd.int .i64) _ _ _ 2 [.int .i64 2] from rfl) (Reps.one (show Kd.M (Kd.int .i64) _ _ _ 0 [.int .i64 0] from rfl) (Reps.one (show Kd.M (Kd.int .i64) _ _ _ 1 [.int .i64 1] from rfl) (Reps.one (show Kd.M (Kd.int .i64) _ _ _ 3 [.int .i64 3] from rfl) (Reps.none _ _)))))); intro v242 w164 ho165 hb hg_ hnew_; clear hg_ hnew_; (first | rw [← Ny241.out] at ho165 | (simp only [Int.reduceToNat] at ho165; rw [← Ny241.out] at ho165)); have n0_ := Aside0.mk (Kd.R_below (rA HO_165001.out) hb); have n1_ := Aside0.mk (Kd.R_below (rA HO_170001.out) hb); have n2_ := Aside0.mk (Kd.R_below (rA HO_175001.out) hb); have n3_ := Aside0.mk (Kd.R_lower ho165 (below_size (by repeat (first | (with_reducible first | exact HB.out | apply below_alloc | apply pw_below_drewN | apply below_drew1 | refine below_set ?_ GE164.out | refine below_set ?_ GE169.out | refine below_set ?_ GE174.out) | exact HB.out)))); have n4_ := Aside0.mk (blk_below (g := gb164) (o := .cells #[.int .i64 4, .slice Ao6 y161.length co6] 31 (0, 0)) (bA BK164.out) hb); have n5_ := Aside0.mk (blk_below (g := gb169) (o := .cells #[.int .i64 t165, .slice Ao13 t166.length co13] 31 (0, 0)) (bA BK169.out) hb); have n6_ := Aside0.mk (blk_below (g := gb174) (o := .cells #[.int .i64 t170, .slice Ao20 t171.length co20] 31 (0, 0)) (bA BK174.out) hb); have n7_ := Aside0.mk (below_step (by repeat (first | (with_reducible first | exact HB.out | apply below_alloc | apply pw_below_drewN | apply below_drew1 | refine below_set ?_ GE164.out | refine below_set ?_ GE169.out | refine below_set ?_ GE174.out) | exact HB.out)) hb); clear HO_165001; clear HO_170001; clear HO_175001; clear BK164; clear BK169; clear BK174; clear HB; have HO_165001 := n0_; have HO_170001 := n1_; have HO_175001 := n2_; have HO243 := n3_; have BK164 := n4_; have BK169 := n5_; have BK174 := n6_; have HB := n7_; clear n0_ n1_ n2_ n3_ n4_ n5_ n6_ n7_; clear hb ho165; obtain ⟨Ao166, co166, eo166⟩ := Kd.R_slice HO243.out; subst eo166) | (go_at_call 21; (with_reducible refine (digraph_Check.calls 4 _ _ y161 _ _ y241 t244 _ ?side1 ?side2 ?side3 ?side4 A150.out).mono ?_); (case side1 => repeat (first | exact (Kd.R_reads' HO_165001.out).2.2 | (with_reducible refine Kd.C_alloc ?_ _) | (with_reducible refine Kd.C_drewN ?_ _) | (with_reducible refine Kd.C_drew ?_))); (case side2 => exact (Kd.R_reads' HO_165001.out).2.1); (case side3 => repeat (first | exact (Kd.R_reads' HO243.out).2.2 | (with_reducible refine Kd.C_alloc ?_ _) | (with_reducible refine Kd.C_drewN ?_ _) | (with_reducible refine Kd.C_drew ?_))); (case side4 => exact (Kd.R_reads' HO243.out).2.1); rintro e w167 ⟨rfl, hb⟩; have n0_ := Aside0.mk (Kd.R_below (rA HO_165001.out) hb); have n1_ := Aside0.mk (Kd.R_below (rA HO_170001.out) hb); have n2_ := Aside0.mk (Kd.R_below (rA HO_175001.out) hb); have n3_ := Aside0.mk (Kd.R_below (rA HO243.out) hb); have n4_ := Aside0.mk (blk_below (g := gb164) (o := .cells #[.int .i64 4, .slice Ao6 y161.length co6] 31 (0, 0)) (bA BK164.out) hb); have n5_ := Aside0.mk (blk_below (g := gb169) (o := .cells #[.int .i64 t165, .slice Ao13 t166.length co13] 31 (0, 0)) (bA BK169.out) hb); have n6_ := Aside0.mk (blk_below (g := gb174) (o := .cells #[.int .i64 t170, .slice Ao20 t171.length co20] 31 (0, 0)) (bA BK174.out) hb); have n7_ := Aside0.mk (below_step (by repeat (first | (with_reducible first | exact HB.out | apply below_alloc | apply pw_below_drewN | apply below_drew1 | refine below_set ?_ GE164.out | refine below_set ?_ GE169.out | refine below_set ?_ GE174.out) | exact HB.out)) hb); clear HO_165001; clear HO_170001; clear HO_175001; clear HO243; clear BK164; clear BK169; clear BK174; clear HB; have HO_165001 := n0_; have HO_170001 := n1_; have HO_175001 := n2_; have HO243 := n3_; have BK164 := n4_; have BK169 := n5_; have BK174 := n6_; have HB := n7_; clear n0_ n1_ n2_ n3_ n4_ n5_ n6_ n7_; (try clear hb); (try clear hb2); (try clear hk); (try clear hi); have hcz168_0 : w167.cell? ⟨gb164, 0, none⟩ = some (.int .i64 4) := (blk_cell BK164.out 0).trans rfl; have hcz168_1 : w167.cell? ⟨gb164, 1, none⟩ = some (.slice Ao6 y161.length co6) := (blk_cell BK164.out 1).trans rfl; have hfz168_0 := blk_frozen BK164.out 0; have hfz168_1 := blk_frozen BK164.out 1) | ((with_reducible refine gate_dst (N := 96) rfl ?_); (try (refine gate_guard (by rfl) ?_; dsimp only)); refine Kd.R_lit (Kd.int .i64) _ 3 ?hg (N := 96) ?hd (xs := ([0, 1, 2, 3] : List Int)) (inner := [.int .i64 0, .int .i64 1, .int .i64 2, .int .i64 3]) (ok := fun _ => True) (okp := fun _ => True) ?hr ?hp (fun _ hk => hk) trivial (Below.refl _ _) (Nat.le_refl _) (by simp) ?_; (case hd => rfl); (case hg => rfl); (case hr => first | (go_simp; done) | (go_simp; rfl)); (case hp => exact (Reps.one (show Kd.M (Kd.int .i64) _ _ _ 0 [.int .i64 0] from rfl) (Reps.one (show Kd.M (Kd.int .i64) _ _ _ 1 [.int .i64 1] from rfl) (Reps.one (show Kd.M (Kd.int .i64) _ _ _ 2 [.int .i64 2] from rfl) (Reps.one (show Kd.M (Kd.int .i64) _ _ _ 3 [.int .i64 3] from rfl) (Reps.none _ _)))))); intro v246 w169 ho170 hb hg_ hnew_; clear hg_ hnew_; (first | rw [← Ny245.out] at ho170 | (simp only [Int.reduceToNat] at ho170; rw [← Ny245.out] at ho170)); have n0_ := Aside0.mk (Kd.R_below (rA HO_165001.out) hb); have n1_ := Aside0.mk (Kd.R_below (rA HO_170001.out) hb); have n2_ := Aside0.mk (Kd.R_below (rA HO_175001.out) hb); have n3_ := Aside0.mk (Kd.R_elder' (rA HO243.out) (Kd.R_base ho170) hb); have n4_ := Aside0.mk (Kd.R_lower (Kd.R_new' ho170 (Kd.R_lt (rA HO243.out))) (below_size (by repeat (first | (with_reducible first | exact HB.out | apply below_alloc | apply pw_below_drewN | apply below_drew1 | refine below_set ?_ GE164.out | refine below_set ?_ GE169.out | refine below_set ?_ GE174.out) | exact HB.out)))); have n5_ := Aside0.mk (blk_below (g := gb164) (o := .cells #[.int .i64 4, .slice Ao6 y161.length co6] 31 (0, 0)) (bA BK164.out) hb); have n6_ := Aside0.mk (blk_below (g := gb169) (o := .cells #[.int .i64 t165, .slice Ao13 t166.length co13] 31 (0, 0)) (bA BK169.out) hb); have n7_ := Aside0.mk (blk_below (g := gb174) (o := .cells #[.int .i64 t170, .slice Ao20 t171.length co20] 31 (0, 0)) (bA BK174.out) hb); have n8_ := Aside0.mk (below_step (by repeat (first | (with_reducible first | exact HB.out | apply below_alloc | apply pw_below_drewN | apply below_drew1 | refine below_set ?_ GE164.out | refine below_set ?_ GE169.out | refine below_set ?_ GE174.out) | exact HB.out)) hb); clear HO_165001; clear HO_170001; clear HO_175001; clear HO243; clear BK164; clear BK169; clear BK174; clear HB; have HO_165001 := n0_; have HO_170001 := n1_; have HO_175001 := n2_; have HO243 := n3_; have HO247 := n4_; have BK164 := n5_; have BK169 := n6_; have BK174 := n7_; have HB := n8_; clear n0_ n1_ n2_ n3_ n4_ n5_ n6_ n7_ n8_; clear hb ho170; obtain ⟨Ao171, co171, eo171⟩ := Kd.R_slice HO247.out; subst eo171) | (go_at_call 21; (with_reducible refine (digraph_Check.calls 4 _ _ y161 _ _ y245 t248 _ ?side1 ?side2 ?side3 ?side4 A152.out).mono ?_); (case side1 => repeat (first | exact (Kd.R_reads' HO_165001.out).2.2 | (with_reducible refine Kd.C_alloc ?_ _) | (with_reducible refine Kd.C_drewN ?_ _) | (with_reducible refine Kd.C_drew ?_))); (case side2 => exact (Kd.R_reads' HO_165001.out).2.1); (case side3 => repeat (first | exact (Kd.R_reads' HO247.out).2.2 | (with_reducible refine Kd.C_alloc ?_ _) | (with_reducible refine Kd.C_drewN ?_ _) | (with_reducible refine Kd.C_drew ?_))); (case side4 => exact (Kd.R_reads' HO247.out).2.1); rintro e w172 ⟨rfl, hb⟩; have n0_ := Aside0.mk (Kd.R_below (rA HO_165001.out) hb); have n1_ := Aside0.mk (Kd.R_below (rA HO_170001.out) hb); have n2_ := Aside0.mk (Kd.R_below (rA HO_175001.out) hb); have n3_ := Aside0.mk (Kd.R_below (rA HO243.out) hb); have n4_ := Aside0.mk (Kd.R_below (rA HO247.out) hb); have n5_ := Aside0.mk (blk_below (g := gb164) (o := .cells #[.int .i64 4, .slice Ao6 y161.length co6] 31 (0, 0)) (bA BK164.out) hb); have n6_ := Aside0.mk (blk_below (g := gb169) (o := .cells #[.int .i64 t165, .slice Ao13 t166.length co13] 31 (0, 0)) (bA BK169.out) hb); have n7_ := Aside0.mk (blk_below (g := gb174) (o := .cells #[.int .i64 t170, .slice Ao20 t171.length co20] 31 (0, 0)) (bA BK174.out) hb); have n8_ := Aside0.mk (below_step (by repeat (first | (with_reducible first | exact HB.out | apply below_alloc | apply pw_below_drewN | apply below_drew1 | refine below_set ?_ GE164.out | refine below_set ?_ GE169.out | refine below_set ?_ GE174.out) | exact HB.out)) hb); clear HO_165001; clear HO_170001; clear HO_175001; clear HO243; clear HO247; clear BK164; clear BK169; clear BK174; clear HB; have HO_165001 := n0_; have HO_170001 := n1_; have HO_175001 := n2_; have HO243 := n3_; have HO247 := n4_; have BK164 := n5_; have BK169 := n6_; have BK174 := n7_; have HB := n8_; clear n0_ n1_ n2_ n3_ n4_ n5_ n6_ n7_ n8_; (try clear hb); (try clear hb2); (try clear hk); (try clear hi)) | (go_at_call 15; (refine (wireloomlaw05_order.calls 0 _ _ ([] : List (S55)) t249 t252 _ ?side1 ?side2 A154.out).mono ?_); (case side1 => exact Kd.C_nil _ _); (case side2 => exact Nat.le_refl _); rintro e w173 ⟨v250, rfl, ho0, hb⟩; have n0_ := Aside0.mk (Kd.R_below (rA HO_165001.out) hb); have n1_ := Aside0.mk (Kd.R_below (rA HO_170001.out) hb); have n2_ := Aside0.mk (Kd.R_below (rA HO_175001.out) hb); have n3_ := Aside0.mk (Kd.R_elder' (rA HO243.out) (Kd.R_base ho0) hb); have n4_ := Aside0.mk (Kd.R_elder' (rA HO247.out) (Kd.R_base ho0) hb); have n5_ := Aside0.mk (Kd.R_lower (Kd.R_new' (Kd.R_new' ho0 (Kd.R_lt (rA HO243.out))) (Kd.R_lt (rA HO247.out))) (below_size (by repeat (first | (with_reducible first | exact HB.out | apply below_alloc | apply pw_below_drewN | apply below_drew1 | refine below_set ?_ GE164.out | refine below_set ?_ GE169.out | refine below_set ?_ GE174.out) | exact HB.out)))); have n6_ := Aside0.mk (blk_below (g := gb164) (o := .cells #[.int .i64 4, .slice Ao6 y161.length co6] 31 (0, 0)) (bA BK164.out) hb); have n7_ := Aside0.mk (blk_below (g := gb169) (o := .cells #[.int .i64 t165, .slice Ao13 t166.length co13] 31 (0, 0)) (bA BK169.out) hb); have n8_ := Aside0.mk (blk_below (g := gb174) (o := .cells #[.int .i64 t170, .slice Ao20 t171.length co20] 31 (0, 0)) (bA BK174.out) hb); have n9_ := Aside0.mk (below_step (by repeat (first | (with_reducible first | exact HB.out | apply below_alloc | apply pw_below_drewN | apply below_drew1 | refine below_set ?_ GE164.out | refine below_set ?_ GE169.out | refine below_set ?_ GE174.out) | exact HB.out)) hb); clear HO_165001; clear HO_170001; clear HO_175001; clear HO243; clear HO247; clear BK164; clear BK169; clear BK174; clear HB; have HO_165001 := n0_; have HO_170001 := n1_; have HO_175001 := n2_; have HO243 := n3_; have HO247 := n4_; have HO251 := n5_; have BK164 := n6_; have BK169 := n7_; have BK174 := n8_; have HB := n9_; clear n0_ n1_ n2_ n3_ n4_ n5_ n6_ n7_ n8_ n9_; (try clear hb); (try clear hb2); (try clear hk); (try clear hi); (try clear ho0); have hcz174_0 : w173.cell? ⟨gb164, 0, none⟩ = some (.int .i64 4) := (blk_cell BK164.out 0).trans rfl; have hcz174_1 : w173.cell? ⟨gb164, 1, none⟩ = some (.slice Ao6 y161.length co6) := (blk_cell BK164.out 1).trans rfl; have hfz174_0 := blk_frozen BK164.out 0; have hfz174_1 := blk_frozen BK164.out 1) | (go_at_call 24; (with_reducible refine (digraph_Reach.calls 4 _ _ y161 4 t253 _ ?side1 ?side2 A156.out).mono ?_); (case side1 => repeat (first | exact (Kd.R_reads' HO_165001.out).2.2 | (with_reducible refine Kd.C_alloc ?_ _) | (with_reducible refine Kd.C_drewN ?_ _) | (with_reducible refine Kd.C_drew ?_))); (case side2 => exact (Kd.R_reads' HO_165001.out).2.1); rintro e w175 ⟨v254, rfl, ho0, hb⟩; have n0_ := Aside0.mk (Kd.R_below (rA HO_165001.out) hb); have n1_ := Aside0.mk (Kd.R_below (rA HO_170001.out) hb); have n2_ := Aside0.mk (Kd.R_below (rA HO_175001.out) hb); have n3_ := Aside0.mk (Kd.R_elder' (rA HO243.out) (Kd.R_base ho0) hb); have n4_ := Aside0.mk (Kd.R_elder' (rA HO247.out) (Kd.R_base ho0) hb); have n5_ := Aside0.mk (Kd.R_elder' (rA HO251.out) (Kd.R_base ho0) hb); have n6_ := Aside0.mk (Kd.R_lower (Kd.R_new' (Kd.R_new' (Kd.R_new' ho0 (Kd.R_lt (rA HO243.out))) (Kd.R_lt (rA HO247.out))) (Kd.R_lt (rA HO251.out))) (below_size (by repeat (first | (with_reducible first | exact HB.out | apply below_alloc | apply pw_below_drewN | apply below_drew1 | refine below_set ?_ GE164.out | refine below_set ?_ GE169.out | refine below_set ?_ GE174.out) | exact HB.out)))); have n7_ := Aside0.mk (blk_below (g := gb164) (o := .cells #[.int .i64 4, .slice Ao6 y161.length co6] 31 (0, 0)) (bA BK164.out) hb); have n8_ := Aside0.mk (blk_below (g := gb169) (o := .cells #[.int .i64 t165, .slice Ao13 t166.length co13] 31 (0, 0)) (bA BK169.out) hb); have n9_ := Aside0.mk (blk_below (g := gb174) (o := .cells #[.int .i64 t170, .slice Ao20 t171.length co20] 31 (0, 0)) (bA BK174.out) hb); have n10_ := Aside0.mk (below_step (by repeat (first | (with_reducible first | exact HB.out | apply below_alloc | apply pw_below_drewN | apply below_drew1 | refine below_set ?_ GE164.out | refine below_set ?_ GE169.out | refine below_set ?_ GE174.out) | exact HB.out)) hb); clear HO_165001; clear HO_170001; clear HO_175001; clear HO243; clear HO247; clear HO251; clear BK164; clear BK169; clear BK174; clear HB; have HO_165001 := n0_; have HO_170001 := n1_; have HO_175001 := n2_; have HO243 := n3_; have HO247 := n4_; have HO251 := n5_; have HO255 := n6_; have BK164 := n7_; have BK169 := n8_; have BK174 := n9_; have HB := n10_; clear n0_ n1_ n2_ n3_ n4_ n5_ n6_ n7_ n8_ n9_ n10_; (try clear hb); (try clear hb2); (try clear hk); (try clear hi); (try clear ho0); obtain ⟨Ao176, co176, eo176⟩ := Kd.R_slice HO255.out; subst eo176))
            go_ret
            exact ⟨by first | rfl | (simp [errW_none, errW_some] <;> rfl) | (simp [*, errW_none, errW_some] <;> rfl), by repeat (first | (with_reducible first | exact HB.out | apply below_alloc | apply pw_below_drewN | apply below_drew1 | refine below_set ?_ GE164.out | refine below_set ?_ GE169.out | refine below_set ?_ GE174.out) | exact HB.out)⟩
           ·rw [if_neg c155] at H
            exact absurd H (by simp)
          ·rw [if_neg c153] at H
           exact absurd H (by simp)
         ·rw [if_neg c151] at H
          exact absurd H (by simp)
       ·replace c147 := Bool.eq_false_iff.mpr c147
        subst c147
        have H1 : (none) = some r := by rw [if_neg (show ¬ (false = true) by decide)] at H; exact H
        clear H
        have H := H1
        clear H1
        exact absurd H (by simp)
end Go.Proofs.Ytlldjinejckbaaa.PD

end
section
namespace Go.Proofs.Ytlldjinejckbaaa.PD
open Go.RowKit Go.Proofs.YtlldjinejckbaaaW.PrintWords Go.Proofs.YtlldjinejckbaaaW.PrintLast Go.Proofs.YtlldjinejckbaaaW.PrintMore
attribute [local go_sem] max2_int min2_int max_two min_two max_three min_three max_four min_four
set_option linter.unusedVariables false
set_option linter.unusedSimpArgs false
mutual
def wireloomref05_Made.l0 : Nat → Int → Int → Int → Int → List Int → Int → List (S55) → Option (Int × (List (S55)))
 | 0, _, _, _, _, _, _, _ => none
 | k + 1, x3, x5, x257000, x257001, x257002, x259000, x259001 => if (wrap64 (x5 + 1)) < (x257002.length : Int) then (if x5 < 60 then (wireloomref05_Made.j1 k x3 x5 (decide (x3 > 0)) x257000 x257001 x257002 x259000 x259001) else (wireloomref05_Made.j1 k x3 x5 false x257000 x257001 x257002 x259000 x259001)) else (wireloomref05_Made.j1 k x3 x5 false x257000 x257001 x257002 x259000 x259001)
def wireloomref05_Made.j1 : Nat → Int → Int → Bool → Int → Int → List Int → Int → List (S55) → Option (Int × (List (S55)))
 | 0, _, _, _, _, _, _, _, _ => none
 | k + 1, x3, x5, x27, x257000, x257001, x257002, x259000, x259001 => if x27 = true then (if 0 ≤ x5 then (if x5 < (x257002.length : Int) then (if x3 = 0 then (none) else (if 0 ≤ (wrap64 (x5 + 1)) then (if (wrap64 (x5 + 1)) < (x257002.length : Int) then (if (Int.tmod x257001 2) = 0 then (if (Int.tmod (wrap64 (rd x257002 x5)) x3) = (Int.tmod (wrap64 (rd x257002 (wrap64 (x5 + 1)))) x3) then (wireloomref05_Made.l0 k x3 (wrap64 (x5 + 2)) x257000 x257001 x257002 x259000 x259001) else (if (Int.tmod (wrap64 (rd x257002 x5)) x3) > (Int.tmod (wrap64 (rd x257002 (wrap64 (x5 + 1)))) x3) then (wireloomref05_Made.j2 k x3 x5 (Int.tmod (wrap64 (rd x257002 (wrap64 (x5 + 1)))) x3) (Int.tmod (wrap64 (rd x257002 x5)) x3) x257000 x257001 x257002 x259000 x259001) else (wireloomref05_Made.j2 k x3 x5 (Int.tmod (wrap64 (rd x257002 x5)) x3) (Int.tmod (wrap64 (rd x257002 (wrap64 (x5 + 1)))) x3) x257000 x257001 x257002 x259000 x259001))) else (if x259001.length < 8796093022208 then (wireloomref05_Made.l0 k x3 (wrap64 (x5 + 2)) x257000 x257001 x257002 x259000 (x259001 ++ [(⟨Int.tmod (wrap64 (rd x257002 x5)) x3, Int.tmod (wrap64 (rd x257002 (wrap64 (x5 + 1)))) x3⟩ : S55)])) else (none))) else (none)) else (none))) else (none)) else (none)) else (some (x259000, x259001))
def wireloomref05_Made.j2 : Nat → Int → Int → Int → Int → Int → Int → List Int → Int → List (S55) → Option (Int × (List (S55)))
 | 0, _, _, _, _, _, _, _, _, _ => none
 | k + 1, x3, x5, x6, x7, x257000, x257001, x257002, x259000, x259001 => if (Int.tmod x257001 4) = 2 then (if x3 = 0 then (none) else (if (Int.tmod x3 5) = 0 then (wireloomref05_Made.l0 k x3 (wrap64 (x5 + 2)) x257000 x257001 x257002 x259000 x259001) else (if x259001.length < 8796093022208 then (wireloomref05_Made.l0 k x3 (wrap64 (x5 + 2)) x257000 x257001 x257002 x259000 (x259001 ++ [(⟨Int.tmod (wrap64 ((wrap64 (5 * x6)) + 3)) x3, Int.tmod (wrap64 ((wrap64 (5 * x7)) + 3)) x3⟩ : S55)])) else (none)))) else (if (Int.tmod x3 5) = 0 then (if x259001.length < 8796093022208 then (wireloomref05_Made.l0 k x3 (wrap64 (x5 + 2)) x257000 x257001 x257002 x259000 (x259001 ++ [(⟨x6, x7⟩ : S55)])) else (none)) else (if x259001.length < 8796093022208 then (wireloomref05_Made.l0 k x3 (wrap64 (x5 + 2)) x257000 x257001 x257002 x259000 (x259001 ++ [(⟨x6, x7⟩ : S55)])) else (none)))
end
def wireloomref05_Made.f (k : Nat) (a0_0 : Int) (a0_1 : Int) (l0_2 : List Int) : Option (Int × (List (S55))) := wireloomref05_Made.l0 k (wrap64 (Int.tmod a0_0 13)) 0 a0_0 a0_1 l0_2 (wrap64 (Int.tmod a0_0 13)) ([] : List (S55))
theorem wireloomref05_Made.mono_l : ∀ k, (∀ y0 y1 y2 y3 y4 y5 y6, LeO (wireloomref05_Made.l0 k y0 y1 y2 y3 y4 y5 y6) (wireloomref05_Made.l0 (k + 1) y0 y1 y2 y3 y4 y5 y6)) ∧ (∀ y0 y1 y2 y3 y4 y5 y6 y7, LeO (wireloomref05_Made.j1 k y0 y1 y2 y3 y4 y5 y6 y7) (wireloomref05_Made.j1 (k + 1) y0 y1 y2 y3 y4 y5 y6 y7)) ∧ (∀ y0 y1 y2 y3 y4 y5 y6 y7 y8, LeO (wireloomref05_Made.j2 k y0 y1 y2 y3 y4 y5 y6 y7 y8) (wireloomref05_Made.j2 (k + 1) y0 y1 y2 y3 y4 y5 y6 y7 y8))
 | 0 => ⟨fun _ _ _ _ _ _ _ r h => by simp [wireloomref05_Made.l0] at h, fun _ _ _ _ _ _ _ _ r h => by simp [wireloomref05_Made.j1] at h, fun _ _ _ _ _ _ _ _ _ r h => by simp [wireloomref05_Made.j2] at h⟩
 | k + 1 => by
  obtain ⟨ih0, ih1, ih2⟩ := wireloomref05_Made.mono_l k
  refine ⟨?_, ?_, ?_⟩
  ·intro y0 y1 y2 y3 y4 y5 y6
   unfold wireloomref05_Made.l0
   repeat' first
   | (with_reducible exact ih0 _ _ _ _ _ _ _)
   | (with_reducible exact ih1 _ _ _ _ _ _ _ _)
   | (with_reducible exact ih2 _ _ _ _ _ _ _ _ _)
   | (with_reducible exact LeO.refl _)
   | (with_reducible exact LeO.none _)
   | (with_reducible refine LeO.ite ?_ ?_)
   | (with_reducible refine LeO.bind ?_ (fun _ => ?_))
   | exact ih0 _ _ _ _ _ _ _
   | exact ih1 _ _ _ _ _ _ _ _
   | exact ih2 _ _ _ _ _ _ _ _ _
   | exact LeO.none _
   | refine LeO.ite ?_ ?_
   | refine LeO.bind ?_ (fun _ => ?_)
  ·intro y0 y1 y2 y3 y4 y5 y6 y7
   unfold wireloomref05_Made.j1
   repeat' first
   | (with_reducible exact ih0 _ _ _ _ _ _ _)
   | (with_reducible exact ih1 _ _ _ _ _ _ _ _)
   | (with_reducible exact ih2 _ _ _ _ _ _ _ _ _)
   | (with_reducible exact LeO.refl _)
   | (with_reducible exact LeO.none _)
   | (with_reducible refine LeO.ite ?_ ?_)
   | (with_reducible refine LeO.bind ?_ (fun _ => ?_))
   | exact ih0 _ _ _ _ _ _ _
   | exact ih1 _ _ _ _ _ _ _ _
   | exact ih2 _ _ _ _ _ _ _ _ _
   | exact LeO.none _
   | refine LeO.ite ?_ ?_
   | refine LeO.bind ?_ (fun _ => ?_)
  ·intro y0 y1 y2 y3 y4 y5 y6 y7 y8
   unfold wireloomref05_Made.j2
   repeat' first
   | (with_reducible exact ih0 _ _ _ _ _ _ _)
   | (with_reducible exact ih1 _ _ _ _ _ _ _ _)
   | (with_reducible exact ih2 _ _ _ _ _ _ _ _ _)
   | (with_reducible exact LeO.refl _)
   | (with_reducible exact LeO.none _)
   | (with_reducible refine LeO.ite ?_ ?_)
   | (with_reducible refine LeO.bind ?_ (fun _ => ?_))
   | exact ih0 _ _ _ _ _ _ _
   | exact ih1 _ _ _ _ _ _ _ _
   | exact ih2 _ _ _ _ _ _ _ _ _
   | exact LeO.none _
   | refine LeO.ite ?_ ?_
   | refine LeO.bind ?_ (fun _ => ?_)
theorem wireloomref05_Made.mono : ∀ a0 a1 a2 k, LeO (wireloomref05_Made.f k a0 a1 a2) (wireloomref05_Made.f (k + 1) a0 a1 a2) := by
 intro a0 a1 a2 k
 obtain ⟨ih0, ih1, ih2⟩ := wireloomref05_Made.mono_l k
 unfold wireloomref05_Made.f
 repeat' first
   | (with_reducible exact ih0 _ _ _ _ _ _ _)
   | (with_reducible exact ih1 _ _ _ _ _ _ _ _)
   | (with_reducible exact ih2 _ _ _ _ _ _ _ _ _)
   | (with_reducible exact LeO.refl _)
   | (with_reducible exact LeO.none _)
   | (with_reducible refine LeO.ite ?_ ?_)
   | (with_reducible refine LeO.bind ?_ (fun _ => ?_))
   | exact ih0 _ _ _ _ _ _ _
   | exact ih1 _ _ _ _ _ _ _ _
   | exact ih2 _ _ _ _ _ _ _ _ _
   | exact LeO.none _
   | refine LeO.ite ?_ ?_
   | refine LeO.bind ?_ (fun _ => ?_)
set_option maxHeartbeats 8000000 in
set_option maxRecDepth 100000 in
theorem wireloomref05_Made.calls (k : Nat) (a0_0 : Int) (a0_1 : Int) (A0_2 : Option Addr) (c0_2 : Nat) (l0_2 : List Int) (r1 : Int) (r2 : List (S55)) (w : World) (hr0_2 : Kd.C (Kd.int .u8) w A0_2 l0_2.length l0_2) (hc0_2 : l0_2.length ≤ c0_2) (h : wireloomref05_Made.f k a0_0 a0_1 l0_2 = some (r1, r2)) :
  Calls Try.prog 11 #[.agg #[.int .u8 a0_0, .int .u8 a0_1, .slice A0_2 l0_2.length c0_2]] w fun e w' => ∃ v1_ : Value, e = .returned (.agg #[.int .i64 r1, v1_]) ∧ Kd.R k55 55 w' w.heap.size (fun _ => True) v1_ r2 ∧ Below w.heap.size w w' := by
 have hu24 := Try.underlying24
 have hu31 := Try.underlying31
 have hu55 := Try.underlying55
 have HR0_2 := Aside0.mk hr0_2
 have HC0_2 := Aside0.mk hc0_2
 clear hr0_2 hc0_2
 have HB := Aside0.mk (Below.refl w.heap.size w)
 have H : (wireloomref05_Made.l0 k (wrap64 (Int.tmod a0_0 13)) 0 a0_0 a0_1 l0_2 (wrap64 (Int.tmod a0_0 13)) ([] : List (S55))) = some (r1, r2) := h
 clear h
 have H' := Aside0.mk H
 clear H
 go_enter Try.func11, Try.ntmps11
 go_wp2_with (first | ((with_reducible refine gate_dst (N := 1) rfl ?_); refine box_event ?hg (N := 1) ?hd (cs := #[.int .u8 a0_0, .int .u8 a0_1, .slice A0_2 l0_2.length c0_2]) (t := 24) ?hr ?_; (case hd => rfl); (case hg => rfl); (case hr => first | (go_simp; done) | (go_simp; rfl)); intro gb256 hg w2 hbox hb; have n0_ := Aside0.mk (below_step (by repeat (first | (with_reducible first | exact HB.out | apply below_alloc | apply pw_below_drewN | apply below_drew1) | exact HB.out)) hb); have n1_ := Aside0.mk (hbox); have n2_ := Aside0.mk ((by rw [hg]; exact (below_size (by repeat (first | (with_reducible first | exact HB.out | apply below_alloc | apply pw_below_drewN | apply below_drew1) | exact HB.out))) : w.heap.size ≤ gb256)); have n3_ := Aside0.mk ((by rw [hg]; exact (below_size (by repeat (first | (with_reducible first | exact HB.out | apply below_alloc | apply pw_below_drewN | apply below_drew1) | exact HB.out))) : w.heap.size ≤ gb256)); clear HB; have HB := n0_; have BK256 := n1_; have GW256 := n2_; have GE256 := n3_; clear n0_ n1_ n2_ n3_; clear hb hbox hg) | ((with_reducible refine gate_dst (N := 2) rfl ?_); refine box_event ?hg (N := 2) ?hd (cs := #[.int .i64 0, .slice none 0 0]) (t := 31) ?hr ?_; (case hd => rfl); (case hg => rfl); (case hr => first | (go_simp; done) | (go_simp; rfl)); intro gb257 hg w3 hbox hb; have n0_ := Aside0.mk (blk_below (g := gb256) (o := .cells #[.int .u8 a0_0, .int .u8 a0_1, .slice A0_2 l0_2.length c0_2] 24 (0, 0)) (bA BK256.out) hb); have n1_ := Aside0.mk (below_step (by repeat (first | (with_reducible first | exact HB.out | apply below_alloc | apply pw_below_drewN | apply below_drew1 | refine below_set ?_ GE256.out) | exact HB.out)) hb); have n2_ := Aside0.mk (hbox); have n3_ := Aside0.mk ((by rw [hg]; exact (below_size (by repeat (first | (with_reducible first | exact HB.out | apply below_alloc | apply pw_below_drewN | apply below_drew1 | refine below_set ?_ GE256.out) | exact HB.out))) : w.heap.size ≤ gb257)); have n4_ := Aside0.mk ((by rw [hg]; exact (below_size (by repeat (first | (with_reducible first | exact HB.out | apply below_alloc | apply pw_below_drewN | apply below_drew1 | refine below_set ?_ GE256.out) | exact HB.out))) : w.heap.size ≤ gb257)); have n5_ := Aside0.mk ((by rw [hg]; exact Nat.ne_of_lt (blk_lt (g := gb256) (o := .cells #[.int .u8 a0_0, .int .u8 a0_1, .slice A0_2 l0_2.length c0_2] 24 (0, 0)) (bA BK256.out)) : gb256 ≠ gb257)); have n6_ := Aside0.mk ((by rw [hg]; exact Nat.ne_of_gt (blk_lt (g := gb256) (o := .cells #[.int .u8 a0_0, .int .u8 a0_1, .slice A0_2 l0_2.length c0_2] 24 (0, 0)) (bA BK256.out)) : gb257 ≠ gb256)); clear BK256; clear HB; have BK256 := n0_; have HB := n1_; have BK257 := n2_; have GW257 := n3_; have GE257 := n4_; have NB256_257 := n5_; have NB257_256 := n6_; clear n0_ n1_ n2_ n3_ n4_ n5_ n6_; clear hb hbox hg; have hnb4 := NB256_257.out; have hnc4 := NB257_256.out; have hcz5_0 : w3.cell? ⟨gb256, 0, none⟩ = some (.int .u8 a0_0) := (blk_cell BK256.out 0).trans rfl; have hcz5_1 : w3.cell? ⟨gb256, 1, none⟩ = some (.int .u8 a0_1) := (blk_cell BK256.out 1).trans rfl; have hcz5_2 : w3.cell? ⟨gb256, 2, none⟩ = some (.slice A0_2 l0_2.length c0_2) := (blk_cell BK256.out 2).trans rfl; have hfz5_0 := blk_frozen BK256.out 0; have hfz5_1 := blk_frozen BK256.out 1; have hfz5_2 := blk_frozen BK256.out 2) | ((with_reducible refine gate_dst (N := 4) rfl ?_); refine box_event ?hg (N := 4) ?hd (cs := #[.int .i64 0, .slice none 0 0]) (t := 31) ?hr ?_; (case hd => rfl); (case hg => rfl); (case hr => first | (go_simp; done) | (go_simp; rfl)); intro gb258 hg w6 hbox hb; have n0_ := Aside0.mk (blk_below (g := gb256) (o := .cells #[.int .u8 a0_0, .int .u8 a0_1, .slice A0_2 l0_2.length c0_2] 24 (0, 0)) (bA BK256.out) hb); have n1_ := Aside0.mk (blk_below (g := gb257) (o := .cells #[.int .i64 0, .slice none 0 0] 31 (0, 0)) (bA BK257.out) hb); have n2_ := Aside0.mk (below_step (by repeat (first | (with_reducible first | exact HB.out | apply below_alloc | apply pw_below_drewN | apply below_drew1 | refine below_set ?_ GE256.out | refine below_set ?_ GE257.out) | exact HB.out)) hb); have n3_ := Aside0.mk (hbox); have n4_ := Aside0.mk ((by rw [hg]; exact (below_size (by repeat (first | (with_reducible first | exact HB.out | apply below_alloc | apply pw_below_drewN | apply below_drew1 | refine below_set ?_ GE256.out | refine below_set ?_ GE257.out) | exact HB.out))) : w.heap.size ≤ gb258)); have n5_ := Aside0.mk ((by rw [hg]; exact (below_size (by repeat (first | (with_reducible first | exact HB.out | apply below_alloc | apply pw_below_drewN | apply below_drew1 | refine below_set ?_ GE256.out | refine below_set ?_ GE257.out) | exact HB.out))) : w.heap.size ≤ gb258)); have n6_ := Aside0.mk ((by rw [hg]; exact Nat.ne_of_lt (blk_lt (g := gb256) (o := .cells #[.int .u8 a0_0, .int .u8 a0_1, .slice A0_2 l0_2.length c0_2] 24 (0, 0)) (bA BK256.out)) : gb256 ≠ gb258)); have n7_ := Aside0.mk ((by rw [hg]; exact Nat.ne_of_gt (blk_lt (g := gb256) (o := .cells #[.int .u8 a0_0, .int .u8 a0_1, .slice A0_2 l0_2.length c0_2] 24 (0, 0)) (bA BK256.out)) : gb258 ≠ gb256)); have n8_ := Aside0.mk ((by rw [hg]; exact Nat.ne_of_lt (blk_lt (g := gb257) (o := .cells #[.int .i64 0, .slice none 0 0] 31 (0, 0)) (bA BK257.out)) : gb257 ≠ gb258)); have n9_ := Aside0.mk ((by rw [hg]; exact Nat.ne_of_gt (blk_lt (g := gb257) (o := .cells #[.int .i64 0, .slice none 0 0] 31 (0, 0)) (bA BK257.out)) : gb258 ≠ gb257)); clear BK256; clear BK257; clear HB; have BK256 := n0_; have BK257 := n1_; have HB := n2_; have BK258 := n3_; have GW258 := n4_; have GE258 := n5_; have NB256_258 := n6_; have NB258_256 := n7_; have NB257_258 := n8_; have NB258_257 := n9_; clear n0_ n1_ n2_ n3_ n4_ n5_ n6_ n7_ n8_ n9_; clear hb hbox hg; have hnb7 := NB258_256.out; have hnc7 := NB256_258.out; have hnb8 := NB258_257.out; have hnc8 := NB257_258.out; have hcz9_0 : w6.cell? ⟨gb258, 0, none⟩ = some (.int .i64 0) := (blk_cell BK258.out 0).trans rfl; have hcz9_1 : w6.cell? ⟨gb258, 1, none⟩ = some (.slice none 0 0) := (blk_cell BK258.out 1).trans rfl; have hfz9_0 := blk_frozen BK258.out 0; have hfz9_1 := blk_frozen BK258.out 1))
 go_loopg [5] k (fun kq v5 w' => ∃ (x5_1 : Int) (x259001_1 : List (S55)) (u259001 : Value), v5 = .int .i64 x5_1 ∧ Aside0 (wireloomref05_Made.l0 kq (wrap64 (Int.tmod a0_0 13)) x5_1 a0_0 a0_1 l0_2 (wrap64 (Int.tmod a0_0 13)) x259001_1 = some (r1, r2)) ∧ Aside0 (kq ≤ k) ∧ Aside0 (Kd.R k55 55 w' w.heap.size (fun _ => True) u259001 x259001_1) ∧ Aside0 (w'.heap[gb256]? = some (.cells #[.int .u8 a0_0, .int .u8 a0_1, (.slice A0_2 l0_2.length c0_2)] 24 (0, 0))) ∧ Aside0 (w'.heap[gb257]? = some (.cells #[.int .i64 0, (.slice none 0 0)] 31 (0, 0))) ∧ Aside0 (w'.heap[gb258]? = some (.cells #[.int .i64 (wrap64 (Int.tmod a0_0 13)), u259001] 31 (0, 0))) ∧ Aside0 (Below w.heap.size w w'))
 case atStart => exact ⟨(0), (([] : List (S55))), (.slice none 0 0), (by first | rfl | (simp; done) | (simp [*]; done)), H', ⟨Nat.le_refl _⟩, ⟨by first | exact Kd.R_nil _ _ _ _ _ | exact Kd.N_nil _ _ _ _ _ | exact Kd.V_nil _ _ _ _ _ | exact Kd.Q_nil _ _ _ _ _ | exact Kd.S_nil _ _ _ _ _⟩, ⟨by (with_reducible repeat (first | refine blk_drewN ?_ _ | refine blk_drew ?_ | refine blk_alloc ?_ _)); refine blk_far ?_ NB256_258.out _; (with_reducible repeat (first | refine blk_drewN ?_ _ | refine blk_drew ?_ | refine blk_alloc ?_ _)); refine blk_far ?_ NB256_258.out _; (with_reducible repeat (first | refine blk_drewN ?_ _ | refine blk_drew ?_ | refine blk_alloc ?_ _)); exact BK256.out⟩, ⟨by (with_reducible repeat (first | refine blk_drewN ?_ _ | refine blk_drew ?_ | refine blk_alloc ?_ _)); refine blk_far ?_ NB257_258.out _; (with_reducible repeat (first | refine blk_drewN ?_ _ | refine blk_drew ?_ | refine blk_alloc ?_ _)); refine blk_far ?_ NB257_258.out _; (with_reducible repeat (first | refine blk_drewN ?_ _ | refine blk_drew ?_ | refine blk_alloc ?_ _)); exact BK257.out⟩, ⟨by (with_reducible repeat (first | refine blk_drewN ?_ _ | refine blk_drew ?_ | refine blk_alloc ?_ _)); refine blk_put (cs := #[.int .i64 (wrap64 (Int.tmod a0_0 13)), .slice none 0 0]) ?_ 1 _ rfl; (with_reducible repeat (first | refine blk_drewN ?_ _ | refine blk_drew ?_ | refine blk_alloc ?_ _)); refine blk_put (cs := #[.int .i64 0, .slice none 0 0]) ?_ 0 _ rfl; (with_reducible repeat (first | refine blk_drewN ?_ _ | refine blk_drew ?_ | refine blk_alloc ?_ _)); exact BK258.out⟩, ⟨by repeat (first | (with_reducible first | exact HB.out | apply below_alloc | apply pw_below_drewN | apply below_drew1 | refine below_set ?_ GE256.out | refine below_set ?_ GE257.out | refine below_set ?_ GE258.out) | exact HB.out)⟩⟩
 case round =>
  clear H'
  try clear c1
  try clear p2
  try clear c4
  try clear p6
  try clear c7
  try clear c8
  try clear hcz5_0
  try clear hcz5_1
  try clear hcz5_2
  try clear hcz9_0
  try clear hcz9_1
  try clear hfz5_0
  try clear hfz5_1
  try clear hfz5_2
  try clear hfz9_0
  try clear hfz9_1
  obtain ⟨x5_1, x259001_1, u259001, rfl, HA, HK1, HO_259001, BK256, BK257, BK258, HB⟩ := hrel
  cases gk with
  | zero => exact absurd HA.out (by simp [wireloomref05_Made.l0])
  | succ k1 =>
   have H := HA.out
   clear HA
   simp only [wireloomref05_Made.l0] at H
   have HC10 := Aside0.mk H
   clear H
   go_upto_region 4 with (fail)
   go_cut [27] (fun v27 wc => ∃ (kq : Nat) (x27_9 : Bool), v27 = .bool x27_9 ∧ Aside0 (wireloomref05_Made.j1 kq (wrap64 (Int.tmod a0_0 13)) x5_1 x27_9 a0_0 a0_1 l0_2 (wrap64 (Int.tmod a0_0 13)) x259001_1 = some (r1, r2)) ∧ Aside0 (kq ≤ k1) ∧ Aside0 (Kd.R k55 55 wc w.heap.size (fun _ => True) u259001 x259001_1) ∧ Aside0 (wc.heap[gb256]? = some (.cells #[.int .u8 a0_0, .int .u8 a0_1, (.slice A0_2 l0_2.length c0_2)] 24 (0, 0))) ∧ Aside0 (wc.heap[gb257]? = some (.cells #[.int .i64 0, (.slice none 0 0)] 31 (0, 0))) ∧ Aside0 (wc.heap[gb258]? = some (.cells #[.int .i64 (wrap64 (Int.tmod a0_0 13)), u259001] 31 (0, 0))) ∧ Aside0 (Below w.heap.size w wc))
   case first =>
    have H := HC10.out
    clear HC10
    by_cases c11 : (wrap64 (x5_1 + 1)) < (l0_2.length : Int)
    ·rw [if_pos c11] at H
     have c11b0 : decide ((wrap64 (x5_1 + 1)) < (l0_2.length : Int)) = true := decide_eq_true c11
     clear c11
     (first | rw [c11b0] | (simp only [i64_w, i32_w]; rw [c11b0]) | skip)
     by_cases c12 : x5_1 < 60
     ·rw [if_pos c12] at H
      have c12b0 : decide (x5_1 < 60) = true := decide_eq_true c12
      clear c12
      have H' := Aside0.mk H
      clear H
      have hnb13 := NB256_257.out
      have hnc13 := NB257_256.out
      have hnb14 := NB256_258.out
      have hnc14 := NB258_256.out
      have hcz15_0 : wr.cell? ⟨gb256, 0, none⟩ = some (.int .u8 a0_0) := (blk_cell BK256.out 0).trans rfl
      have hcz15_1 : wr.cell? ⟨gb256, 1, none⟩ = some (.int .u8 a0_1) := (blk_cell BK256.out 1).trans rfl
      have hcz15_2 : wr.cell? ⟨gb256, 2, none⟩ = some (.slice A0_2 l0_2.length c0_2) := (blk_cell BK256.out 2).trans rfl
      have hfz15_0 := blk_frozen BK256.out 0
      have hfz15_1 := blk_frozen BK256.out 1
      have hfz15_2 := blk_frozen BK256.out 2
      go_wp2
      go_meet
      case rel => exact ⟨_, (decide ((wrap64 (Int.tmod a0_0 13)) > 0)), (by first | rfl | (simp; done) | (simp [*]; done)), H', ⟨by have := HK1.out; first | omega | exact Nat.le_refl _⟩, ⟨rA HO_259001.out⟩, ⟨bA BK256.out⟩, ⟨bA BK257.out⟩, ⟨bA BK258.out⟩, ⟨by repeat (first | (with_reducible first | exact HB.out | apply below_alloc | apply pw_below_drewN | apply below_drew1 | refine below_set ?_ GE256.out | refine below_set ?_ GE257.out | refine below_set ?_ GE258.out) | exact HB.out)⟩⟩
     ·rw [if_neg c12] at H
      have c12b0 : decide (x5_1 < 60) = false := decide_eq_false c12
      clear c12
      have H' := Aside0.mk H
      clear H
      have hnb16 := NB256_257.out
      have hnc16 := NB257_256.out
      have hnb17 := NB256_258.out
      have hnc17 := NB258_256.out
      have hcz18_0 : wr.cell? ⟨gb256, 0, none⟩ = some (.int .u8 a0_0) := (blk_cell BK256.out 0).trans rfl
      have hcz18_1 : wr.cell? ⟨gb256, 1, none⟩ = some (.int .u8 a0_1) := (blk_cell BK256.out 1).trans rfl
      have hcz18_2 : wr.cell? ⟨gb256, 2, none⟩ = some (.slice A0_2 l0_2.length c0_2) := (blk_cell BK256.out 2).trans rfl
      have hfz18_0 := blk_frozen BK256.out 0
      have hfz18_1 := blk_frozen BK256.out 1
      have hfz18_2 := blk_frozen BK256.out 2
      go_wp2
      go_meet
      case rel => exact ⟨_, (false), (by first | rfl | (simp; done) | (simp [*]; done)), H', ⟨by have := HK1.out; first | omega | exact Nat.le_refl _⟩, ⟨rA HO_259001.out⟩, ⟨bA BK256.out⟩, ⟨bA BK257.out⟩, ⟨bA BK258.out⟩, ⟨by repeat (first | (with_reducible first | exact HB.out | apply below_alloc | apply pw_below_drewN | apply below_drew1 | refine below_set ?_ GE256.out | refine below_set ?_ GE257.out | refine below_set ?_ GE258.out) | exact HB.out)⟩⟩
    ·rw [if_neg c11] at H
     have c11b0 : decide ((wrap64 (x5_1 + 1)) < (l0_2.length : Int)) = false := decide_eq_false c11
     clear c11
     (first | rw [c11b0] | (simp only [i64_w, i32_w]; rw [c11b0]) | skip)
     have H' := Aside0.mk H
     clear H
     have hnb19 := NB256_257.out
     have hnc19 := NB257_256.out
     have hnb20 := NB256_258.out
     have hnc20 := NB258_256.out
     have hcz21_0 : wr.cell? ⟨gb256, 0, none⟩ = some (.int .u8 a0_0) := (blk_cell BK256.out 0).trans rfl
     have hcz21_1 : wr.cell? ⟨gb256, 1, none⟩ = some (.int .u8 a0_1) := (blk_cell BK256.out 1).trans rfl
     have hcz21_2 : wr.cell? ⟨gb256, 2, none⟩ = some (.slice A0_2 l0_2.length c0_2) := (blk_cell BK256.out 2).trans rfl
     have hfz21_0 := blk_frozen BK256.out 0
     have hfz21_1 := blk_frozen BK256.out 1
     have hfz21_2 := blk_frozen BK256.out 2
     go_wp2
     go_meet
     case rel => exact ⟨_, (false), (by first | rfl | (simp; done) | (simp [*]; done)), H', ⟨by have := HK1.out; first | omega | exact Nat.le_refl _⟩, ⟨rA HO_259001.out⟩, ⟨bA BK256.out⟩, ⟨bA BK257.out⟩, ⟨bA BK258.out⟩, ⟨by repeat (first | (with_reducible first | exact HB.out | apply below_alloc | apply pw_below_drewN | apply below_drew1 | refine below_set ?_ GE256.out | refine below_set ?_ GE257.out | refine below_set ?_ GE258.out) | exact HB.out)⟩⟩
   case rest =>
    clear HC10
    try clear c1
    try clear c2
    try clear p2
    try clear c4
    try clear p6
    try clear c7
    try clear c8
    try clear c11
    try clear c11b0
    try clear c12
    try clear c12b0
    try clear c13
    try clear c14
    try clear c16
    try clear c17
    try clear c19
    try clear c20
    try clear hcz15_0
    try clear hcz15_1
    try clear hcz15_2
    try clear hcz18_0
    try clear hcz18_1
    try clear hcz18_2
    try clear hcz21_0
    try clear hcz21_1
    try clear hcz21_2
    try clear hcz5_0
    try clear hcz5_1
    try clear hcz5_2
    try clear hcz9_0
    try clear hcz9_1
    try clear hfz15_0
    try clear hfz15_1
    try clear hfz15_2
    try clear hfz18_0
    try clear hfz18_1
    try clear hfz18_2
    try clear hfz21_0
    try clear hfz21_1
    try clear hfz21_2
    try clear hfz5_0
    try clear hfz5_1
    try clear hfz5_2
    try clear hfz9_0
    try clear hfz9_1
    try clear p2
    try clear p6
    obtain ⟨kq, x27_9, rfl, HA, HJ9, HO_259001, BK256, BK257, BK258, HB⟩ := hcut
    cases kq with
    | zero => exact absurd HA.out (by simp [wireloomref05_Made.j1])
    | succ kj9 =>
     have H := HA.out
     clear HA
     simp only [wireloomref05_Made.j1] at H
     by_cases c22 : x27_9 = true
     ·subst c22
      have H1 : (if 0 ≤ x5_1 then (if x5_1 < (l0_2.length : Int) then (if (wrap64 (Int.tmod a0_0 13)) = 0 then (none) else (if 0 ≤ (wrap64 (x5_1 + 1)) then (if (wrap64 (x5_1 + 1)) < (l0_2.length : Int) then (if (Int.tmod a0_1 2) = 0 then (if (Int.tmod (wrap64 (rd l0_2 x5_1)) (wrap64 (Int.tmod a0_0 13))) = (Int.tmod (wrap64 (rd l0_2 (wrap64 (x5_1 + 1)))) (wrap64 (Int.tmod a0_0 13))) then (wireloomref05_Made.l0 kj9 (wrap64 (Int.tmod a0_0 13)) (wrap64 (x5_1 + 2)) a0_0 a0_1 l0_2 (wrap64 (Int.tmod a0_0 13)) x259001_1) else (if (Int.tmod (wrap64 (rd l0_2 x5_1)) (wrap64 (Int.tmod a0_0 13))) > (Int.tmod (wrap64 (rd l0_2 (wrap64 (x5_1 + 1)))) (wrap64 (Int.tmod a0_0 13))) then (wireloomref05_Made.j2 kj9 (wrap64 (Int.tmod a0_0 13)) x5_1 (Int.tmod (wrap64 (rd l0_2 (wrap64 (x5_1 + 1)))) (wrap64 (Int.tmod a0_0 13))) (Int.tmod (wrap64 (rd l0_2 x5_1)) (wrap64 (Int.tmod a0_0 13))) a0_0 a0_1 l0_2 (wrap64 (Int.tmod a0_0 13)) x259001_1) else (wireloomref05_Made.j2 kj9 (wrap64 (Int.tmod a0_0 13)) x5_1 (Int.tmod (wrap64 (rd l0_2 x5_1)) (wrap64 (Int.tmod a0_0 13))) (Int.tmod (wrap64 (rd l0_2 (wrap64 (x5_1 + 1)))) (wrap64 (Int.tmod a0_0 13))) a0_0 a0_1 l0_2 (wrap64 (Int.tmod a0_0 13)) x259001_1))) else (if x259001_1.length < 8796093022208 then (wireloomref05_Made.l0 kj9 (wrap64 (Int.tmod a0_0 13)) (wrap64 (x5_1 + 2)) a0_0 a0_1 l0_2 (wrap64 (Int.tmod a0_0 13)) (x259001_1 ++ [(⟨Int.tmod (wrap64 (rd l0_2 x5_1)) (wrap64 (Int.tmod a0_0 13)), Int.tmod (wrap64 (rd l0_2 (wrap64 (x5_1 + 1)))) (wrap64 (Int.tmod a0_0 13))⟩ : S55)])) else (none))) else (none)) else (none))) else (none)) else (none)) = some (r1, r2) := by rw [if_pos rfl] at H; exact H
      clear H
      have H := H1
      clear H1
      by_cases c23 : 0 ≤ x5_1
      ·rw [if_pos c23] at H
       have c23b0 : decide (0 ≤ x5_1) = true := decide_eq_true c23
       clear c23
       by_cases c24 : x5_1 < (l0_2.length : Int)
       ·rw [if_pos c24] at H
        have c24b0 : decide (x5_1 < (l0_2.length : Int)) = true := decide_eq_true c24
        clear c24
        by_cases c25 : (wrap64 (Int.tmod a0_0 13)) = 0
        ·rw [if_pos c25] at H
         exact absurd H (by simp)
        ·rw [if_neg c25] at H
         have c25b0 : ((wrap64 (Int.tmod a0_0 13)) == 0) = false := beq_eq_false_iff_ne.mpr c25
         have c25b1 : ((wrap64 (Int.tmod a0_0 13)) != 0) = true := bne_iff_ne.mpr c25
         obtain ⟨ji26, hji26⟩ : ∃ j_ : Int, (wrap64 (x5_1 + 1)) = j_ := ⟨_, rfl⟩
         replace H : (if 0 ≤ (ji26) then (if (ji26) < (l0_2.length : Int) then (if (Int.tmod a0_1 2) = 0 then (if (Int.tmod (wrap64 (rd l0_2 x5_1)) (wrap64 (Int.tmod a0_0 13))) = (Int.tmod (wrap64 (rd l0_2 (ji26))) (wrap64 (Int.tmod a0_0 13))) then (wireloomref05_Made.l0 kj9 (wrap64 (Int.tmod a0_0 13)) (wrap64 (x5_1 + 2)) a0_0 a0_1 l0_2 (wrap64 (Int.tmod a0_0 13)) x259001_1) else (if (Int.tmod (wrap64 (rd l0_2 x5_1)) (wrap64 (Int.tmod a0_0 13))) > (Int.tmod (wrap64 (rd l0_2 (ji26))) (wrap64 (Int.tmod a0_0 13))) then (wireloomref05_Made.j2 kj9 (wrap64 (Int.tmod a0_0 13)) x5_1 (Int.tmod (wrap64 (rd l0_2 (ji26))) (wrap64 (Int.tmod a0_0 13))) (Int.tmod (wrap64 (rd l0_2 x5_1)) (wrap64 (Int.tmod a0_0 13))) a0_0 a0_1 l0_2 (wrap64 (Int.tmod a0_0 13)) x259001_1) else (wireloomref05_Made.j2 kj9 (wrap64 (Int.tmod a0_0 13)) x5_1 (Int.tmod (wrap64 (rd l0_2 x5_1)) (wrap64 (Int.tmod a0_0 13))) (Int.tmod (wrap64 (rd l0_2 (ji26))) (wrap64 (Int.tmod a0_0 13))) a0_0 a0_1 l0_2 (wrap64 (Int.tmod a0_0 13)) x259001_1))) else (if x259001_1.length < 8796093022208 then (wireloomref05_Made.l0 kj9 (wrap64 (Int.tmod a0_0 13)) (wrap64 (x5_1 + 2)) a0_0 a0_1 l0_2 (wrap64 (Int.tmod a0_0 13)) (x259001_1 ++ [(⟨Int.tmod (wrap64 (rd l0_2 x5_1)) (wrap64 (Int.tmod a0_0 13)), Int.tmod (wrap64 (rd l0_2 (ji26))) (wrap64 (Int.tmod a0_0 13))⟩ : S55)])) else (none))) else (none)) else (none)) = some (r1, r2) := by first | (rw [hji26] at H; exact H) | (simp only [hji26] at H ⊢; exact H)
         have hji26w : (IntKind.i64.wrap (x5_1 + 1)) = ji26 := (i64_w _).trans hji26
         by_cases c27 : 0 ≤ (ji26)
         ·rw [if_pos c27] at H
          have c27b0 : decide (0 ≤ (ji26)) = true := decide_eq_true c27
          clear c27
          by_cases c28 : (ji26) < (l0_2.length : Int)
          ·rw [if_pos c28] at H
           have c28b0 : decide ((ji26) < (l0_2.length : Int)) = true := decide_eq_true c28
           clear c28
           by_cases c29 : (Int.tmod a0_1 2) = 0
           ·rw [if_pos c29] at H
            have c29b0 : ((Int.tmod a0_1 2) == 0) = true := beq_iff_eq.mpr c29
            have c29b1 : ((Int.tmod a0_1 2) != 0) = false := bne_eq_false_iff_eq.mpr c29
            clear c29
            by_cases c30 : (Int.tmod (wrap64 (rd l0_2 x5_1)) (wrap64 (Int.tmod a0_0 13))) = (Int.tmod (wrap64 (rd l0_2 (ji26))) (wrap64 (Int.tmod a0_0 13)))
            ·rw [if_pos c30] at H
             have c30b0 : ((Int.tmod (wrap64 (rd l0_2 x5_1)) (wrap64 (Int.tmod a0_0 13))) == (Int.tmod (wrap64 (rd l0_2 (ji26))) (wrap64 (Int.tmod a0_0 13)))) = true := beq_iff_eq.mpr c30
             have c30b1 : ((Int.tmod (wrap64 (rd l0_2 x5_1)) (wrap64 (Int.tmod a0_0 13))) != (Int.tmod (wrap64 (rd l0_2 (ji26))) (wrap64 (Int.tmod a0_0 13)))) = false := bne_eq_false_iff_eq.mpr c30
             clear c30
             have H' := Aside0.mk H
             clear H
             have hnb31 := NB256_257.out
             have hnc31 := NB257_256.out
             have hnb32 := NB256_258.out
             have hnc32 := NB258_256.out
             have hcz33_0 : wc.cell? ⟨gb256, 0, none⟩ = some (.int .u8 a0_0) := (blk_cell BK256.out 0).trans rfl
             have hcz33_1 : wc.cell? ⟨gb256, 1, none⟩ = some (.int .u8 a0_1) := (blk_cell BK256.out 1).trans rfl
             have hcz33_2 : wc.cell? ⟨gb256, 2, none⟩ = some (.slice A0_2 l0_2.length c0_2) := (blk_cell BK256.out 2).trans rfl
             have hfz33_0 := blk_frozen BK256.out 0
             have hfz33_1 := blk_frozen BK256.out 1
             have hfz33_2 := blk_frozen BK256.out 2
             have p259 : 0 ≤ (x5_1 : Int) := of_decide_eq_true (by first | (with_reducible assumption) | assumption)
             have q259 : x5_1 < (l0_2.length : Int) := of_decide_eq_true (by first | (with_reducible assumption) | assumption)
             obtain ⟨ad259, e259, hx259_0⟩ := Kd.at_int HR0_2.out x5_1 p259 q259
             cases e259
             (try (replace hx259_0 := (HB.out.cell (World.block_lt_of_cell? w _ hx259_0)).trans hx259_0))
             replace p259 := eq_true p259
             replace q259 := eq_true q259
             have p260 : 0 ≤ ((ji26) : Int) := of_decide_eq_true (by first | (with_reducible assumption) | assumption)
             have q260 : (ji26) < (l0_2.length : Int) := of_decide_eq_true (by first | (with_reducible assumption) | assumption)
             obtain ⟨ad260, e260, hx260_0⟩ := Kd.at_int HR0_2.out (ji26) p260 q260
             obtain rfl : ad259 = ad260 := (by injection e260)
             (try (replace hx260_0 := (HB.out.cell (World.block_lt_of_cell? w _ hx260_0)).trans hx260_0))
             replace p260 := eq_true p260
             replace q260 := eq_true q260
             go_wp2
             go_roundg kj9
             case measure => have := HK1.out; have := HJ9.out; omega
             case rel => exact ⟨(wrap64 (x5_1 + 2)), (x259001_1), (u259001), (by first | rfl | (simp; done) | (simp [*]; done)), H', ⟨by have := HK1.out; have := HJ9.out; omega⟩, ⟨rA HO_259001.out⟩, ⟨bA BK256.out⟩, ⟨bA BK257.out⟩, ⟨bA BK258.out⟩, ⟨by repeat (first | (with_reducible first | exact HB.out | apply below_alloc | apply pw_below_drewN | apply below_drew1 | refine below_set ?_ GE256.out | refine below_set ?_ GE257.out | refine below_set ?_ GE258.out) | exact HB.out)⟩⟩
            ·rw [if_neg c30] at H
             have c30b0 : ((Int.tmod (wrap64 (rd l0_2 x5_1)) (wrap64 (Int.tmod a0_0 13))) == (Int.tmod (wrap64 (rd l0_2 (ji26))) (wrap64 (Int.tmod a0_0 13)))) = false := beq_eq_false_iff_ne.mpr c30
             have c30b1 : ((Int.tmod (wrap64 (rd l0_2 x5_1)) (wrap64 (Int.tmod a0_0 13))) != (Int.tmod (wrap64 (rd l0_2 (ji26))) (wrap64 (Int.tmod a0_0 13)))) = true := bne_iff_ne.mpr c30
             have HC34 := Aside0.mk H
             clear H
             have hnb35 := NB256_257.out
             have hnc35 := NB257_256.out
             have hnb36 := NB256_258.out
             have hnc36 := NB258_256.out
             have hcz37_0 : wc.cell? ⟨gb256, 0, none⟩ = some (.int .u8 a0_0) := (blk_cell BK256.out 0).trans rfl
             have hcz37_1 : wc.cell? ⟨gb256, 1, none⟩ = some (.int .u8 a0_1) := (blk_cell BK256.out 1).trans rfl
             have hcz37_2 : wc.cell? ⟨gb256, 2, none⟩ = some (.slice A0_2 l0_2.length c0_2) := (blk_cell BK256.out 2).trans rfl
             have hfz37_0 := blk_frozen BK256.out 0
             have hfz37_1 := blk_frozen BK256.out 1
             have hfz37_2 := blk_frozen BK256.out 2
             have p259 : 0 ≤ (x5_1 : Int) := of_decide_eq_true (by first | (with_reducible assumption) | assumption)
             have q259 : x5_1 < (l0_2.length : Int) := of_decide_eq_true (by first | (with_reducible assumption) | assumption)
             obtain ⟨ad259, e259, hx259_0⟩ := Kd.at_int HR0_2.out x5_1 p259 q259
             cases e259
             (try (replace hx259_0 := (HB.out.cell (World.block_lt_of_cell? w _ hx259_0)).trans hx259_0))
             replace p259 := eq_true p259
             replace q259 := eq_true q259
             have p260 : 0 ≤ ((ji26) : Int) := of_decide_eq_true (by first | (with_reducible assumption) | assumption)
             have q260 : (ji26) < (l0_2.length : Int) := of_decide_eq_true (by first | (with_reducible assumption) | assumption)
             obtain ⟨ad260, e260, hx260_0⟩ := Kd.at_int HR0_2.out (ji26) p260 q260
             obtain rfl : ad259 = ad260 := (by injection e260)
             (try (replace hx260_0 := (HB.out.cell (World.block_lt_of_cell? w _ hx260_0)).trans hx260_0))
             replace p260 := eq_true p260
             replace q260 := eq_true q260
             go_upto_if 56 with (fail)
             go_cut [6, 7] (fun v6 v7 wc => ∃ (kq : Nat) (x6_33 : Int) (x7_33 : Int), v6 = .int .i64 x6_33 ∧ v7 = .int .i64 x7_33 ∧ Aside0 (wireloomref05_Made.j2 kq (wrap64 (Int.tmod a0_0 13)) x5_1 x6_33 x7_33 a0_0 a0_1 l0_2 (wrap64 (Int.tmod a0_0 13)) x259001_1 = some (r1, r2)) ∧ Aside0 (kq ≤ kj9) ∧ Aside0 (Kd.R k55 55 wc w.heap.size (fun _ => True) u259001 x259001_1) ∧ Aside0 (wc.heap[gb256]? = some (.cells #[.int .u8 a0_0, .int .u8 a0_1, (.slice (some ad259) l0_2.length c0_2)] 24 (0, 0))) ∧ Aside0 (wc.heap[gb257]? = some (.cells #[.int .i64 0, (.slice none 0 0)] 31 (0, 0))) ∧ Aside0 (wc.heap[gb258]? = some (.cells #[.int .i64 (wrap64 (Int.tmod a0_0 13)), u259001] 31 (0, 0))) ∧ Aside0 (Below w.heap.size w wc))
             case first =>
              have H := HC34.out
              clear HC34
              by_cases c38 : (Int.tmod (wrap64 (rd l0_2 x5_1)) (wrap64 (Int.tmod a0_0 13))) > (Int.tmod (wrap64 (rd l0_2 (ji26))) (wrap64 (Int.tmod a0_0 13)))
              ·rw [if_pos c38] at H
               have c38b0 : decide ((Int.tmod (wrap64 (rd l0_2 (ji26))) (wrap64 (Int.tmod a0_0 13))) < (Int.tmod (wrap64 (rd l0_2 x5_1)) (wrap64 (Int.tmod a0_0 13)))) = true := decide_eq_true c38
               clear c38
               (first | rw [c38b0] | (simp only [i64_w, i32_w]; rw [c38b0]) | skip)
               have H' := Aside0.mk H
               clear H
               go_wp2
               go_meet
               case rel => exact ⟨_, (Int.tmod (wrap64 (rd l0_2 (ji26))) (wrap64 (Int.tmod a0_0 13))), (Int.tmod (wrap64 (rd l0_2 x5_1)) (wrap64 (Int.tmod a0_0 13))), (by first | rfl | (simp; done) | (simp only [← hji26] <;> (first | rfl | simp)) | (simp [*]; done)), (by first | rfl | (simp; done) | (simp [*]; done)), H', ⟨by have := HK1.out; have := HJ9.out; first | omega | exact Nat.le_refl _⟩, ⟨rA HO_259001.out⟩, ⟨bA BK256.out⟩, ⟨bA BK257.out⟩, ⟨bA BK258.out⟩, ⟨by repeat (first | (with_reducible first | exact HB.out | apply below_alloc | apply pw_below_drewN | apply below_drew1 | refine below_set ?_ GE256.out | refine below_set ?_ GE257.out | refine below_set ?_ GE258.out) | exact HB.out)⟩⟩
              ·rw [if_neg c38] at H
               have c38b0 : decide ((Int.tmod (wrap64 (rd l0_2 (ji26))) (wrap64 (Int.tmod a0_0 13))) < (Int.tmod (wrap64 (rd l0_2 x5_1)) (wrap64 (Int.tmod a0_0 13)))) = false := decide_eq_false c38
               clear c38
               (first | rw [c38b0] | (simp only [i64_w, i32_w]; rw [c38b0]) | skip)
               have H' := Aside0.mk H
               clear H
               go_wp2
               go_meet
               case rel => exact ⟨_, (Int.tmod (wrap64 (rd l0_2 x5_1)) (wrap64 (Int.tmod a0_0 13))), (Int.tmod (wrap64 (rd l0_2 (ji26))) (wrap64 (Int.tmod a0_0 13))), (by first | rfl | (simp; done) | (simp [*]; done)), (by first | rfl | (simp; done) | (simp only [← hji26] <;> (first | rfl | simp)) | (simp [*]; done)), H', ⟨by have := HK1.out; have := HJ9.out; first | omega | exact Nat.le_refl _⟩, ⟨rA HO_259001.out⟩, ⟨bA BK256.out⟩, ⟨bA BK257.out⟩, ⟨bA BK258.out⟩, ⟨by repeat (first | (with_reducible first | exact HB.out | apply below_alloc | apply pw_below_drewN | apply below_drew1 | refine below_set ?_ GE256.out | refine below_set ?_ GE257.out | refine below_set ?_ GE258.out) | exact HB.out)⟩⟩
             case rest =>
              clear HC34
              try clear c1
              try clear c2
              try clear p2
              try clear q2
              try clear hx2
              try clear c3
              try clear c4
              try clear p6
              try clear c7
              try clear c8
              try clear c11
              try clear c11b0
              try clear c12
              try clear c12b0
              try clear c13
              try clear c14
              try clear c16
              try clear c17
              try clear c19
              try clear c20
              try clear c22
              try clear c23
              try clear c23b0
              try clear c24
              try clear c24b0
              try clear c25
              try clear c25b0
              try clear c25b1
              try clear p25
              try clear q25
              try clear hx25
              try clear p26
              try clear q26
              try clear hx26
              try clear c27
              try clear c27b0
              try clear c28
              try clear c28b0
              try clear c29
              try clear c29b0
              try clear c29b1
              try clear c30
              try clear c30b0
              try clear c30b1
              try clear c31
              try clear c32
              try clear c35
              try clear c36
              try clear c38
              try clear c38b0
              try clear hcz15_0
              try clear hcz15_1
              try clear hcz15_2
              try clear hcz18_0
              try clear hcz18_1
              try clear hcz18_2
              try clear hcz21_0
              try clear hcz21_1
              try clear hcz21_2
              try clear hcz33_0
              try clear hcz33_1
              try clear hcz33_2
              try clear hcz37_0
              try clear hcz37_1
              try clear hcz37_2
              try clear hcz5_0
              try clear hcz5_1
              try clear hcz5_2
              try clear hcz9_0
              try clear hcz9_1
              try clear hfz15_0
              try clear hfz15_1
              try clear hfz15_2
              try clear hfz18_0
              try clear hfz18_1
              try clear hfz18_2
              try clear hfz21_0
              try clear hfz21_1
              try clear hfz21_2
              try clear hfz33_0
              try clear hfz33_1
              try clear hfz33_2
              try clear hfz37_0
              try clear hfz37_1
              try clear hfz37_2
              try clear hfz5_0
              try clear hfz5_1
              try clear hfz5_2
              try clear hfz9_0
              try clear hfz9_1
              try clear hx259_0
              try clear hx260_0
              try clear p2
              try clear p259
              try clear p260
              try clear p6
              try clear q259
              try clear q260
              obtain ⟨kq, x6_33, x7_33, rfl, rfl, HA, HJ33, HO_259001, BK256, BK257, BK258, HB⟩ := hcut
              cases kq with
              | zero => exact absurd HA.out (by simp [wireloomref05_Made.j2])
              | succ kj33 =>
               have H := HA.out
               clear HA
               simp only [wireloomref05_Made.j2] at H
               by_cases c39 : (Int.tmod a0_1 4) = 2
               ·rw [if_pos c39] at H
                have c39b0 : ((Int.tmod a0_1 4) == 2) = true := beq_iff_eq.mpr c39
                have c39b1 : ((Int.tmod a0_1 4) != 2) = false := bne_eq_false_iff_eq.mpr c39
                clear c39
                by_cases c40 : (wrap64 (Int.tmod a0_0 13)) = 0
                ·rw [if_pos c40] at H
                 exact absurd H (by simp)
                ·rw [if_neg c40] at H
                 have c40b0 : ((wrap64 (Int.tmod a0_0 13)) == 0) = false := beq_eq_false_iff_ne.mpr c40
                 have c40b1 : ((wrap64 (Int.tmod a0_0 13)) != 0) = true := bne_iff_ne.mpr c40
                 by_cases c41 : (Int.tmod (wrap64 (Int.tmod a0_0 13)) 5) = 0
                 ·rw [if_pos c41] at H
                  have c41b0 : ((Int.tmod (wrap64 (Int.tmod a0_0 13)) 5) == 0) = true := beq_iff_eq.mpr c41
                  have c41b1 : ((Int.tmod (wrap64 (Int.tmod a0_0 13)) 5) != 0) = false := bne_eq_false_iff_eq.mpr c41
                  clear c41
                  have H' := Aside0.mk H
                  clear H
                  have hnb42 := NB256_257.out
                  have hnc42 := NB257_256.out
                  have hnb43 := NB256_258.out
                  have hnc43 := NB258_256.out
                  have hcz44_0 : wc.cell? ⟨gb256, 0, none⟩ = some (.int .u8 a0_0) := (blk_cell BK256.out 0).trans rfl
                  have hcz44_1 : wc.cell? ⟨gb256, 1, none⟩ = some (.int .u8 a0_1) := (blk_cell BK256.out 1).trans rfl
                  have hcz44_2 : wc.cell? ⟨gb256, 2, none⟩ = some (.slice (some ad259) l0_2.length c0_2) := (blk_cell BK256.out 2).trans rfl
                  have hfz44_0 := blk_frozen BK256.out 0
                  have hfz44_1 := blk_frozen BK256.out 1
                  have hfz44_2 := blk_frozen BK256.out 2
                  go_wp2
                  go_roundg kj33
                  case measure => have := HK1.out; have := HJ9.out; have := HJ33.out; omega
                  case rel => exact ⟨(wrap64 (x5_1 + 2)), (x259001_1), (u259001), (by first | rfl | (simp; done) | (simp [*]; done)), H', ⟨by have := HK1.out; have := HJ9.out; have := HJ33.out; omega⟩, ⟨rA HO_259001.out⟩, ⟨bA BK256.out⟩, ⟨bA BK257.out⟩, ⟨bA BK258.out⟩, ⟨by repeat (first | (with_reducible first | exact HB.out | apply below_alloc | apply pw_below_drewN | apply below_drew1 | refine below_set ?_ GE256.out | refine below_set ?_ GE257.out | refine below_set ?_ GE258.out) | exact HB.out)⟩⟩
                 ·rw [if_neg c41] at H
                  have c41b0 : ((Int.tmod (wrap64 (Int.tmod a0_0 13)) 5) == 0) = false := beq_eq_false_iff_ne.mpr c41
                  have c41b1 : ((Int.tmod (wrap64 (Int.tmod a0_0 13)) 5) != 0) = true := bne_iff_ne.mpr c41
                  by_cases c45 : x259001_1.length < 8796093022208
                  ·rw [if_pos c45] at H
                   have LMc45 := Aside0.mk c45
                   clear c45
                   obtain ⟨y261, hy261⟩ : ∃ y_ : List (S55), y_ = (x259001_1 ++ [(⟨Int.tmod (wrap64 ((wrap64 (5 * x6_33)) + 3)) (wrap64 (Int.tmod a0_0 13)), Int.tmod (wrap64 ((wrap64 (5 * x7_33)) + 3)) (wrap64 (Int.tmod a0_0 13))⟩ : S55)]) := ⟨_, rfl⟩
                   replace H : (wireloomref05_Made.l0 kj33 (wrap64 (Int.tmod a0_0 13)) (wrap64 (x5_1 + 2)) a0_0 a0_1 l0_2 (wrap64 (Int.tmod a0_0 13)) y261) = some (r1, r2) := by first | (rw [hy261]; with_reducible exact H) | (have H2_ := (Option.bind_some _ _).symm.trans H; rw [hy261]; with_reducible exact H2_) | (have H2_ := (Option.bind_some _ _).symm.trans H; with_reducible exact H2_) | with_reducible exact H | (rw [hy261]; exact H) | exact H
                   have Ny261 := Aside0.mk hy261
                   clear hy261
                   have H' := Aside0.mk H
                   clear H
                   have hnb46 := NB256_257.out
                   have hnc46 := NB257_256.out
                   have hnb47 := NB256_258.out
                   have hnc47 := NB258_256.out
                   have hcz48_0 : wc.cell? ⟨gb256, 0, none⟩ = some (.int .u8 a0_0) := (blk_cell BK256.out 0).trans rfl
                   have hcz48_1 : wc.cell? ⟨gb256, 1, none⟩ = some (.int .u8 a0_1) := (blk_cell BK256.out 1).trans rfl
                   have hcz48_2 : wc.cell? ⟨gb256, 2, none⟩ = some (.slice (some ad259) l0_2.length c0_2) := (blk_cell BK256.out 2).trans rfl
                   have hfz48_0 := blk_frozen BK256.out 0
                   have hfz48_1 := blk_frozen BK256.out 1
                   have hfz48_2 := blk_frozen BK256.out 2
                   have hnb49 := NB258_257.out
                   have hnc49 := NB257_258.out
                   have hcz50_0 : wc.cell? ⟨gb258, 0, none⟩ = some (.int .i64 (wrap64 (Int.tmod a0_0 13))) := (blk_cell BK258.out 0).trans rfl
                   have hcz50_1 : wc.cell? ⟨gb258, 1, none⟩ = some (u259001) := (blk_cell BK258.out 1).trans rfl
                   have hfz50_0 := blk_frozen BK258.out 0
                   have hfz50_1 := blk_frozen BK258.out 1
                   go_wp2_with (first | ((with_reducible refine gate_builtin (b := .append) (xs := #[.tmp 83, .tmp 87]) rfl ?_); at_builtin; refine Kd.R_append k55 (w0 := w) w.heap.size rfl (.tmp 83) (.tmp 87) 25 55 (.agg #[(.int .i64 0), (.int .i64 0)]) 16 rfl Try.underlying25 info55 rfl (by decide) (by omega) u259001 x259001_1 (⟨Int.tmod (wrap64 ((wrap64 (5 * x6_33)) + 3)) (wrap64 (Int.tmod a0_0 13)), Int.tmod (wrap64 ((wrap64 (5 * x7_33)) + 3)) (wrap64 (Int.tmod a0_0 13))⟩ : S55) [.int .i64 (Int.tmod (wrap64 ((wrap64 (5 * x6_33)) + 3)) (wrap64 (Int.tmod a0_0 13))), .int .i64 (Int.tmod (wrap64 ((wrap64 (5 * x7_33)) + 3)) (wrap64 (Int.tmod a0_0 13)))] (fun _ => True) (fun _ => False) rfl rfl ?aP (fun _ hk => hk.elim) ?aF ?aO ?aB ?aS ?aL ?_; (case aP => exact k55_mkM _ _ _ (⟨Int.tmod (wrap64 ((wrap64 (5 * x6_33)) + 3)) (wrap64 (Int.tmod a0_0 13)), Int.tmod (wrap64 ((wrap64 (5 * x7_33)) + 3)) (wrap64 (Int.tmod a0_0 13))⟩ : S55)); (case aB => exact (by repeat (first | (with_reducible first | exact HB.out | apply below_alloc | apply pw_below_drewN | apply below_drew1 | refine below_set ?_ GE256.out | refine below_set ?_ GE257.out | refine below_set ?_ GE258.out) | exact HB.out))); (case aF => exact (fun _ _ => trivial)); (case aO => exact (rA HO_259001.out)); (case aS => exact (below_size (by repeat (first | (with_reducible first | exact HB.out | apply below_alloc | apply pw_below_drewN | apply below_drew1 | refine below_set ?_ GE256.out | refine below_set ?_ GE257.out | refine below_set ?_ GE258.out) | exact HB.out)))); (case aL => have := LMc45.out; omega); intro v262 w51 ho hb hg hat; rw [← Ny261.out] at ho; have n0_ := Aside0.mk (blk_grown (g := gb256) (o := .cells #[.int .u8 a0_0, .int .u8 a0_1, .slice (some ad259) l0_2.length c0_2] 24 (0, 0)) (bA BK256.out) hg (Kd.R_ne HO_259001.out BK256.out (by decide))); have n1_ := Aside0.mk (blk_grown (g := gb257) (o := .cells #[.int .i64 0, .slice none 0 0] 31 (0, 0)) (bA BK257.out) hg (Kd.R_ne HO_259001.out BK257.out (by decide))); have n2_ := Aside0.mk (blk_grown (g := gb258) (o := .cells #[.int .i64 (wrap64 (Int.tmod a0_0 13)), u259001] 31 (0, 0)) (bA BK258.out) hg (Kd.R_ne HO_259001.out BK258.out (by decide))); have n3_ := Aside0.mk (hb); have n4_ := Aside0.mk (ho); clear BK256; clear BK257; clear BK258; clear HB; clear HO_259001; have BK256 := n0_; have BK257 := n1_; have BK258 := n2_; have HB := n3_; have HO263 := n4_; clear n0_ n1_ n2_ n3_ n4_; clear ho hb hg hat; obtain ⟨Ao52, co52, eo52⟩ := Kd.R_slice HO263.out; subst eo52; have hcz53_0 : w51.cell? ⟨gb258, 0, none⟩ = some (.int .i64 (wrap64 (Int.tmod a0_0 13))) := (blk_cell BK258.out 0).trans rfl; have hcz53_1 : w51.cell? ⟨gb258, 1, none⟩ = some (u259001) := (blk_cell BK258.out 1).trans rfl; have hfz53_0 := blk_frozen BK258.out 0; have hfz53_1 := blk_frozen BK258.out 1))
                   go_roundg kj33
                   case measure => have := HK1.out; have := HJ9.out; have := HJ33.out; omega
                   case rel => exact ⟨(wrap64 (x5_1 + 2)), (y261), (.slice Ao52 y261.length co52), (by first | rfl | (simp; done) | (simp [*]; done)), H', ⟨by have := HK1.out; have := HJ9.out; have := HJ33.out; omega⟩, ⟨by (with_reducible repeat (first | apply Kd.R_alloc | apply Kd.R_drewN | apply Kd.R_drew)); exact Kd.R_mono (Kd.R_far (p := ⟨gb258, 1, none⟩) (Kd.R_types HO263.out BK258.out (by decide)) (fun _ hk => hk.2) (.slice Ao52 y261.length co52)) (fun _ hk => trivial)⟩, ⟨by (with_reducible repeat (first | refine blk_drewN ?_ _ | refine blk_drew ?_ | refine blk_alloc ?_ _)); refine blk_far ?_ NB256_258.out _; (with_reducible repeat (first | refine blk_drewN ?_ _ | refine blk_drew ?_ | refine blk_alloc ?_ _)); exact BK256.out⟩, ⟨by (with_reducible repeat (first | refine blk_drewN ?_ _ | refine blk_drew ?_ | refine blk_alloc ?_ _)); refine blk_far ?_ NB257_258.out _; (with_reducible repeat (first | refine blk_drewN ?_ _ | refine blk_drew ?_ | refine blk_alloc ?_ _)); exact BK257.out⟩, ⟨by (with_reducible repeat (first | refine blk_drewN ?_ _ | refine blk_drew ?_ | refine blk_alloc ?_ _)); refine blk_put (cs := #[.int .i64 (wrap64 (Int.tmod a0_0 13)), u259001]) ?_ 1 _ rfl; (with_reducible repeat (first | refine blk_drewN ?_ _ | refine blk_drew ?_ | refine blk_alloc ?_ _)); exact BK258.out⟩, ⟨by repeat (first | (with_reducible first | exact HB.out | apply below_alloc | apply pw_below_drewN | apply below_drew1 | refine below_set ?_ GE256.out | refine below_set ?_ GE257.out | refine below_set ?_ GE258.out) | exact HB.out)⟩⟩
                  ·rw [if_neg c45] at H
                   exact absurd H (by simp)
               ·rw [if_neg c39] at H
                have c39b0 : ((Int.tmod a0_1 4) == 2) = false := beq_eq_false_iff_ne.mpr c39
                have c39b1 : ((Int.tmod a0_1 4) != 2) = true := bne_iff_ne.mpr c39
                by_cases c54 : (Int.tmod (wrap64 (Int.tmod a0_0 13)) 5) = 0
                ·rw [if_pos c54] at H
                 have c54b0 : ((Int.tmod (wrap64 (Int.tmod a0_0 13)) 5) == 0) = true := beq_iff_eq.mpr c54
                 have c54b1 : ((Int.tmod (wrap64 (Int.tmod a0_0 13)) 5) != 0) = false := bne_eq_false_iff_eq.mpr c54
                 clear c54
                 by_cases c55 : x259001_1.length < 8796093022208
                 ·rw [if_pos c55] at H
                  have LMc55 := Aside0.mk c55
                  clear c55
                  obtain ⟨y264, hy264⟩ : ∃ y_ : List (S55), y_ = (x259001_1 ++ [(⟨x6_33, x7_33⟩ : S55)]) := ⟨_, rfl⟩
                  replace H : (wireloomref05_Made.l0 kj33 (wrap64 (Int.tmod a0_0 13)) (wrap64 (x5_1 + 2)) a0_0 a0_1 l0_2 (wrap64 (Int.tmod a0_0 13)) y264) = some (r1, r2) := by first | (rw [hy264]; with_reducible exact H) | (have H2_ := (Option.bind_some _ _).symm.trans H; rw [hy264]; with_reducible exact H2_) | (have H2_ := (Option.bind_some _ _).symm.trans H; with_reducible exact H2_) | with_reducible exact H | (rw [hy264]; exact H) | exact H
                  have Ny264 := Aside0.mk hy264
                  clear hy264
                  have H' := Aside0.mk H
                  clear H
                  have hnb56 := NB256_257.out
                  have hnc56 := NB257_256.out
                  have hnb57 := NB256_258.out
                  have hnc57 := NB258_256.out
                  have hcz58_0 : wc.cell? ⟨gb256, 0, none⟩ = some (.int .u8 a0_0) := (blk_cell BK256.out 0).trans rfl
                  have hcz58_1 : wc.cell? ⟨gb256, 1, none⟩ = some (.int .u8 a0_1) := (blk_cell BK256.out 1).trans rfl
                  have hcz58_2 : wc.cell? ⟨gb256, 2, none⟩ = some (.slice (some ad259) l0_2.length c0_2) := (blk_cell BK256.out 2).trans rfl
                  have hfz58_0 := blk_frozen BK256.out 0
                  have hfz58_1 := blk_frozen BK256.out 1
                  have hfz58_2 := blk_frozen BK256.out 2
                  have hnb59 := NB258_257.out
                  have hnc59 := NB257_258.out
                  have hcz60_0 : wc.cell? ⟨gb258, 0, none⟩ = some (.int .i64 (wrap64 (Int.tmod a0_0 13))) := (blk_cell BK258.out 0).trans rfl
                  have hcz60_1 : wc.cell? ⟨gb258, 1, none⟩ = some (u259001) := (blk_cell BK258.out 1).trans rfl
                  have hfz60_0 := blk_frozen BK258.out 0
                  have hfz60_1 := blk_frozen BK258.out 1
                  go_wp2_with (first | ((with_reducible refine gate_builtin (b := .append) (xs := #[.tmp 83, .tmp 87]) rfl ?_); at_builtin; refine Kd.R_append k55 (w0 := w) w.heap.size rfl (.tmp 83) (.tmp 87) 25 55 (.agg #[(.int .i64 0), (.int .i64 0)]) 16 rfl Try.underlying25 info55 rfl (by decide) (by omega) u259001 x259001_1 (⟨x6_33, x7_33⟩ : S55) [.int .i64 x6_33, .int .i64 x7_33] (fun _ => True) (fun _ => False) rfl rfl ?aP (fun _ hk => hk.elim) ?aF ?aO ?aB ?aS ?aL ?_; (case aP => exact k55_mkM _ _ _ (⟨x6_33, x7_33⟩ : S55)); (case aB => exact (by repeat (first | (with_reducible first | exact HB.out | apply below_alloc | apply pw_below_drewN | apply below_drew1 | refine below_set ?_ GE256.out | refine below_set ?_ GE257.out | refine below_set ?_ GE258.out) | exact HB.out))); (case aF => exact (fun _ _ => trivial)); (case aO => exact (rA HO_259001.out)); (case aS => exact (below_size (by repeat (first | (with_reducible first | exact HB.out | apply below_alloc | apply pw_below_drewN | apply below_drew1 | refine below_set ?_ GE256.out | refine below_set ?_ GE257.out | refine below_set ?_ GE258.out) | exact HB.out)))); (case aL => have := LMc55.out; omega); intro v265 w61 ho hb hg hat; rw [← Ny264.out] at ho; have n0_ := Aside0.mk (blk_grown (g := gb256) (o := .cells #[.int .u8 a0_0, .int .u8 a0_1, .slice (some ad259) l0_2.length c0_2] 24 (0, 0)) (bA BK256.out) hg (Kd.R_ne HO_259001.out BK256.out (by decide))); have n1_ := Aside0.mk (blk_grown (g := gb257) (o := .cells #[.int .i64 0, .slice none 0 0] 31 (0, 0)) (bA BK257.out) hg (Kd.R_ne HO_259001.out BK257.out (by decide))); have n2_ := Aside0.mk (blk_grown (g := gb258) (o := .cells #[.int .i64 (wrap64 (Int.tmod a0_0 13)), u259001] 31 (0, 0)) (bA BK258.out) hg (Kd.R_ne HO_259001.out BK258.out (by decide))); have n3_ := Aside0.mk (hb); have n4_ := Aside0.mk (ho); clear BK256; clear BK257; clear BK258; clear HB; clear HO_259001; have BK256 := n0_; have BK257 := n1_; have BK258 := n2_; have HB := n3_; have HO266 := n4_; clear n0_ n1_ n2_ n3_ n4_; clear ho hb hg hat; obtain ⟨Ao62, co62, eo62⟩ := Kd.R_slice HO266.out; subst eo62; have hcz63_0 : w61.cell? ⟨gb258, 0, none⟩ = some (.int .i64 (wrap64 (Int.tmod a0_0 13))) := (blk_cell BK258.out 0).trans rfl; have hcz63_1 : w61.cell? ⟨gb258, 1, none⟩ = some (u259001) := (blk_cell BK258.out 1).trans rfl; have hfz63_0 := blk_frozen BK258.out 0; have hfz63_1 := blk_frozen BK258.out 1))
                  go_roundg kj33
                  case measure => have := HK1.out; have := HJ9.out; have := HJ33.out; omega
                  case rel => exact ⟨(wrap64 (x5_1 + 2)), (y264), (.slice Ao62 y264.length co62), (by first | rfl | (simp; done) | (simp [*]; done)), H', ⟨by have := HK1.out; have := HJ9.out; have := HJ33.out; omega⟩, ⟨by (with_reducible repeat (first | apply Kd.R_alloc | apply Kd.R_drewN | apply Kd.R_drew)); exact Kd.R_mono (Kd.R_far (p := ⟨gb258, 1, none⟩) (Kd.R_types HO266.out BK258.out (by decide)) (fun _ hk => hk.2) (.slice Ao62 y264.length co62)) (fun _ hk => trivial)⟩, ⟨by (with_reducible repeat (first | refine blk_drewN ?_ _ | refine blk_drew ?_ | refine blk_alloc ?_ _)); refine blk_far ?_ NB256_258.out _; (with_reducible repeat (first | refine blk_drewN ?_ _ | refine blk_drew ?_ | refine blk_alloc ?_ _)); exact BK256.out⟩, ⟨by (with_reducible repeat (first | refine blk_drewN ?_ _ | refine blk_drew ?_ | refine blk_alloc ?_ _)); refine blk_far ?_ NB257_258.out _; (with_reducible repeat (first | refine blk_drewN ?_ _ | refine blk_drew ?_ | refine blk_alloc ?_ _)); exact BK257.out⟩, ⟨by (with_reducible repeat (first | refine blk_drewN ?_ _ | refine blk_drew ?_ | refine blk_alloc ?_ _)); refine blk_put (cs := #[.int .i64 (wrap64 (Int.tmod a0_0 13)), u259001]) ?_ 1 _ rfl; (with_reducible repeat (first | refine blk_drewN ?_ _ | refine blk_drew ?_ | refine blk_alloc ?_ _)); exact BK258.out⟩, ⟨by repeat (first | (with_reducible first | exact HB.out | apply below_alloc | apply pw_below_drewN | apply below_drew1 | refine below_set ?_ GE256.out | refine below_set ?_ GE257.out | refine below_set ?_ GE258.out) | exact HB.out)⟩⟩
                 ·rw [if_neg c55] at H
                  exact absurd H (by simp)
                ·rw [if_neg c54] at H
                 have c54b0 : ((Int.tmod (wrap64 (Int.tmod a0_0 13)) 5) == 0) = false := beq_eq_false_iff_ne.mpr c54
                 have c54b1 : ((Int.tmod (wrap64 (Int.tmod a0_0 13)) 5) != 0) = true := bne_iff_ne.mpr c54
                 by_cases c64 : x259001_1.length < 8796093022208
                 ·rw [if_pos c64] at H
                  have LMc64 := Aside0.mk c64
                  clear c64
                  obtain ⟨y267, hy267⟩ : ∃ y_ : List (S55), y_ = (x259001_1 ++ [(⟨x6_33, x7_33⟩ : S55)]) := ⟨_, rfl⟩
                  replace H : (wireloomref05_Made.l0 kj33 (wrap64 (Int.tmod a0_0 13)) (wrap64 (x5_1 + 2)) a0_0 a0_1 l0_2 (wrap64 (Int.tmod a0_0 13)) y267) = some (r1, r2) := by first | (rw [hy267]; with_reducible exact H) | (have H2_ := (Option.bind_some _ _).symm.trans H; rw [hy267]; with_reducible exact H2_) | (have H2_ := (Option.bind_some _ _).symm.trans H; with_reducible exact H2_) | with_reducible exact H | (rw [hy267]; exact H) | exact H
                  have Ny267 := Aside0.mk hy267
                  clear hy267
                  have H' := Aside0.mk H
                  clear H
                  have hnb65 := NB256_257.out
                  have hnc65 := NB257_256.out
                  have hnb66 := NB256_258.out
                  have hnc66 := NB258_256.out
                  have hcz67_0 : wc.cell? ⟨gb256, 0, none⟩ = some (.int .u8 a0_0) := (blk_cell BK256.out 0).trans rfl
                  have hcz67_1 : wc.cell? ⟨gb256, 1, none⟩ = some (.int .u8 a0_1) := (blk_cell BK256.out 1).trans rfl
                  have hcz67_2 : wc.cell? ⟨gb256, 2, none⟩ = some (.slice (some ad259) l0_2.length c0_2) := (blk_cell BK256.out 2).trans rfl
                  have hfz67_0 := blk_frozen BK256.out 0
                  have hfz67_1 := blk_frozen BK256.out 1
                  have hfz67_2 := blk_frozen BK256.out 2
                  have hnb68 := NB258_257.out
                  have hnc68 := NB257_258.out
                  have hcz69_0 : wc.cell? ⟨gb258, 0, none⟩ = some (.int .i64 (wrap64 (Int.tmod a0_0 13))) := (blk_cell BK258.out 0).trans rfl
                  have hcz69_1 : wc.cell? ⟨gb258, 1, none⟩ = some (u259001) := (blk_cell BK258.out 1).trans rfl
                  have hfz69_0 := blk_frozen BK258.out 0
                  have hfz69_1 := blk_frozen BK258.out 1
                  go_wp2_with (first | ((with_reducible refine gate_builtin (b := .append) (xs := #[.tmp 83, .tmp 87]) rfl ?_); at_builtin; refine Kd.R_append k55 (w0 := w) w.heap.size rfl (.tmp 83) (.tmp 87) 25 55 (.agg #[(.int .i64 0), (.int .i64 0)]) 16 rfl Try.underlying25 info55 rfl (by decide) (by omega) u259001 x259001_1 (⟨x6_33, x7_33⟩ : S55) [.int .i64 x6_33, .int .i64 x7_33] (fun _ => True) (fun _ => False) rfl rfl ?aP (fun _ hk => hk.elim) ?aF ?aO ?aB ?aS ?aL ?_; (case aP => exact k55_mkM _ _ _ (⟨x6_33, x7_33⟩ : S55)); (case aB => exact (by repeat (first | (with_reducible first | exact HB.out | apply below_alloc | apply pw_below_drewN | apply below_drew1 | refine below_set ?_ GE256.out | refine below_set ?_ GE257.out | refine below_set ?_ GE258.out) | exact HB.out))); (case aF => exact (fun _ _ => trivial)); (case aO => exact (rA HO_259001.out)); (case aS => exact (below_size (by repeat (first | (with_reducible first | exact HB.out | apply below_alloc | apply pw_below_drewN | apply below_drew1 | refine below_set ?_ GE256.out | refine below_set ?_ GE257.out | refine below_set ?_ GE258.out) | exact HB.out)))); (case aL => have := LMc64.out; omega); intro v268 w70 ho hb hg hat; rw [← Ny267.out] at ho; have n0_ := Aside0.mk (blk_grown (g := gb256) (o := .cells #[.int .u8 a0_0, .int .u8 a0_1, .slice (some ad259) l0_2.length c0_2] 24 (0, 0)) (bA BK256.out) hg (Kd.R_ne HO_259001.out BK256.out (by decide))); have n1_ := Aside0.mk (blk_grown (g := gb257) (o := .cells #[.int .i64 0, .slice none 0 0] 31 (0, 0)) (bA BK257.out) hg (Kd.R_ne HO_259001.out BK257.out (by decide))); have n2_ := Aside0.mk (blk_grown (g := gb258) (o := .cells #[.int .i64 (wrap64 (Int.tmod a0_0 13)), u259001] 31 (0, 0)) (bA BK258.out) hg (Kd.R_ne HO_259001.out BK258.out (by decide))); have n3_ := Aside0.mk (hb); have n4_ := Aside0.mk (ho); clear BK256; clear BK257; clear BK258; clear HB; clear HO_259001; have BK256 := n0_; have BK257 := n1_; have BK258 := n2_; have HB := n3_; have HO269 := n4_; clear n0_ n1_ n2_ n3_ n4_; clear ho hb hg hat; obtain ⟨Ao71, co71, eo71⟩ := Kd.R_slice HO269.out; subst eo71; have hcz72_0 : w70.cell? ⟨gb258, 0, none⟩ = some (.int .i64 (wrap64 (Int.tmod a0_0 13))) := (blk_cell BK258.out 0).trans rfl; have hcz72_1 : w70.cell? ⟨gb258, 1, none⟩ = some (u259001) := (blk_cell BK258.out 1).trans rfl; have hfz72_0 := blk_frozen BK258.out 0; have hfz72_1 := blk_frozen BK258.out 1))
                  go_roundg kj33
                  case measure => have := HK1.out; have := HJ9.out; have := HJ33.out; omega
                  case rel => exact ⟨(wrap64 (x5_1 + 2)), (y267), (.slice Ao71 y267.length co71), (by first | rfl | (simp; done) | (simp [*]; done)), H', ⟨by have := HK1.out; have := HJ9.out; have := HJ33.out; omega⟩, ⟨by (with_reducible repeat (first | apply Kd.R_alloc | apply Kd.R_drewN | apply Kd.R_drew)); exact Kd.R_mono (Kd.R_far (p := ⟨gb258, 1, none⟩) (Kd.R_types HO269.out BK258.out (by decide)) (fun _ hk => hk.2) (.slice Ao71 y267.length co71)) (fun _ hk => trivial)⟩, ⟨by (with_reducible repeat (first | refine blk_drewN ?_ _ | refine blk_drew ?_ | refine blk_alloc ?_ _)); refine blk_far ?_ NB256_258.out _; (with_reducible repeat (first | refine blk_drewN ?_ _ | refine blk_drew ?_ | refine blk_alloc ?_ _)); exact BK256.out⟩, ⟨by (with_reducible repeat (first | refine blk_drewN ?_ _ | refine blk_drew ?_ | refine blk_alloc ?_ _)); refine blk_far ?_ NB257_258.out _; (with_reducible repeat (first | refine blk_drewN ?_ _ | refine blk_drew ?_ | refine blk_alloc ?_ _)); exact BK257.out⟩, ⟨by (with_reducible repeat (first | refine blk_drewN ?_ _ | refine blk_drew ?_ | refine blk_alloc ?_ _)); refine blk_put (cs := #[.int .i64 (wrap64 (Int.tmod a0_0 13)), u259001]) ?_ 1 _ rfl; (with_reducible repeat (first | refine blk_drewN ?_ _ | refine blk_drew ?_ | refine blk_alloc ?_ _)); exact BK258.out⟩, ⟨by repeat (first | (with_reducible first | exact HB.out | apply below_alloc | apply pw_below_drewN | apply below_drew1 | refine below_set ?_ GE256.out | refine below_set ?_ GE257.out | refine below_set ?_ GE258.out) | exact HB.out)⟩⟩
                 ·rw [if_neg c64] at H
                  exact absurd H (by simp)
           ·rw [if_neg c29] at H
            have c29b0 : ((Int.tmod a0_1 2) == 0) = false := beq_eq_false_iff_ne.mpr c29
            have c29b1 : ((Int.tmod a0_1 2) != 0) = true := bne_iff_ne.mpr c29
            by_cases c73 : x259001_1.length < 8796093022208
            ·rw [if_pos c73] at H
             have LMc73 := Aside0.mk c73
             clear c73
             obtain ⟨y270, hy270⟩ : ∃ y_ : List (S55), y_ = (x259001_1 ++ [(⟨Int.tmod (wrap64 (rd l0_2 x5_1)) (wrap64 (Int.tmod a0_0 13)), Int.tmod (wrap64 (rd l0_2 (ji26))) (wrap64 (Int.tmod a0_0 13))⟩ : S55)]) := ⟨_, rfl⟩
             replace H : (wireloomref05_Made.l0 kj9 (wrap64 (Int.tmod a0_0 13)) (wrap64 (x5_1 + 2)) a0_0 a0_1 l0_2 (wrap64 (Int.tmod a0_0 13)) y270) = some (r1, r2) := by first | (rw [hy270]; with_reducible exact H) | (have H2_ := (Option.bind_some _ _).symm.trans H; rw [hy270]; with_reducible exact H2_) | (have H2_ := (Option.bind_some _ _).symm.trans H; with_reducible exact H2_) | with_reducible exact H | (rw [hy270]; exact H) | exact H
             have Ny270 := Aside0.mk hy270
             clear hy270
             have H' := Aside0.mk H
             clear H
             have hnb74 := NB256_257.out
             have hnc74 := NB257_256.out
             have hnb75 := NB256_258.out
             have hnc75 := NB258_256.out
             have hcz76_0 : wc.cell? ⟨gb256, 0, none⟩ = some (.int .u8 a0_0) := (blk_cell BK256.out 0).trans rfl
             have hcz76_1 : wc.cell? ⟨gb256, 1, none⟩ = some (.int .u8 a0_1) := (blk_cell BK256.out 1).trans rfl
             have hcz76_2 : wc.cell? ⟨gb256, 2, none⟩ = some (.slice A0_2 l0_2.length c0_2) := (blk_cell BK256.out 2).trans rfl
             have hfz76_0 := blk_frozen BK256.out 0
             have hfz76_1 := blk_frozen BK256.out 1
             have hfz76_2 := blk_frozen BK256.out 2
             have p259 : 0 ≤ (x5_1 : Int) := of_decide_eq_true (by first | (with_reducible assumption) | assumption)
             have q259 : x5_1 < (l0_2.length : Int) := of_decide_eq_true (by first | (with_reducible assumption) | assumption)
             obtain ⟨ad259, e259, hx259_0⟩ := Kd.at_int HR0_2.out x5_1 p259 q259
             cases e259
             (try (replace hx259_0 := (HB.out.cell (World.block_lt_of_cell? w _ hx259_0)).trans hx259_0))
             replace p259 := eq_true p259
             replace q259 := eq_true q259
             have p260 : 0 ≤ ((ji26) : Int) := of_decide_eq_true (by first | (with_reducible assumption) | assumption)
             have q260 : (ji26) < (l0_2.length : Int) := of_decide_eq_true (by first | (with_reducible assumption) | assumption)
             obtain ⟨ad260, e260, hx260_0⟩ := Kd.at_int HR0_2.out (ji26) p260 q260
             obtain rfl : ad259 = ad260 := (by injection e260)
             (try (replace hx260_0 := (HB.out.cell (World.block_lt_of_cell? w _ hx260_0)).trans hx260_0))
             replace p260 := eq_true p260
             replace q260 := eq_true q260
             have hnb77 := NB258_257.out
             have hnc77 := NB257_258.out
             have hcz78_0 : wc.cell? ⟨gb258, 0, none⟩ = some (.int .i64 (wrap64 (Int.tmod a0_0 13))) := (blk_cell BK258.out 0).trans rfl
             have hcz78_1 : wc.cell? ⟨gb258, 1, none⟩ = some (u259001) := (blk_cell BK258.out 1).trans rfl
             have hfz78_0 := blk_frozen BK258.out 0
             have hfz78_1 := blk_frozen BK258.out 1
             go_wp2_with (first | ((with_reducible refine gate_builtin (b := .append) (xs := #[.tmp 83, .tmp 87]) rfl ?_); at_builtin; refine Kd.R_append k55 (w0 := w) w.heap.size rfl (.tmp 83) (.tmp 87) 25 55 (.agg #[(.int .i64 0), (.int .i64 0)]) 16 rfl Try.underlying25 info55 rfl (by decide) (by omega) u259001 x259001_1 (⟨Int.tmod (wrap64 (rd l0_2 x5_1)) (wrap64 (Int.tmod a0_0 13)), Int.tmod (wrap64 (rd l0_2 (ji26))) (wrap64 (Int.tmod a0_0 13))⟩ : S55) [.int .i64 (Int.tmod (wrap64 (rd l0_2 x5_1)) (wrap64 (Int.tmod a0_0 13))), .int .i64 (Int.tmod (wrap64 (rd l0_2 (ji26))) (wrap64 (Int.tmod a0_0 13)))] (fun _ => True) (fun _ => False) rfl rfl ?aP (fun _ hk => hk.elim) ?aF ?aO ?aB ?aS ?aL ?_; (case aP => exact k55_mkM _ _ _ (⟨Int.tmod (wrap64 (rd l0_2 x5_1)) (wrap64 (Int.tmod a0_0 13)), Int.tmod (wrap64 (rd l0_2 (ji26))) (wrap64 (Int.tmod a0_0 13))⟩ : S55)); (case aB => exact (by repeat (first | (with_reducible first | exact HB.out | apply below_alloc | apply pw_below_drewN | apply below_drew1 | refine below_set ?_ GE256.out | refine below_set ?_ GE257.out | refine below_set ?_ GE258.out) | exact HB.out))); (case aF => exact (fun _ _ => trivial)); (case aO => exact (rA HO_259001.out)); (case aS => exact (below_size (by repeat (first | (with_reducible first | exact HB.out | apply below_alloc | apply pw_below_drewN | apply below_drew1 | refine below_set ?_ GE256.out | refine below_set ?_ GE257.out | refine below_set ?_ GE258.out) | exact HB.out)))); (case aL => have := LMc73.out; omega); intro v271 w79 ho hb hg hat; rw [← Ny270.out] at ho; have n0_ := Aside0.mk (blk_grown (g := gb256) (o := .cells #[.int .u8 a0_0, .int .u8 a0_1, .slice (some ad259) l0_2.length c0_2] 24 (0, 0)) (bA BK256.out) hg (Kd.R_ne HO_259001.out BK256.out (by decide))); have n1_ := Aside0.mk (blk_grown (g := gb257) (o := .cells #[.int .i64 0, .slice none 0 0] 31 (0, 0)) (bA BK257.out) hg (Kd.R_ne HO_259001.out BK257.out (by decide))); have n2_ := Aside0.mk (blk_grown (g := gb258) (o := .cells #[.int .i64 (wrap64 (Int.tmod a0_0 13)), u259001] 31 (0, 0)) (bA BK258.out) hg (Kd.R_ne HO_259001.out BK258.out (by decide))); have n3_ := Aside0.mk (hb); have n4_ := Aside0.mk (ho); clear BK256; clear BK257; clear BK258; clear HB; clear HO_259001; have BK256 := n0_; have BK257 := n1_; have BK258 := n2_; have HB := n3_; have HO272 := n4_; clear n0_ n1_ n2_ n3_ n4_; clear ho hb hg hat; obtain ⟨Ao80, co80, eo80⟩ := Kd.R_slice HO272.out; subst eo80; have hcz81_0 : w79.cell? ⟨gb258, 0, none⟩ = some (.int .i64 (wrap64 (Int.tmod a0_0 13))) := (blk_cell BK258.out 0).trans rfl; have hcz81_1 : w79.cell? ⟨gb258, 1, none⟩ = some (u259001) := (blk_cell BK258.out 1).trans rfl; have hfz81_0 := blk_frozen BK258.out 0; have hfz81_1 := blk_frozen BK258.out 1))
             go_roundg kj9
             case measure => have := HK1.out; have := HJ9.out; omega
             case rel => exact ⟨(wrap64 (x5_1 + 2)), (y270), (.slice Ao80 y270.length co80), (by first | rfl | (simp; done) | (simp [*]; done)), H', ⟨by have := HK1.out; have := HJ9.out; omega⟩, ⟨by (with_reducible repeat (first | apply Kd.R_alloc | apply Kd.R_drewN | apply Kd.R_drew)); exact Kd.R_mono (Kd.R_far (p := ⟨gb258, 1, none⟩) (Kd.R_types HO272.out BK258.out (by decide)) (fun _ hk => hk.2) (.slice Ao80 y270.length co80)) (fun _ hk => trivial)⟩, ⟨by (with_reducible repeat (first | refine blk_drewN ?_ _ | refine blk_drew ?_ | refine blk_alloc ?_ _)); refine blk_far ?_ NB256_258.out _; (with_reducible repeat (first | refine blk_drewN ?_ _ | refine blk_drew ?_ | refine blk_alloc ?_ _)); exact BK256.out⟩, ⟨by (with_reducible repeat (first | refine blk_drewN ?_ _ | refine blk_drew ?_ | refine blk_alloc ?_ _)); refine blk_far ?_ NB257_258.out _; (with_reducible repeat (first | refine blk_drewN ?_ _ | refine blk_drew ?_ | refine blk_alloc ?_ _)); exact BK257.out⟩, ⟨by (with_reducible repeat (first | refine blk_drewN ?_ _ | refine blk_drew ?_ | refine blk_alloc ?_ _)); refine blk_put (cs := #[.int .i64 (wrap64 (Int.tmod a0_0 13)), u259001]) ?_ 1 _ rfl; (with_reducible repeat (first | refine blk_drewN ?_ _ | refine blk_drew ?_ | refine blk_alloc ?_ _)); exact BK258.out⟩, ⟨by repeat (first | (with_reducible first | exact HB.out | apply below_alloc | apply pw_below_drewN | apply below_drew1 | refine below_set ?_ GE256.out | refine below_set ?_ GE257.out | refine below_set ?_ GE258.out) | exact HB.out)⟩⟩
            ·rw [if_neg c73] at H
             exact absurd H (by simp)
          ·rw [if_neg c28] at H
           exact absurd H (by simp)
         ·rw [if_neg c27] at H
          exact absurd H (by simp)
       ·rw [if_neg c24] at H
        exact absurd H (by simp)
      ·rw [if_neg c23] at H
       exact absurd H (by simp)
     ·replace c22 := Bool.eq_false_iff.mpr c22
      subst c22
      have H1 : (some ((wrap64 (Int.tmod a0_0 13)), x259001_1)) = some (r1, r2) := by rw [if_neg (show ¬ (false = true) by decide)] at H; exact H
      clear H
      have H := H1
      clear H1
      simp only [Option.some.injEq, Prod.mk.injEq] at H
      obtain ⟨rfl, rfl⟩ := H
      have hnb82 := NB258_256.out
      have hnc82 := NB256_258.out
      have hnb83 := NB258_257.out
      have hnc83 := NB257_258.out
      have hcz84_0 : wc.cell? ⟨gb258, 0, none⟩ = some (.int .i64 (wrap64 (Int.tmod a0_0 13))) := (blk_cell BK258.out 0).trans rfl
      have hcz84_1 : wc.cell? ⟨gb258, 1, none⟩ = some (u259001) := (blk_cell BK258.out 1).trans rfl
      have hfz84_0 := blk_frozen BK258.out 0
      have hfz84_1 := blk_frozen BK258.out 1
      have hnb85 := NB257_256.out
      have hnc85 := NB256_257.out
      have hcz86_0 : wc.cell? ⟨gb257, 0, none⟩ = some (.int .i64 0) := (blk_cell BK257.out 0).trans rfl
      have hcz86_1 : wc.cell? ⟨gb257, 1, none⟩ = some (.slice none 0 0) := (blk_cell BK257.out 1).trans rfl
      have hfz86_0 := blk_frozen BK257.out 0
      have hfz86_1 := blk_frozen BK257.out 1
      obtain ⟨Ao87, co87, eo87⟩ := Kd.R_slice HO_259001.out
      subst eo87
      go_wp2
      refine bodyPost_ret (results_cell_row rfl _ _ gb257 31 #[.int .i64 (wrap64 (Int.tmod a0_0 13)), .slice Ao87 x259001_1.length co87] (0, 0) _ rfl (by (with_reducible repeat (first | refine blk_drewN ?_ _ | refine blk_drew ?_ | refine blk_alloc ?_ _)); refine blk_put (cs := #[.int .i64 (wrap64 (Int.tmod a0_0 13)), .slice none 0 0]) ?_ 1 _ rfl; (with_reducible repeat (first | refine blk_drewN ?_ _ | refine blk_drew ?_ | refine blk_alloc ?_ _)); refine blk_put (cs := #[.int .i64 0, .slice none 0 0]) ?_ 0 _ rfl; (with_reducible repeat (first | refine blk_drewN ?_ _ | refine blk_drew ?_ | refine blk_alloc ?_ _)); exact BK257.out) Try.underlying31 rfl (by kernel_rfl)) rfl ?_
      exact ⟨_, by first | rfl | (simp [errW_none, errW_some] <;> rfl) | (simp [*, errW_none, errW_some] <;> rfl), by (with_reducible repeat (first | apply Kd.R_alloc | apply Kd.R_drewN | apply Kd.R_drew)); exact Kd.R_mono (Kd.R_far (p := ⟨gb257, 1, none⟩) (Kd.R_far (p := ⟨gb257, 0, none⟩) (Kd.R_types HO_259001.out BK257.out (by decide)) (fun _ hk => hk.2) (.int .i64 (wrap64 (Int.tmod a0_0 13)))) (fun _ hk => hk.2) (.slice Ao87 x259001_1.length co87)) (fun _ hk => trivial), by repeat (first | (with_reducible first | exact HB.out | apply below_alloc | apply pw_below_drewN | apply below_drew1 | refine below_set ?_ GE256.out | refine below_set ?_ GE257.out | refine below_set ?_ GE258.out) | exact HB.out)⟩
end Go.Proofs.Ytlldjinejckbaaa.PD

end
section
namespace Go.Proofs.Ytlldjinejckbaaa.PD
open Go.RowKit Go.Proofs.YtlldjinejckbaaaW.PrintWords Go.Proofs.YtlldjinejckbaaaW.PrintLast Go.Proofs.YtlldjinejckbaaaW.PrintMore
attribute [local go_sem] max2_int min2_int max_two min_two max_three min_three max_four min_four
set_option linter.unusedVariables false
set_option linter.unusedSimpArgs false
def wireloomref05_In.l0 : Nat → List Int → Int → Int → Option (Bool)
 | 0, _, _, _ => none
 | k + 1, x0, x1, x5 => if x5 < (x0.length : Int) then (if 0 ≤ x5 then (if (rd x0 x5) = x1 then (some true) else (wireloomref05_In.l0 k x0 x1 (wrap64 (x5 + 1)))) else (none)) else (some false)
def wireloomref05_In.f (k : Nat) (l0 : List Int) (a1 : Int) : Option (Bool) := wireloomref05_In.l0 k l0 a1 0
theorem wireloomref05_In.mono_l : ∀ k, (∀ y0 y1 y2, LeO (wireloomref05_In.l0 k y0 y1 y2) (wireloomref05_In.l0 (k + 1) y0 y1 y2))
 | 0 => fun _ _ _ r h => by simp [wireloomref05_In.l0] at h
 | k + 1 => by
  have ih0 := wireloomref05_In.mono_l k
  ·intro y0 y1 y2
   unfold wireloomref05_In.l0
   repeat' first
   | (with_reducible exact ih0 _ _ _)
   | (with_reducible exact LeO.refl _)
   | (with_reducible exact LeO.none _)
   | (with_reducible refine LeO.ite ?_ ?_)
   | (with_reducible refine LeO.bind ?_ (fun _ => ?_))
   | exact ih0 _ _ _
   | exact LeO.none _
   | refine LeO.ite ?_ ?_
   | refine LeO.bind ?_ (fun _ => ?_)
theorem wireloomref05_In.mono : ∀ a0 a1 k, LeO (wireloomref05_In.f k a0 a1) (wireloomref05_In.f (k + 1) a0 a1) := by
 intro a0 a1 k
 have ih0 := wireloomref05_In.mono_l k
 unfold wireloomref05_In.f
 repeat' first
   | (with_reducible exact ih0 _ _ _)
   | (with_reducible exact LeO.refl _)
   | (with_reducible exact LeO.none _)
   | (with_reducible refine LeO.ite ?_ ?_)
   | (with_reducible refine LeO.bind ?_ (fun _ => ?_))
   | exact ih0 _ _ _
   | exact LeO.none _
   | refine LeO.ite ?_ ?_
   | refine LeO.bind ?_ (fun _ => ?_)
set_option maxHeartbeats 8000000 in
set_option maxRecDepth 100000 in
theorem wireloomref05_In.calls (k : Nat) (A0 : Option Addr) (c0 : Nat) (l0 : List Int) (a1 : Int) (r : Bool) (w : World) (hr0 : Kd.C (Kd.int .i64) w A0 l0.length l0) (hc0 : l0.length ≤ c0) (h : wireloomref05_In.f k l0 a1 = some r) :
  Calls Try.prog 31 #[.slice A0 l0.length c0, .int .i64 a1] w fun e w' => e = .returned (.bool r) ∧ Drawn0 w w' := by
 have HR0 := Aside0.mk hr0
 have HC0 := Aside0.mk hc0
 clear hr0 hc0
 have H : (wireloomref05_In.l0 k l0 a1 0) = some r := h
 clear h
 have H' := Aside0.mk H
 clear H
 go_enter Try.func31, Try.ntmps31
 go_wp2
 go_loopg [5] k (fun kq v5 w' => ∃ (x5_1 : Int), v5 = .int .i64 x5_1 ∧ Aside0 (wireloomref05_In.l0 kq l0 a1 x5_1 = some r) ∧ Aside0 (kq ≤ k) ∧ Drawn0 w w')
 case atStart => exact ⟨(0), (by first | rfl | (simp; done) | (simp [*]; done)), H', ⟨Nat.le_refl _⟩, by repeat (first | exact Drawn0.refl _ | apply Drawn0.step)⟩
 case round =>
  clear H'
  try clear p2
  obtain ⟨x5_1, rfl, HA, HK1, ⟨m1, rfl⟩⟩ := hrel
  cases gk with
  | zero => exact absurd HA.out (by simp [wireloomref05_In.l0])
  | succ k1 =>
   have H := HA.out
   clear HA
   simp only [wireloomref05_In.l0] at H
   by_cases c3 : x5_1 < (l0.length : Int)
   ·rw [if_pos c3] at H
    have c3b0 : decide (x5_1 < (l0.length : Int)) = true := decide_eq_true c3
    clear c3
    by_cases c4 : 0 ≤ x5_1
    ·rw [if_pos c4] at H
     have c4b0 : decide (0 ≤ x5_1) = true := decide_eq_true c4
     clear c4
     by_cases c5 : (rd l0 x5_1) = a1
     ·rw [if_pos c5] at H
      have c5b0 : ((rd l0 x5_1) == a1) = true := beq_iff_eq.mpr c5
      have c5b1 : ((rd l0 x5_1) != a1) = false := bne_eq_false_iff_eq.mpr c5
      clear c5
      obtain rfl := Option.some.inj H
      have p370 : 0 ≤ (x5_1 : Int) := of_decide_eq_true (by first | (with_reducible assumption) | assumption)
      have q370 : x5_1 < (l0.length : Int) := of_decide_eq_true (by first | (with_reducible assumption) | assumption)
      obtain ⟨ad370, e370, hx370_0⟩ := Kd.at_int HR0.out x5_1 p370 q370
      cases e370
      replace p370 := eq_true p370
      replace q370 := eq_true q370
      go_wp2
      go_ret
      exact ⟨by first | rfl | (simp; done) | (simp [*]; done), by repeat (first | exact Drawn0.refl _ | apply Drawn0.step)⟩
     ·rw [if_neg c5] at H
      have c5b0 : ((rd l0 x5_1) == a1) = false := beq_eq_false_iff_ne.mpr c5
      have c5b1 : ((rd l0 x5_1) != a1) = true := bne_iff_ne.mpr c5
      have H' := Aside0.mk H
      clear H
      have p370 : 0 ≤ (x5_1 : Int) := of_decide_eq_true (by first | (with_reducible assumption) | assumption)
      have q370 : x5_1 < (l0.length : Int) := of_decide_eq_true (by first | (with_reducible assumption) | assumption)
      obtain ⟨ad370, e370, hx370_0⟩ := Kd.at_int HR0.out x5_1 p370 q370
      cases e370
      replace p370 := eq_true p370
      replace q370 := eq_true q370
      go_wp2
      go_roundg k1
      case measure => have := HK1.out; omega
      case rel => exact ⟨(wrap64 (x5_1 + 1)), (by first | rfl | (simp; done) | (simp [*]; done)), H', ⟨by have := HK1.out; omega⟩, by repeat (first | exact Drawn0.refl _ | apply Drawn0.step)⟩
    ·rw [if_neg c4] at H
     exact absurd H (by simp)
   ·rw [if_neg c3] at H
    have c3b0 : decide (x5_1 < (l0.length : Int)) = false := decide_eq_false c3
    clear c3
    obtain rfl := Option.some.inj H
    go_wp2
    go_ret
    exact ⟨by first | rfl | (simp; done) | (simp [*]; done), by repeat (first | exact Drawn0.refl _ | apply Drawn0.step)⟩
end Go.Proofs.Ytlldjinejckbaaa.PD

end
