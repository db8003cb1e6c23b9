/- The law DigraphComponents of package digraph holds for every input: what it is called with is opened, the printed text of the law and its plain proof are joined. (Part 3 of 6 of its proof.) -/
import Derived.Test.YtlldjinejckbaaaProg
import Derived.Below
import Derived.Deep.Draws
import Derived.Deep.AppendLies
import Derived.Maps.AppendAt
import Derived.OwnWalk
import Derived.Laws.BytesArg
import Derived.Laws.MakeOwn
import Derived.Laws.OwnMore
import Derived.Deep.OwnRows
import Derived.Tactics
import Derived.Laws.Slices
import Derived.WalkKit
import Derived.KernelRfl
import Derived.RowKit3
import Derived.Deep.LoopGhost
import Derived.Deep.QuietTactic
import Derived.BigQuiet
import Derived.WideLaws
import Derived.Deep.DeepCutAuto
import Derived.Deep.CutBlock
import Derived.Deep.RegionHeld3
import Derived.Laws.Rows
import Derived.ArgAppend
import Derived.Laws.IdiomCopy
import Derived.OrdersHeld
import Derived.Laws.BitsLemmas
import Derived.RowKit
import Derived.Outline
import Derived.Lib.Hide
import Derived.RegionTactic
import Derived.Shelf.SlSortCmp.NoneTotal
import Derived.Ground.SlsfProg
import Derived.Laws.EntriesVeiled
import Derived.Test.YtlldjinejckbaaaZ01
set_option linter.unusedVariables false
set_option linter.unusedSimpArgs false
section
namespace Go.Proofs.Ytlldjinejckbaaa.Vi
open Go Go.RowKit Go.Proofs.YtlldjinejckbaaaW.PrintWords Go.Proofs.YtlldjinejckbaaaW.PrintLast Go.Proofs.YtlldjinejckbaaaW.PrintMore
open Go.Proofs.Ytlldjinejckbaaa.It Go.Proofs.Ytlldjinejckbaaa.Mod Go.Proofs.Ytlldjinejckbaaa.Gs Go.Proofs.Ytlldjinejckbaaa.Lb Go.Proofs.Ytlldjinejckbaaa.Lc Go.Proofs.Ytlldjinejckbaaa.Gi Go.Proofs.Ytlldjinejckbaaa.Cy Go.Proofs.Ytlldjinejckbaaa.Ins Go.Proofs.Ytlldjinejckbaaa.Tj Go.Proofs.Ytlldjinejckbaaa.Tm
set_option linter.unusedVariables false
set_option linter.unusedSimpArgs false
theorem bools_cell {W : World} {L : Nat} {l : List Bool} (h : W.heap[L]? = some (.cells (l.map Value.bool).toArray 4 (0, 0))) (x : Int) (h0 : 0 ≤ x) (h1 : x < l.length) : W.cell? ⟨L, x.toNat, none⟩ = some (.bool (opnAt l x)) := by
 rw [blk_cell h]
 unfold opnAt
 rw [List.getD_eq_getElem?_getD, List.getElem?_toArray, List.getElem?_map, List.getElem?_eq_getElem (by omega)]
 rfl
theorem foldl_setb_len (l : List Int) : ∀ (o : List Bool), (l.foldl (fun o x => o.set x.toNat false) o).length = o.length := by
 induction l with
 | nil => intro o; rfl
 | cons x l ih => intro o; rw [List.foldl_cons, ih]; simp
structure Fit (s : TS) (n : Nat) : Prop where
 num : s.num.length = n
 low : s.low.length = n
 opn : s.opn.length = n
 stk : ∀ x ∈ s.stack, 0 ≤ x ∧ x < (n : Int)
theorem Fit.shut {s : TS} {n : Nat} (h : Fit s n) (k : Nat) : Fit (s.shut k) n := ⟨h.num, h.low, by unfold TS.shut; rw [foldl_setb_len]; exact h.opn, fun x hx => h.stk x (List.mem_of_mem_take hx)⟩
theorem Fit.lower {s : TS} {n : Nat} (h : Fit s n) (v x : Int) : Fit (s.lower v x) n := ⟨h.num, by unfold TS.lower; simp [h.low], h.opn, h.stk⟩
theorem Fit.meet {s : TS} {n : Nat} (h : Fit s n) {v : Int} (h0 : 0 ≤ v) (h1 : v < n) : Fit (s.meet v) n := ⟨by simp [TS.meet, h.num], by simp [TS.meet, h.low], by simp [TS.meet, h.opn], fun x hx => by
 unfold TS.meet at hx
 rcases List.mem_append.1 hx with hx | hx
 ·exact h.stk x hx
 ·simp at hx; subst hx; exact ⟨h0, h1⟩⟩
theorem fit_row {n : Nat} {vis : Int → TS → Option TS} (hvis : ∀ x s s', 0 ≤ x → x < (n : Int) → Fit s n → vis x s = some s' → Fit s' n) (v : Int) : ∀ (xs : List Int) (s s' : TS), (∀ x ∈ xs, 0 ≤ x ∧ x < (n : Int)) → Fit s n → visitRow vis v xs s = some s' → Fit s' n
 | [], s, s', _, hF, h => by unfold visitRow at h; rw [← Option.some.inj h]; exact hF
 | x :: xs, s, s', hx, hF, h => by
  unfold visitRow at h
  split at h
  ·split at h
   ·rename_i s1 h1
    exact fit_row hvis v xs _ s' (fun y hy => hx y (List.mem_cons_of_mem _ hy)) ((hvis x s s1 (hx x (by simp)).1 (hx x (by simp)).2 hF h1).lower _ _) h
   ·exact absurd h (by simp)
  ·split at h
   ·exact fit_row hvis v xs _ s' (fun y hy => hx y (List.mem_cons_of_mem _ hy)) (hF.lower _ _) h
   ·exact fit_row hvis v xs _ s' (fun y hy => hx y (List.mem_cons_of_mem _ hy)) hF h
theorem fit_visit {n : Nat} {rows : List (List Int)} (hf : Fits rows) (hN : rows.length = n) : ∀ (f : Nat) (v : Int) (s s' : TS), 0 ≤ v → v < (n : Int) → Fit s n → visit rows f v s = some s' → Fit s' n
 | 0, v, s, s', _, _, _, h => by simp [visit] at h
 | f + 1, v, s, s', h0, h1, hF, h => by
  unfold visit at h
  split at h
  ·exact absurd h (by simp)
  ·split at h
   ·exact absurd h (by simp)
   ·rename_i s2 h2
    have hF2 := fit_row (fun x a b => fit_visit hf hN f x a b) v (row rows v) _ s2 (fun x hx => by have := fits_row hf v x hx; omega) (hF.meet h0 h1) h2
    split at h
    ·rw [← Option.some.inj h]; exact hF2
    ·split at h
     ·exact absurd h (by simp)
     ·split at h
      ·rw [← Option.some.inj h]; exact hF2.shut _
      ·exact absurd h (by simp)
theorem idxFrom_find (x : Int) : ∀ (l : List Int) (i k : Nat), l.findIdx? (· == x) = some k → Lib.idxFrom l x i = ((i + k : Nat) : Int) ∧ k < l.length
 | [], i, k, h => by simp at h
 | z :: l, i, k, h => by
  rw [List.findIdx?_cons] at h
  by_cases hz : z = x
  ·have e : (z == x) = true := by simpa using hz
   rw [if_pos e] at h
   obtain rfl := Option.some.inj h
   exact ⟨by simp [Lib.idxFrom, hz], by simp⟩
  ·have e : ¬ (z == x) = true := by simpa using hz
   rw [if_neg e] at h
   obtain ⟨k1, h1, rfl⟩ := Option.map_eq_some_iff.1 h
   obtain ⟨h2, h3⟩ := idxFrom_find x l (i + 1) k1 h1
   refine ⟨?_, by simp; omega⟩
   simp only [Lib.idxFrom]
   rw [if_neg hz, h2]
   congr 1
   omega
theorem idx_find {l : List Int} {x : Int} {k : Nat} (h : l.findIdx? (· == x) = some k) : Lib.idxOf l x = (k : Int) ∧ k < l.length := by
 obtain ⟨h1, h2⟩ := idxFrom_find x l 0 k h
 exact ⟨by unfold Lib.idxOf; rw [h1, Nat.zero_add], h2⟩
def vi.T1 : Bool × List (List Nat × List Nat) := (true, [([], []), ([], []), ([], []), ([], []), ([], []), ([], []), ([], []), ([], []), ([0, 1, 0, 1, 6], [0, 1]), ([8, 6, 0, 1, 6], [6, 8]), ([2, 3, 0, 1, 2, 3, 6, 7, 8, 9], [2, 3]), ([10, 7, 9, 0, 1, 2, 3, 6, 7, 8, 9], [7, 10]), ([4, 5, 0, 1, 2, 3, 4, 5, 6, 7, 8, 9, 10, 11], [4, 5]), ([12, 11, 0, 1, 2, 3, 4, 5, 6, 7, 8, 9, 10, 11], [12])])
def vi.B1 : List Nat := [0, 0, 0, 0, 0, 0, 0, 0, 67, 323, 975, 1999, 4095, 8191]
theorem vi.tab1 : rtab .any (opsOf Try.f46 1) = vi.T1 := by kernel_rfl
theorem vi.bits1 : waitsOk vi.T1.2 vi.B1 = true := by kernel_rfl
def vi.T8 : Bool × List (List Nat × List Nat) := (true, [([], []), ([], []), ([], []), ([], []), ([2, 3], [2, 3]), ([4], [4]), ([], []), ([], []), ([6, 7], [6, 7]), ([8], [8]), ([5, 9], [5, 9]), ([0, 1, 0, 1, 2, 3, 4, 5, 6, 7, 8, 9, 10], [0, 1]), ([11, 10, 0, 1, 2, 3, 4, 5, 6, 7, 8, 9, 10], [10, 11])])
def vi.B8 : List Nat := [0, 0, 0, 0, 12, 28, 0, 0, 192, 448, 1020, 2047, 4095]
theorem vi.tab8 : rtab .any (opsOf Try.f46 8) = vi.T8 := by kernel_rfl
theorem vi.bits8 : waitsOk vi.T8.2 vi.B8 = true := by kernel_rfl
def vi.T10 : Bool × List (List Nat × List Nat) := (true, [([], []), ([], []), ([], []), ([], []), ([2, 3], [2, 3]), ([4], [4]), ([], []), ([], []), ([6, 7], [6, 7]), ([8], [8]), ([5, 9], [5, 9]), ([0, 1, 0, 1, 2, 3, 4, 5, 6, 7, 8, 9, 10], [0, 1]), ([11, 10, 0, 1, 2, 3, 4, 5, 6, 7, 8, 9, 10], [10, 11])])
def vi.B10 : List Nat := [0, 0, 0, 0, 12, 28, 0, 0, 192, 448, 1020, 2047, 4095]
theorem vi.tab10 : rtab .any (opsOf Try.f46 10) = vi.T10 := by kernel_rfl
theorem vi.bits10 : waitsOk vi.T10.2 vi.B10 = true := by kernel_rfl
def vi.T12 : Bool × List (List Nat × List Nat) := (true, [([], []), ([], []), ([0, 1], [0, 1]), ([2], [2]), ([], []), ([], []), ([4, 5], [4, 5]), ([6], [6]), ([3, 7], [3, 7])])
def vi.B12 : List Nat := [0, 0, 3, 7, 0, 0, 48, 112, 255]
theorem vi.tab12 : rtab .any (opsOf Try.f46 12) = vi.T12 := by kernel_rfl
theorem vi.bits12 : waitsOk vi.T12.2 vi.B12 = true := by kernel_rfl
set_option maxHeartbeats 4000000 in
set_option maxRecDepth 100000 in
theorem visit_calls (n : Nat) (hn : n ≤ 1000) (B1 B2 B : Nat) (Z : Bl) (rows : List (List Int)) (hN : rows.length = n) (hfits : Fits rows) (hlens : ∀ r ∈ rows, r.length ≤ 10000) (w wK : World) (hZ : Z.Lies w B) (hk : Kd.C It.KR wK (some ⟨B1, 0, none⟩) n rows) :
  ∀ (f : Nat) (v : Int) (s s' : TS) (W : World) (vs vu : Value), 0 ≤ v → v < n → Fit s n → TM w W wK B Z n B1 B2 vs vu s → visit rows f v s = some s' →
   Calls Try.prog 46 (#[.int .i64 v] ++ Z.ptrs) W fun e W' => e = .returned (.tuple #[]) ∧ ∃ vs' vu', TM w W' wK B Z n B1 B2 vs' vu' s' := by
 intro f
 induction f with
 | zero => intro v s s' W vs vu _ _ _ _ h; simp [visit] at h
 | succ f ih =>
  intro v s s' W vs vu h0 h1 hF hT hv
  have hst : s.stack.length ≤ 50000 := by
   unfold visit at hv
   split at hv
   ·exact absurd hv (by simp)
   ·omega
  have k1 : W.cell? ⟨Z.bc, 0, none⟩ = some (.int .i64 s.count) := (blk_cell hT.c 0).trans rfl
  have kf := blk_frozen hT.c 0
  have HT := Aside0.mk hT
  have HV := Aside0.mk hv
  have HI := Aside0.mk ih
  clear hT hv ih
  unfold Bl.ptrs
  simp only [List.append_toArray, List.cons_append, List.nil_append]
  go_enter Try.func46, Try.ntmps46
  go_upto_region 1 with (fail)
  have HT1 := Aside0.mk (HT.out.setC hZ (wrap64 (s.count + 1)))
  generalize W.setCell ⟨Z.bc, 0, none⟩ (.int .i64 (wrap64 (s.count + 1))) = W6 at HT1 ⊢
  obtain ⟨cc, hcc⟩ : ∃ cc, cc = wrap64 (s.count + 1) := ⟨_, rfl⟩
  rw [← hcc] at HT1 ⊢
  have HCC := Aside0.mk hcc
  clear hcc
  clear k1 kf
  have q1 : W6.cell? ⟨Z.bn, 0, none⟩ = some (.slice (some ⟨Z.N, 0, none⟩) n n) := (blk_cell HT1.out.bn 0).trans rfl
  have q2 : W6.cell? ⟨Z.bl, 0, none⟩ = some (.slice (some ⟨Z.L, 0, none⟩) n n) := (blk_cell HT1.out.bl 0).trans rfl
  have q3 : W6.cell? ⟨Z.bo, 0, none⟩ = some (.slice (some ⟨Z.O, 0, none⟩) n n) := (blk_cell HT1.out.bo 0).trans rfl
  have q4 : W6.cell? ⟨Z.bc, 0, none⟩ = some (.int .i64 cc) := (blk_cell HT1.out.c 0).trans rfl
  refine start_ (n := 14) (S := fun w' => w'.cell? ⟨Z.bn, 0, none⟩ = some (.slice (some ⟨Z.N, 0, none⟩) n n) ∧ w'.cell? ⟨Z.bl, 0, none⟩ = some (.slice (some ⟨Z.L, 0, none⟩) n n) ∧ w'.cell? ⟨Z.bo, 0, none⟩ = some (.slice (some ⟨Z.O, 0, none⟩) n n) ∧ w'.cell? ⟨Z.bc, 0, none⟩ = some (.int .i64 cc)) (ds := [13]) #[false, false, false, false, false, false, false, false, false, false, false, false, false, false] (by kernel_rfl) rfl rfl ⟨q1, q2, q3, q4⟩ (fun hHeld => ?_); refine with_tabW vi.tab1 vi.bits1 (fun HT_ HW_ => ?_)
  have HT7 := Aside0.mk (HT1.out.later (below_drew (Below.refl _ _)))
  generalize W6.drew = W7 at HT7 hHeld ⊢
  refine pure_ (i := 1) (N := (some 19)) (v := ?_) (a' := ?_) #[false, true, false, false, false, false, false, false, false, false, false, false, false, false] rfl rfl (any_of HT_.out (by kernel_rfl)) (fun _ _ _ h => h) (Or.inl ⟨by rfl, ?_⟩) ?_ ?_
  rotate_left
  ·intro w'
   go_simp
   with_reducible rfl
  rotate_left
  ·simp only [Act.put, List.setIfInBounds_toArray, List.set_cons_zero, List.set_cons_succ, i64_w, i32_w]
   rfl
  refine pure_ (i := 3) (N := (some 21)) (v := ?_) (a' := ?_) #[false, true, false, true, false, false, false, false, false, false, false, false, false, false] rfl rfl (any_of HT_.out (by kernel_rfl)) (fun _ _ _ h => h) (Or.inl ⟨by rfl, ?_⟩) ?_ ?_
  rotate_left
  ·intro w'
   go_simp
   with_reducible rfl
  rotate_left
  ·simp only [Act.put, List.setIfInBounds_toArray, List.set_cons_zero, List.set_cons_succ, i64_w, i32_w]
   rfl
  refine pure_ (i := 5) (N := (some 23)) (v := ?_) (a' := ?_) #[false, true, false, true, false, true, false, false, false, false, false, false, false, false] rfl rfl (any_of HT_.out (by kernel_rfl)) (fun _ _ _ h => h) (Or.inl ⟨by rfl, ?_⟩) ?_ ?_
  rotate_left
  ·intro w'
   go_simp
   with_reducible rfl
  rotate_left
  ·simp only [Act.put, List.setIfInBounds_toArray, List.set_cons_zero, List.set_cons_succ, i64_w, i32_w]
   rfl
  refine take_ (i := 0) (N := (some 18)) (v := ?_) (a' := ?_) #[true, true, false, true, false, true, false, false, false, false, false, false, false, false] rfl rfl (take_ofW HT_.out HW_.out (by kernel_rfl)) (fun _ _ _ h => h) (Or.inl ⟨by rfl, ?_⟩) hHeld ?_ ?_
  rotate_left
  ·rintro w' ⟨s0, s1, s2, s3⟩
   go_simp
   with_reducible rfl
  rotate_left
  ·simp only [Act.put, List.setIfInBounds_toArray, List.set_cons_zero, List.set_cons_succ, i64_w, i32_w]
   rfl
  refine take_ (i := 2) (N := (some 20)) (v := ?_) (a' := ?_) #[true, true, true, true, false, true, false, false, false, false, false, false, false, false] rfl rfl (take_ofW HT_.out HW_.out (by kernel_rfl)) (fun _ _ _ h => h) (Or.inl ⟨by rfl, ?_⟩) hHeld ?_ ?_
  rotate_left
  ·rintro w' ⟨s0, s1, s2, s3⟩
   go_simp
   with_reducible rfl
  rotate_left
  ·simp only [Act.put, List.setIfInBounds_toArray, List.set_cons_zero, List.set_cons_succ, i64_w, i32_w]
   rfl
  refine take_ (i := 4) (N := (some 22)) (v := ?_) (a' := ?_) #[true, true, true, true, true, true, false, false, false, false, false, false, false, false] rfl rfl (take_ofW HT_.out HW_.out (by kernel_rfl)) (fun _ _ _ h => h) (Or.inl ⟨by rfl, ?_⟩) hHeld ?_ ?_
  rotate_left
  ·rintro w' ⟨s0, s1, s2, s3⟩
   go_simp
   with_reducible rfl
  rotate_left
  ·simp only [Act.put, List.setIfInBounds_toArray, List.set_cons_zero, List.set_cons_succ, i64_w, i32_w]
   rfl
  refine take_ (i := 6) (N := (some 24)) (v := ?_) (a' := ?_) #[true, true, true, true, true, true, true, false, false, false, false, false, false, false] rfl rfl (take_ofW HT_.out HW_.out (by kernel_rfl)) (fun _ _ _ h => h) (Or.inl ⟨by rfl, ?_⟩) hHeld ?_ ?_
  rotate_left
  ·rintro w' ⟨s0, s1, s2, s3⟩
   go_simp
   with_reducible rfl
  rotate_left
  ·simp only [Act.put, List.setIfInBounds_toArray, List.set_cons_zero, List.set_cons_succ, i64_w, i32_w]
   rfl
  refine pure_ (i := 8) (N := (some 26)) (v := ?_) (a' := ?_) #[true, true, true, true, true, true, true, false, true, false, false, false, false, false] rfl rfl (any_of HT_.out (by kernel_rfl)) (fun _ _ _ h => h) (Or.inl ⟨by rfl, ?_⟩) ?_ ?_
  rotate_left
  ·intro w'
   go_simp
   with_reducible rfl
  rotate_left
  ·simp only [Act.put, List.setIfInBounds_toArray, List.set_cons_zero, List.set_cons_succ, i64_w, i32_w]
   rfl
  refine take_ (i := 7) (N := (some 25)) (v := ?_) (a' := ?_) #[true, true, true, true, true, true, true, true, true, false, false, false, false, false] rfl rfl (take_ofW HT_.out HW_.out (by kernel_rfl)) (fun _ _ _ h => h) (Or.inl ⟨by rfl, ?_⟩) hHeld ?_ ?_
  rotate_left
  ·rintro w' ⟨s0, s1, s2, s3⟩
   go_simp
   with_reducible rfl
  rotate_left
  ·simp only [Act.put, List.setIfInBounds_toArray, List.set_cons_zero, List.set_cons_succ, i64_w, i32_w]
   rfl
  refine one_ (i := 9) (N := none) #[true, true, true, true, true, true, true, true, true, true, false, false, false, false] rfl rfl (one_of HT_.out (by kernel_rfl)) (by decide) (fun K hK => ?_)
  have hz_ : W7.frozen? ⟨Z.N, v.toNat, none⟩ = false := blk_frozen HT7.out.nn _
  have hc_ := ints_cell HT7.out.nn v h0 (by have := hF.num; simp only; omega)
  refine skip_ (w1 := W7.setCell ⟨Z.N, v.toNat, none⟩ (.int .i64 cc)) (by rfl) rfl ?hrS ?_
  case hrS => first | (go_simp; done) | (go_simp; rfl)
  have HT8 := Aside0.mk (HT7.out.setN hZ v.toNat cc)
  refine hK.out _ _ ⟨(blk_cell HT8.out.bn 0).trans rfl, (blk_cell HT8.out.bl 0).trans rfl, (blk_cell HT8.out.bo 0).trans rfl, (blk_cell HT8.out.c 0).trans rfl⟩ (fun hHeld2_ => ?_)
  clear hK K hz_ hc_
  generalize W7.setCell ⟨Z.N, v.toNat, none⟩ (.int .i64 cc) = W8 at HT8 ⊢
  refine pure_ (i := 10) (N := (some 27)) (v := ?_) (a' := ?_) #[true, true, true, true, true, true, true, true, true, true, true, false, false, false] rfl rfl (any_of HT_.out (by kernel_rfl)) (fun _ _ _ h => h) (Or.inl ⟨by rfl, ?_⟩) ?_ ?_
  rotate_left
  ·intro w'
   go_simp
   with_reducible rfl
  rotate_left
  ·simp only [Act.put, List.setIfInBounds_toArray, List.set_cons_zero, List.set_cons_succ, i64_w, i32_w]
   rfl
  refine one_ (i := 11) (N := none) #[true, true, true, true, true, true, true, true, true, true, true, true, false, false] rfl rfl (one_of HT_.out (by kernel_rfl)) (by decide) (fun K hK => ?_)
  have hz_ : W8.frozen? ⟨Z.L, v.toNat, none⟩ = false := blk_frozen HT8.out.ll _
  have hc_ := ints_cell HT8.out.ll v h0 (by have := hF.low; simp only; omega)
  refine skip_ (w1 := W8.setCell ⟨Z.L, v.toNat, none⟩ (.int .i64 cc)) (by rfl) rfl ?hrS ?_
  case hrS => first | (go_simp; done) | (go_simp; rfl)
  have HT9 := Aside0.mk (HT8.out.setL hZ v.toNat cc)
  refine hK.out _ _ ⟨(blk_cell HT9.out.bn 0).trans rfl, (blk_cell HT9.out.bl 0).trans rfl, (blk_cell HT9.out.bo 0).trans rfl, (blk_cell HT9.out.c 0).trans rfl⟩ (fun hHeld2_ => ?_)
  clear hK K hz_ hc_
  generalize W8.setCell ⟨Z.L, v.toNat, none⟩ (.int .i64 cc) = W9 at HT9 ⊢
  refine pure_ (i := 12) (N := (some 28)) (v := ?_) (a' := ?_) #[true, true, true, true, true, true, true, true, true, true, true, true, true, false] rfl rfl (any_of HT_.out (by kernel_rfl)) (fun _ _ _ h => h) (Or.inl ⟨by rfl, ?_⟩) ?_ ?_
  rotate_left
  ·intro w'
   go_simp
   with_reducible rfl
  rotate_left
  ·simp only [Act.put, List.setIfInBounds_toArray, List.set_cons_zero, List.set_cons_succ, i64_w, i32_w]
   rfl
  refine last_ (i := 13) (N := none) #[true, true, true, true, true, true, true, true, true, true, true, true, true, true] rfl rfl (one_of HT_.out (by kernel_rfl)) (by decide) (fun K hK => ?_)
  have hz_ : W9.frozen? ⟨Z.O, v.toNat, none⟩ = false := blk_frozen HT9.out.oo _
  have hc_ := bools_cell HT9.out.oo v h0 (by have := hF.opn; simp only; omega)
  refine skip_ (w1 := W9.setCell ⟨Z.O, v.toNat, none⟩ (.bool true)) (by rfl) rfl ?hrS ?_
  case hrS => first | (go_simp; done) | (go_simp; rfl)
  have HT10 := Aside0.mk (HT9.out.setO hZ v.toNat true)
  refine hK.out _ _ ?_
  clear hK K hz_ hc_
  generalize W9.setCell ⟨Z.O, v.toNat, none⟩ (.bool true) = W10 at HT10 ⊢
  refine done_ (done_of HT_.out (by kernel_rfl)) ?_
  have HM : Aside0 (TM w W10 wK B Z n B1 B2 vs vu { s with count := cc, num := s.num.set v.toNat cc, low := s.low.set v.toNat cc, opn := s.opn.set v.toNat true }) := ⟨HT10.out⟩
  have k5 : W10.cell? ⟨Z.bs, 0, none⟩ = some vs := (blk_cell HM.out.bs 0).trans rfl
  have k5f := blk_frozen HM.out.bs 0
  have hsl : (s.stack.length + 1) * 8 ≤ 140737488355328 := by omega
  clear HT1 HT7 HT8 HT9 HT10 q1 q2 q3 q4
  go_upto_region 3 with ((with_reducible refine gate_builtin (b := .append) (xs := #[.tmp 29, .tmp 31]) rfl ?_); at_builtin; go_loud (refine Kd.R_append (Kd.int .i64) (w0 := W10) B rfl (.tmp 29) (.tmp 31) 26 3 (.int .i64 0) 8 rfl Try.underlying26 It.info3 rfl (by decide) (by omega) vs s.stack v [.int .i64 v] (fun _ => True) (fun _ => False) rfl rfl ?aP (fun _ hk => hk.elim) (fun _ _ => trivial) HM.out.st.any ?aB ?aS hsl ?_; (case aP => exact rfl); (case aB => exact ⟨rfl, rfl, rfl, Nat.le_refl _, fun _ _ => rfl⟩); (case aS => exact HM.out.sz)); intro v5 w5 ho hb hg hat; obtain ⟨g5, c5, rfl, _, _, _⟩ := Kd.R_form ho (by simp); have k6 := (blk_cell (blk_grown HM.out.bs hg (Ne.symm (rowi_ne HM.out.st HM.out.bs (by decide)))) 0).trans rfl; have k6f := blk_frozen (blk_grown HM.out.bs hg (Ne.symm (rowi_ne HM.out.st HM.out.bs (by decide)))) 0; have HM5 := Aside0.mk (HM.out.push hZ (RowI.of ho) hg hat); clear ho hb hg hat k5 k5f)
  simp only [List.length_append, List.length_singleton] at HM5
  obtain ⟨s1, hs1⟩ : ∃ s1 : TS, s1 = { s with count := cc, num := s.num.set v.toNat cc, low := s.low.set v.toNat cc, opn := s.opn.set v.toNat true, stack := s.stack ++ [v] } := ⟨_, rfl⟩
  rw [← hs1] at HM5
  have HF5 : Aside0 (Fit s1 n) := ⟨by rw [hs1]; exact ⟨by simp [hF.num], by simp [hF.low], by simp [hF.opn], fun x hx => by
   rcases List.mem_append.1 hx with hx | hx
   ·exact hF.stk x hx
   ·simp at hx; subst hx; exact ⟨h0, h1⟩⟩⟩
  obtain ⟨s2, hrow, hend⟩ : ∃ s2, visitRow (visit rows f) v (row rows v) s1 = some s2 ∧ (if rd s2.low v < rd s2.num v then some s2 else if 50000 < s2.stack.length ∨ 50000 < s2.out.length then none else (match s2.stack.findIdx? (· == v) with
   | some k => some (s2.shut k)
   | none => none)) = some s' := by
   have h := HV.out
   unfold visit at h
   rw [if_neg (by omega)] at h
   have hm : s.meet v = s1 := by rw [hs1, HCC.out]; rfl
   rw [hm] at h
   split at h
   ·exact absurd h (by simp)
   ·rename_i s2 h2; exact ⟨s2, h2, h⟩
  have HROW := Aside0.mk hrow
  have HEND := Aside0.mk hend
  clear hrow hend hs1 HV
  generalize hgW : w5.setCell ⟨Z.bs, 0, none⟩ (.slice (some ⟨g5, 0, none⟩) (s.stack.length + 1) c5) = W6b at HM5 ⊢
  clear hgW k6 k6f HM
  obtain ⟨adr, A0, c0, hA, hrc, hrl, hRr⟩ := at_row hk v h0 (by omega)
  obtain rfl : (⟨B1, 0, none⟩ : Addr) = adr := by injection hA
  clear hA
  rw [add_plain] at hrc
  have hRl : (row rows v).length ≤ 10000 := hlens _ (row_mem h0 (by omega))
  have hRf : ∀ z ∈ row rows v, 0 ≤ z ∧ z < (n : Int) := fun z hz => by have := fits_row hfits v z hz; omega
  obtain ⟨R, hR⟩ : ∃ R, R = row rows v := ⟨_, rfl⟩
  rw [← hR] at hrc hrl hRr hRl hRf HROW
  clear hR
  have kg : W6b.cell? ⟨Z.gb, 0, none⟩ = some (.slice (some ⟨B1, 0, none⟩) n n) := (blk_cell HM5.out.g 0).trans rfl
  have kr := (HM5.out.p _ _ hrc).2
  go_wp2
  clear kg kr hrc
  go_loopg [39] (R.length + 1) (fun m t wr => ∃ (i : Nat) (vs2 vu2 : Value) (sx : TS), t = .int .i64 i ∧ i ≤ R.length ∧ R.length < m + i ∧ Aside0 (TM w wr wK B Z n B1 B2 vs2 vu2 sx) ∧ Aside0 (Fit sx n) ∧ Aside0 (visitRow (visit rows f) v (R.drop i) sx = some s2))
  case atStart => exact ⟨0, _, _, s1, rfl, Nat.zero_le _, by omega, HM5, HF5, HROW⟩
  case round =>
   clear HM5 HF5 HROW
   obtain ⟨i, vs2, vu2, sx, rfl, hi1, hi2, HM, HFx, HR⟩ := hrel
   by_cases hlt : i < R.length
   ·obtain ⟨adi, hei, hci⟩ := Kd.at_int hRr (i : Int) (by omega) (by omega)
    subst hei
    rw [Int.toNat_natCast] at hci
    have hci2 := (HM.out.p _ _ hci).2
    obtain ⟨x, hx⟩ : ∃ x, x = rd R (i : Int) := ⟨_, rfl⟩
    rw [← hx] at hci2
    obtain ⟨hx0, hx1⟩ := hRf x (by rw [hx]; unfold rd; rw [List.getD_eq_getElem?_getD, List.getElem?_eq_getElem (by simpa using hlt)]; exact List.getElem_mem _)
    have HX : Aside0 (visitRow (visit rows f) v (x :: R.drop (i + 1)) sx = some s2) := ⟨by have := HR.out; rw [drop_rd hlt, ← hx] at this; exact this⟩
    have kn : wr.cell? ⟨Z.bn, 0, none⟩ = some (.slice (some ⟨Z.N, 0, none⟩) n n) := (blk_cell HM.out.bn 0).trans rfl
    have kx := ints_cell HM.out.nn x hx0 (by rw [HFx.out.num]; exact hx1)
    have hltD : decide (i < R.length) = true := by simpa using hlt
    have hltI : decide ((i : Int) < (R.length : Int)) = true := by simpa using hlt
    clear hx hci HR
    obtain ⟨m1, rfl⟩ : ∃ m1, gk = m1 + 1 := ⟨gk - 1, by omega⟩
    by_cases hz : rd sx.num x = 0
    ·obtain ⟨sy, hvx, hgo⟩ : ∃ sy, visit rows f x sx = some sy ∧ visitRow (visit rows f) v (R.drop (i + 1)) (sy.lower v (rd sy.low x)) = some s2 := by
      have h := HX.out
      unfold visitRow at h
      rw [if_pos hz] at h
      split at h
      ·rename_i sy h1; exact ⟨sy, h1, h⟩
      ·exact absurd h (by simp)
     have HFy := Aside0.mk (fit_visit hfits hN f x sx sy hx0 hx1 HFx.out hvx)
     have HGo := Aside0.mk hgo
     have hcon := HI.out x sx sy wr vs2 vu2 hx0 hx1 HFx.out HM.out hvx
     unfold Bl.ptrs at hcon
     simp only [List.append_toArray, List.cons_append, List.nil_append] at hcon
     have kfn : wr.cell? ⟨Z.bf, 0, none⟩ = some (.func (.func 46) #[] #[.pointer (some ⟨Z.bc, 0, none⟩), .pointer (some ⟨Z.bn, 0, none⟩), .pointer (some ⟨Z.bl, 0, none⟩), .pointer (some ⟨Z.bo, 0, none⟩), .pointer (some ⟨Z.bs, 0, none⟩), .pointer (some ⟨Z.gb, 0, none⟩), .pointer (some ⟨Z.bf, 0, none⟩), .pointer (some ⟨Z.bu, 0, none⟩)]) := (blk_cell HM.out.f 0).trans rfl
     rw [hz] at kx
     clear hz hvx hgo
     go_upto_region 8 with (go_at_call 46; go_loud (refine hcon.mono ?_); rintro e W6c ⟨rfl, vs3, vu3, hM3⟩; have HM3 := Aside0.mk hM3; clear hM3)
     have HT7 := Aside0.mk (HM3.out.later (below_drew (Below.refl _ _)))
     have q1 : W6c.cell? ⟨Z.bl, 0, none⟩ = some (.slice (some ⟨Z.L, 0, none⟩) n n) := (blk_cell HM3.out.bl 0).trans rfl
     have q3 := ints_cell HM3.out.ll v h0 (by rw [HFy.out.low]; exact h1)
     have q4 := ints_cell HM3.out.ll x hx0 (by rw [HFy.out.low]; exact hx1)
     refine start_ (n := 13) (S := fun w' => w'.cell? ⟨Z.bl, 0, none⟩ = some (.slice (some ⟨Z.L, 0, none⟩) n n) ∧ w'.cell? ⟨Z.bl, 0, none⟩ = some (.slice (some ⟨Z.L, 0, none⟩) n n) ∧ w'.cell? ⟨Z.L, v.toNat, none⟩ = some (.int .i64 (rd sy.low v)) ∧ w'.cell? ⟨Z.L, x.toNat, none⟩ = some (.int .i64 (rd sy.low x))) (ds := [12]) #[false, false, false, false, false, false, false, false, false, false, false, false, false] (by kernel_rfl) rfl rfl ⟨q1, q1, q3, q4⟩ (fun hHeld => ?_); refine with_tabW vi.tab8 vi.bits8 (fun HT_ HW_ => ?_)
     generalize W6c.drew = W7 at HT7 hHeld ⊢
     refine pure_ (i := 1) (N := (some 52)) (v := ?_) (a' := ?_) #[false, true, false, false, false, false, false, false, false, false, false, false, false] rfl rfl (any_of HT_.out (by kernel_rfl)) (fun _ _ _ h => h) (Or.inl ⟨by rfl, ?_⟩) ?_ ?_
     rotate_left
     ·intro w'
      go_simp
      with_reducible rfl
     rotate_left
     ·simp only [Act.put, List.setIfInBounds_toArray, List.set_cons_zero, List.set_cons_succ, i64_w, i32_w]
      rfl
     refine pure_ (i := 3) (N := (some 54)) (v := ?_) (a' := ?_) #[false, true, false, true, false, false, false, false, false, false, false, false, false] rfl rfl (any_of HT_.out (by kernel_rfl)) (fun _ _ _ h => h) (Or.inl ⟨by rfl, ?_⟩) ?_ ?_
     rotate_left
     ·intro w'
      go_simp
      with_reducible rfl
     rotate_left
     ·simp only [Act.put, List.setIfInBounds_toArray, List.set_cons_zero, List.set_cons_succ, i64_w, i32_w]
      rfl
     refine pure_ (i := 7) (N := (some 58)) (v := ?_) (a' := ?_) #[false, true, false, true, false, false, false, true, false, false, false, false, false] rfl rfl (any_of HT_.out (by kernel_rfl)) (fun _ _ _ h => h) (Or.inl ⟨by rfl, ?_⟩) ?_ ?_
     rotate_left
     ·intro w'
      go_simp
      with_reducible rfl
     rotate_left
     ·simp only [Act.put, List.setIfInBounds_toArray, List.set_cons_zero, List.set_cons_succ, i64_w, i32_w]
      rfl
     refine take_ (i := 0) (N := (some 51)) (v := ?_) (a' := ?_) #[true, true, false, true, false, false, false, true, false, false, false, false, false] rfl rfl (take_ofW HT_.out HW_.out (by kernel_rfl)) (fun _ _ _ h => h) (Or.inl ⟨by rfl, ?_⟩) hHeld ?_ ?_
     rotate_left
     ·rintro w' ⟨s0, s1, s2, s3⟩
      go_simp
      with_reducible rfl
     rotate_left
     ·simp only [Act.put, List.setIfInBounds_toArray, List.set_cons_zero, List.set_cons_succ, i64_w, i32_w]
      rfl
     refine take_ (i := 2) (N := (some 53)) (v := ?_) (a' := ?_) #[true, true, true, true, false, false, false, true, false, false, false, false, false] rfl rfl (take_ofW HT_.out HW_.out (by kernel_rfl)) (fun _ _ _ h => h) (Or.inl ⟨by rfl, ?_⟩) hHeld ?_ ?_
     rotate_left
     ·rintro w' ⟨s0, s1, s2, s3⟩
      go_simp
      with_reducible rfl
     rotate_left
     ·simp only [Act.put, List.setIfInBounds_toArray, List.set_cons_zero, List.set_cons_succ, i64_w, i32_w]
      rfl
     refine pure_ (i := 4) (N := (some 55)) (v := ?_) (a' := ?_) #[true, true, true, true, true, false, false, true, false, false, false, false, false] rfl rfl (any_of HT_.out (by kernel_rfl)) (fun _ _ _ h => h) (Or.inl ⟨by rfl, ?_⟩) ?_ ?_
     rotate_left
     ·intro w'
      go_simp
      with_reducible rfl
     rotate_left
     ·simp only [Act.put, List.setIfInBounds_toArray, List.set_cons_zero, List.set_cons_succ, i64_w, i32_w]
      rfl
     refine take_ (i := 5) (N := (some 56)) (v := ?_) (a' := ?_) #[true, true, true, true, true, true, false, true, false, false, false, false, false] rfl rfl (take_ofW HT_.out HW_.out (by kernel_rfl)) (fun _ _ _ h => h) (Or.inl ⟨by rfl, ?_⟩) hHeld ?_ ?_
     rotate_left
     ·rintro w' ⟨s0, s1, s2, s3⟩
      go_simp
      with_reducible rfl
     rotate_left
     ·simp only [Act.put, List.setIfInBounds_toArray, List.set_cons_zero, List.set_cons_succ, i64_w, i32_w]
      rfl
     refine take_ (i := 6) (N := (some 57)) (v := ?_) (a' := ?_) #[true, true, true, true, true, true, true, true, false, false, false, false, false] rfl rfl (take_ofW HT_.out HW_.out (by kernel_rfl)) (fun _ _ _ h => h) (Or.inl ⟨by rfl, ?_⟩) hHeld ?_ ?_
     rotate_left
     ·rintro w' ⟨s0, s1, s2, s3⟩
      go_simp
      with_reducible rfl
     rotate_left
     ·simp only [Act.put, List.setIfInBounds_toArray, List.set_cons_zero, List.set_cons_succ, i64_w, i32_w]
      rfl
     refine pure_ (i := 8) (N := (some 59)) (v := ?_) (a' := ?_) #[true, true, true, true, true, true, true, true, true, false, false, false, false] rfl rfl (any_of HT_.out (by kernel_rfl)) (fun _ _ _ h => h) (Or.inl ⟨by rfl, ?_⟩) ?_ ?_
     rotate_left
     ·intro w'
      go_simp
      with_reducible rfl
     rotate_left
     ·simp only [Act.put, List.setIfInBounds_toArray, List.set_cons_zero, List.set_cons_succ, i64_w, i32_w]
      rfl
     refine take_ (i := 9) (N := (some 60)) (v := ?_) (a' := ?_) #[true, true, true, true, true, true, true, true, true, true, false, false, false] rfl rfl (take_ofW HT_.out HW_.out (by kernel_rfl)) (fun _ _ _ h => h) (Or.inl ⟨by rfl, ?_⟩) hHeld ?_ ?_
     rotate_left
     ·rintro w' ⟨s0, s1, s2, s3⟩
      go_simp
      with_reducible rfl
     rotate_left
     ·simp only [Act.put, List.setIfInBounds_toArray, List.set_cons_zero, List.set_cons_succ, i64_w, i32_w]
      rfl
     refine pure_ (i := 10) (N := (some 61)) (v := ?_) (a' := ?_) #[true, true, true, true, true, true, true, true, true, true, true, false, false] rfl rfl (any_of HT_.out (by kernel_rfl)) (fun _ _ _ h => h) (Or.inl ⟨by rfl, ?_⟩) ?_ ?_
     rotate_left
     ·intro w'
      go_simp
      with_reducible rfl
     rotate_left
     ·simp only [Act.put, List.setIfInBounds_toArray, List.set_cons_zero, List.set_cons_succ, i64_w, i32_w]
      rfl
     refine pure_ (i := 11) (N := (some 62)) (v := ?_) (a' := ?_) #[true, true, true, true, true, true, true, true, true, true, true, true, false] rfl rfl (any_of HT_.out (by kernel_rfl)) (fun _ _ _ h => h) (Or.inl ⟨by rfl, ?_⟩) ?_ ?_
     rotate_left
     ·intro w'
      go_simp
      with_reducible rfl
     rotate_left
     ·simp only [Act.put, List.setIfInBounds_toArray, List.set_cons_zero, List.set_cons_succ, i64_w, i32_w]
      rfl
     refine last_ (i := 12) (N := none) #[true, true, true, true, true, true, true, true, true, true, true, true, true] rfl rfl (one_of HT_.out (by kernel_rfl)) (by decide) (fun K hK => ?_)
     have hz_ : W7.frozen? ⟨Z.L, v.toNat, none⟩ = false := blk_frozen HT7.out.ll _
     have hc_ := hHeld.2.2.1
     refine skip_ (w1 := W7.setCell ⟨Z.L, v.toNat, none⟩ (.int .i64 (min (rd sy.low v) (rd sy.low x)))) (by rfl) rfl ?hrS ?_
     case hrS => first | (go_simp; done) | (go_simp; rfl)
     have HT8 := Aside0.mk (HT7.out.setL hZ v.toNat (min (rd sy.low v) (rd sy.low x)))
     refine hK.out _ _ ?_
     clear hK K hz_ hc_
     refine done_ (done_of HT_.out (by kernel_rfl)) ?_
     go_wp2
     go_roundg m1
     case measure => omega
     case rel => exact ⟨i + 1, _, _, _, by go_num, by omega, by omega, HT8, ⟨HFy.out.lower _ _⟩, HGo⟩
    ·have hzb : (rd sx.num x == 0) = false := by simpa using hz
     have ko : wr.cell? ⟨Z.bo, 0, none⟩ = some (.slice (some ⟨Z.O, 0, none⟩) n n) := (blk_cell HM.out.bo 0).trans rfl
     have kox := bools_cell HM.out.oo x hx0 (by rw [HFx.out.opn]; exact hx1)
     by_cases ho : opnAt sx.opn x = true
     ·have HGo : Aside0 (visitRow (visit rows f) v (R.drop (i + 1)) (sx.lower v (rd sx.num x)) = some s2) := ⟨by have h := HX.out; unfold visitRow at h; rw [if_neg hz, if_pos ho] at h; exact h⟩
      rw [ho] at kox
      clear hz ho
      go_upto_region 10 with (fail)
      have HT7 := Aside0.mk (HM.out.later (below_drew (Below.refl _ _)))
      have q1 : wr.cell? ⟨Z.bl, 0, none⟩ = some (.slice (some ⟨Z.L, 0, none⟩) n n) := (blk_cell HM.out.bl 0).trans rfl
      have q3 := ints_cell HM.out.ll v h0 (by rw [HFx.out.low]; exact h1)
      refine start_ (n := 13) (S := fun w' => w'.cell? ⟨Z.bl, 0, none⟩ = some (.slice (some ⟨Z.L, 0, none⟩) n n) ∧ w'.cell? ⟨Z.bn, 0, none⟩ = some (.slice (some ⟨Z.N, 0, none⟩) n n) ∧ w'.cell? ⟨Z.L, v.toNat, none⟩ = some (.int .i64 (rd sx.low v)) ∧ w'.cell? ⟨Z.N, x.toNat, none⟩ = some (.int .i64 (rd sx.num x))) (ds := [12]) #[false, false, false, false, false, false, false, false, false, false, false, false, false] (by kernel_rfl) rfl rfl ⟨q1, kn, q3, kx⟩ (fun hHeld => ?_); refine with_tabW vi.tab10 vi.bits10 (fun HT_ HW_ => ?_)
      generalize wr.drew = W7 at HT7 hHeld ⊢
      refine pure_ (i := 1) (N := (some 68)) (v := ?_) (a' := ?_) #[false, true, false, false, false, false, false, false, false, false, false, false, false] rfl rfl (any_of HT_.out (by kernel_rfl)) (fun _ _ _ h => h) (Or.inl ⟨by rfl, ?_⟩) ?_ ?_
      rotate_left
      ·intro w'
       go_simp
       with_reducible rfl
      rotate_left
      ·simp only [Act.put, List.setIfInBounds_toArray, List.set_cons_zero, List.set_cons_succ, i64_w, i32_w]
       rfl
      refine pure_ (i := 3) (N := (some 70)) (v := ?_) (a' := ?_) #[false, true, false, true, false, false, false, false, false, false, false, false, false] rfl rfl (any_of HT_.out (by kernel_rfl)) (fun _ _ _ h => h) (Or.inl ⟨by rfl, ?_⟩) ?_ ?_
      rotate_left
      ·intro w'
       go_simp
       with_reducible rfl
      rotate_left
      ·simp only [Act.put, List.setIfInBounds_toArray, List.set_cons_zero, List.set_cons_succ, i64_w, i32_w]
       rfl
      refine pure_ (i := 7) (N := (some 74)) (v := ?_) (a' := ?_) #[false, true, false, true, false, false, false, true, false, false, false, false, false] rfl rfl (any_of HT_.out (by kernel_rfl)) (fun _ _ _ h => h) (Or.inl ⟨by rfl, ?_⟩) ?_ ?_
      rotate_left
      ·intro w'
       go_simp
       with_reducible rfl
      rotate_left
      ·simp only [Act.put, List.setIfInBounds_toArray, List.set_cons_zero, List.set_cons_succ, i64_w, i32_w]
       rfl
      refine take_ (i := 0) (N := (some 67)) (v := ?_) (a' := ?_) #[true, true, false, true, false, false, false, true, false, false, false, false, false] rfl rfl (take_ofW HT_.out HW_.out (by kernel_rfl)) (fun _ _ _ h => h) (Or.inl ⟨by rfl, ?_⟩) hHeld ?_ ?_
      rotate_left
      ·rintro w' ⟨s0, s1, s2, s3⟩
       go_simp
       with_reducible rfl
      rotate_left
      ·simp only [Act.put, List.setIfInBounds_toArray, List.set_cons_zero, List.set_cons_succ, i64_w, i32_w]
       rfl
      refine take_ (i := 2) (N := (some 69)) (v := ?_) (a' := ?_) #[true, true, true, true, false, false, false, true, false, false, false, false, false] rfl rfl (take_ofW HT_.out HW_.out (by kernel_rfl)) (fun _ _ _ h => h) (Or.inl ⟨by rfl, ?_⟩) hHeld ?_ ?_
      rotate_left
      ·rintro w' ⟨s0, s1, s2, s3⟩
       go_simp
       with_reducible rfl
      rotate_left
      ·simp only [Act.put, List.setIfInBounds_toArray, List.set_cons_zero, List.set_cons_succ, i64_w, i32_w]
       rfl
      refine pure_ (i := 4) (N := (some 71)) (v := ?_) (a' := ?_) #[true, true, true, true, true, false, false, true, false, false, false, false, false] rfl rfl (any_of HT_.out (by kernel_rfl)) (fun _ _ _ h => h) (Or.inl ⟨by rfl, ?_⟩) ?_ ?_
      rotate_left
      ·intro w'
       go_simp
       with_reducible rfl
      rotate_left
      ·simp only [Act.put, List.setIfInBounds_toArray, List.set_cons_zero, List.set_cons_succ, i64_w, i32_w]
       rfl
      refine take_ (i := 5) (N := (some 72)) (v := ?_) (a' := ?_) #[true, true, true, true, true, true, false, true, false, false, false, false, false] rfl rfl (take_ofW HT_.out HW_.out (by kernel_rfl)) (fun _ _ _ h => h) (Or.inl ⟨by rfl, ?_⟩) hHeld ?_ ?_
      rotate_left
      ·rintro w' ⟨s0, s1, s2, s3⟩
       go_simp
       with_reducible rfl
      rotate_left
      ·simp only [Act.put, List.setIfInBounds_toArray, List.set_cons_zero, List.set_cons_succ, i64_w, i32_w]
       rfl
      refine take_ (i := 6) (N := (some 73)) (v := ?_) (a' := ?_) #[true, true, true, true, true, true, true, true, false, false, false, false, false] rfl rfl (take_ofW HT_.out HW_.out (by kernel_rfl)) (fun _ _ _ h => h) (Or.inl ⟨by rfl, ?_⟩) hHeld ?_ ?_
      rotate_left
      ·rintro w' ⟨s0, s1, s2, s3⟩
       go_simp
       with_reducible rfl
      rotate_left
      ·simp only [Act.put, List.setIfInBounds_toArray, List.set_cons_zero, List.set_cons_succ, i64_w, i32_w]
       rfl
      refine pure_ (i := 8) (N := (some 75)) (v := ?_) (a' := ?_) #[true, true, true, true, true, true, true, true, true, false, false, false, false] rfl rfl (any_of HT_.out (by kernel_rfl)) (fun _ _ _ h => h) (Or.inl ⟨by rfl, ?_⟩) ?_ ?_
      rotate_left
      ·intro w'
       go_simp
       with_reducible rfl
      rotate_left
      ·simp only [Act.put, List.setIfInBounds_toArray, List.set_cons_zero, List.set_cons_succ, i64_w, i32_w]
       rfl
      refine take_ (i := 9) (N := (some 76)) (v := ?_) (a' := ?_) #[true, true, true, true, true, true, true, true, true, true, false, false, false] rfl rfl (take_ofW HT_.out HW_.out (by kernel_rfl)) (fun _ _ _ h => h) (Or.inl ⟨by rfl, ?_⟩) hHeld ?_ ?_
      rotate_left
      ·rintro w' ⟨s0, s1, s2, s3⟩
       go_simp
       with_reducible rfl
      rotate_left
      ·simp only [Act.put, List.setIfInBounds_toArray, List.set_cons_zero, List.set_cons_succ, i64_w, i32_w]
       rfl
      refine pure_ (i := 10) (N := (some 77)) (v := ?_) (a' := ?_) #[true, true, true, true, true, true, true, true, true, true, true, false, false] rfl rfl (any_of HT_.out (by kernel_rfl)) (fun _ _ _ h => h) (Or.inl ⟨by rfl, ?_⟩) ?_ ?_
      rotate_left
      ·intro w'
       go_simp
       with_reducible rfl
      rotate_left
      ·simp only [Act.put, List.setIfInBounds_toArray, List.set_cons_zero, List.set_cons_succ, i64_w, i32_w]
       rfl
      refine pure_ (i := 11) (N := (some 78)) (v := ?_) (a' := ?_) #[true, true, true, true, true, true, true, true, true, true, true, true, false] rfl rfl (any_of HT_.out (by kernel_rfl)) (fun _ _ _ h => h) (Or.inl ⟨by rfl, ?_⟩) ?_ ?_
      rotate_left
      ·intro w'
       go_simp
       with_reducible rfl
      rotate_left
      ·simp only [Act.put, List.setIfInBounds_toArray, List.set_cons_zero, List.set_cons_succ, i64_w, i32_w]
       rfl
      refine last_ (i := 12) (N := none) #[true, true, true, true, true, true, true, true, true, true, true, true, true] rfl rfl (one_of HT_.out (by kernel_rfl)) (by decide) (fun K hK => ?_)
      have hz_ : W7.frozen? ⟨Z.L, v.toNat, none⟩ = false := blk_frozen HT7.out.ll _
      have hc_ := hHeld.2.2.1
      refine skip_ (w1 := W7.setCell ⟨Z.L, v.toNat, none⟩ (.int .i64 (min (rd sx.low v) (rd sx.num x)))) (by rfl) rfl ?hrS ?_
      case hrS => first | (go_simp; done) | (go_simp; rfl)
      have HT8 := Aside0.mk (HT7.out.setL hZ v.toNat (min (rd sx.low v) (rd sx.num x)))
      refine hK.out _ _ ?_
      clear hK K hz_ hc_
      refine done_ (done_of HT_.out (by kernel_rfl)) ?_
      go_wp2
      go_roundg m1
      case measure => omega
      case rel => exact ⟨i + 1, _, _, _, by go_num, by omega, by omega, HT8, ⟨HFx.out.lower _ _⟩, HGo⟩
     ·have HGo : Aside0 (visitRow (visit rows f) v (R.drop (i + 1)) sx = some s2) := ⟨by have h := HX.out; unfold visitRow at h; rw [if_neg hz, if_neg ho] at h; exact h⟩
      rw [Bool.not_eq_true] at ho
      rw [ho] at kox
      clear hz ho
      go_wp2
      go_roundg m1
      case measure => omega
      case rel => exact ⟨i + 1, _, _, _, by go_num, by omega, by omega, HM, HFx, HGo⟩
   ·obtain rfl : i = R.length := by omega
    have hXe := HR.out
    rw [List.drop_length] at hXe
    unfold visitRow at hXe
    have hsx := Option.some.inj hXe
    subst hsx
    clear hXe HR
    have hltD : decide (R.length < R.length) = false := by simp
    have q1 : wr.cell? ⟨Z.bl, 0, none⟩ = some (.slice (some ⟨Z.L, 0, none⟩) n n) := (blk_cell HM.out.bl 0).trans rfl
    have q2 : wr.cell? ⟨Z.bn, 0, none⟩ = some (.slice (some ⟨Z.N, 0, none⟩) n n) := (blk_cell HM.out.bn 0).trans rfl
    have q3 := ints_cell HM.out.ll v h0 (by rw [HFx.out.low]; exact h1)
    have q4 := ints_cell HM.out.nn v h0 (by rw [HFx.out.num]; exact h1)
    have HT7 := Aside0.mk (HM.out.later (below_drew (Below.refl _ _)))
    go_upto_region 12 with (fail)
    by_cases hlv : rd sx.low v < rd sx.num v
    ·have HE : Aside0 (s' = sx) := ⟨by have := HEND.out; rw [if_pos hlv] at this; exact (Option.some.inj this).symm⟩
     clear HEND
     refine start_ (n := 9) (S := fun w' => w'.cell? ⟨Z.bl, 0, none⟩ = some (.slice (some ⟨Z.L, 0, none⟩) n n) ∧ w'.cell? ⟨Z.bn, 0, none⟩ = some (.slice (some ⟨Z.N, 0, none⟩) n n) ∧ w'.cell? ⟨Z.L, v.toNat, none⟩ = some (.int .i64 (rd sx.low v)) ∧ w'.cell? ⟨Z.N, v.toNat, none⟩ = some (.int .i64 (rd sx.num v))) (ds := []) #[false, false, false, false, false, false, false, false, false] (by kernel_rfl) rfl rfl ⟨q1, q2, q3, q4⟩ (fun hHeld => ?_); refine with_tabW vi.tab12 vi.bits12 (fun HT_ HW_ => ?_)
     generalize wr.drew = W7 at HT7 hHeld ⊢
     refine pure_ (i := 1) (N := (some 81)) (v := ?_) (a' := ?_) #[false, true, false, false, false, false, false, false, false] rfl rfl (any_of HT_.out (by kernel_rfl)) (fun _ _ _ h => h) (Or.inl ⟨by rfl, ?_⟩) ?_ ?_
     rotate_left
     ·intro w'
      go_simp
      with_reducible rfl
     rotate_left
     ·simp only [Act.put, List.setIfInBounds_toArray, List.set_cons_zero, List.set_cons_succ, i64_w, i32_w]
      rfl
     refine pure_ (i := 5) (N := (some 85)) (v := ?_) (a' := ?_) #[false, true, false, false, false, true, false, false, false] rfl rfl (any_of HT_.out (by kernel_rfl)) (fun _ _ _ h => h) (Or.inl ⟨by rfl, ?_⟩) ?_ ?_
     rotate_left
     ·intro w'
      go_simp
      with_reducible rfl
     rotate_left
     ·simp only [Act.put, List.setIfInBounds_toArray, List.set_cons_zero, List.set_cons_succ, i64_w, i32_w]
      rfl
     refine take_ (i := 0) (N := (some 80)) (v := ?_) (a' := ?_) #[true, true, false, false, false, true, false, false, false] rfl rfl (take_ofW HT_.out HW_.out (by kernel_rfl)) (fun _ _ _ h => h) (Or.inl ⟨by rfl, ?_⟩) hHeld ?_ ?_
     rotate_left
     ·rintro w' ⟨s0, s1, s2, s3⟩
      go_simp
      with_reducible rfl
     rotate_left
     ·simp only [Act.put, List.setIfInBounds_toArray, List.set_cons_zero, List.set_cons_succ, i64_w, i32_w]
      rfl
     refine pure_ (i := 2) (N := (some 82)) (v := ?_) (a' := ?_) #[true, true, true, false, false, true, false, false, false] rfl rfl (any_of HT_.out (by kernel_rfl)) (fun _ _ _ h => h) (Or.inl ⟨by rfl, ?_⟩) ?_ ?_
     rotate_left
     ·intro w'
      go_simp
      with_reducible rfl
     rotate_left
     ·simp only [Act.put, List.setIfInBounds_toArray, List.set_cons_zero, List.set_cons_succ, i64_w, i32_w]
      rfl
     refine take_ (i := 3) (N := (some 83)) (v := ?_) (a' := ?_) #[true, true, true, true, false, true, false, false, false] rfl rfl (take_ofW HT_.out HW_.out (by kernel_rfl)) (fun _ _ _ h => h) (Or.inl ⟨by rfl, ?_⟩) hHeld ?_ ?_
     rotate_left
     ·rintro w' ⟨s0, s1, s2, s3⟩
      go_simp
      with_reducible rfl
     rotate_left
     ·simp only [Act.put, List.setIfInBounds_toArray, List.set_cons_zero, List.set_cons_succ, i64_w, i32_w]
      rfl
     refine take_ (i := 4) (N := (some 84)) (v := ?_) (a' := ?_) #[true, true, true, true, true, true, false, false, false] rfl rfl (take_ofW HT_.out HW_.out (by kernel_rfl)) (fun _ _ _ h => h) (Or.inl ⟨by rfl, ?_⟩) hHeld ?_ ?_
     rotate_left
     ·rintro w' ⟨s0, s1, s2, s3⟩
      go_simp
      with_reducible rfl
     rotate_left
     ·simp only [Act.put, List.setIfInBounds_toArray, List.set_cons_zero, List.set_cons_succ, i64_w, i32_w]
      rfl
     refine pure_ (i := 6) (N := (some 86)) (v := ?_) (a' := ?_) #[true, true, true, true, true, true, true, false, false] rfl rfl (any_of HT_.out (by kernel_rfl)) (fun _ _ _ h => h) (Or.inl ⟨by rfl, ?_⟩) ?_ ?_
     rotate_left
     ·intro w'
      go_simp
      with_reducible rfl
     rotate_left
     ·simp only [Act.put, List.setIfInBounds_toArray, List.set_cons_zero, List.set_cons_succ, i64_w, i32_w]
      rfl
     refine take_ (i := 7) (N := (some 87)) (v := ?_) (a' := ?_) #[true, true, true, true, true, true, true, true, false] rfl rfl (take_ofW HT_.out HW_.out (by kernel_rfl)) (fun _ _ _ h => h) (Or.inl ⟨by rfl, ?_⟩) hHeld ?_ ?_
     rotate_left
     ·rintro w' ⟨s0, s1, s2, s3⟩
      go_simp
      with_reducible rfl
     rotate_left
     ·simp only [Act.put, List.setIfInBounds_toArray, List.set_cons_zero, List.set_cons_succ, i64_w, i32_w]
      rfl
     refine pure_ (i := 8) (N := (some 88)) (v := ?_) (a' := ?_) #[true, true, true, true, true, true, true, true, true] rfl rfl (any_of HT_.out (by kernel_rfl)) (fun _ _ _ h => h) (Or.inl ⟨by rfl, ?_⟩) ?_ ?_
     rotate_left
     ·intro w'
      go_simp
      with_reducible rfl
     rotate_left
     ·simp only [Act.put, List.setIfInBounds_toArray, List.set_cons_zero, List.set_cons_succ, i64_w, i32_w]
      rfl
     refine done_ (done_of HT_.out (by kernel_rfl)) ?_
     go_wp2
     exact bodyPost_ret (results_none rfl _ _ _) rfl ⟨rfl, _, _, by rw [HE.out]; exact HT7.out⟩
    ·obtain ⟨k, hst5, hou5, hk1, hk2, HE⟩ : ∃ k : Nat, sx.stack.length ≤ 50000 ∧ sx.out.length ≤ 50000 ∧ Lib.idxOf sx.stack v = (k : Int) ∧ k < sx.stack.length ∧ Aside0 (s' = sx.shut k) := by
      have h := HEND.out
      rw [if_neg hlv] at h
      split at h
      ·exact absurd h (by simp)
      ·split at h
       ·rename_i k hk
        obtain ⟨h2, h3⟩ := idx_find hk
        exact ⟨k, by omega, by omega, h2, h3, ⟨(Option.some.inj h).symm⟩⟩
       ·exact absurd h (by simp)
     clear HEND
     refine start_ (n := 9) (S := fun w' => w'.cell? ⟨Z.bl, 0, none⟩ = some (.slice (some ⟨Z.L, 0, none⟩) n n) ∧ w'.cell? ⟨Z.bn, 0, none⟩ = some (.slice (some ⟨Z.N, 0, none⟩) n n) ∧ w'.cell? ⟨Z.L, v.toNat, none⟩ = some (.int .i64 (rd sx.low v)) ∧ w'.cell? ⟨Z.N, v.toNat, none⟩ = some (.int .i64 (rd sx.num v))) (ds := []) #[false, false, false, false, false, false, false, false, false] (by kernel_rfl) rfl rfl ⟨q1, q2, q3, q4⟩ (fun hHeld => ?_); refine with_tabW vi.tab12 vi.bits12 (fun HT_ HW_ => ?_)
     generalize wr.drew = W7 at HT7 hHeld ⊢
     refine pure_ (i := 1) (N := (some 81)) (v := ?_) (a' := ?_) #[false, true, false, false, false, false, false, false, false] rfl rfl (any_of HT_.out (by kernel_rfl)) (fun _ _ _ h => h) (Or.inl ⟨by rfl, ?_⟩) ?_ ?_
     rotate_left
     ·intro w'
      go_simp
      with_reducible rfl
     rotate_left
     ·simp only [Act.put, List.setIfInBounds_toArray, List.set_cons_zero, List.set_cons_succ, i64_w, i32_w]
      rfl
     refine pure_ (i := 5) (N := (some 85)) (v := ?_) (a' := ?_) #[false, true, false, false, false, true, false, false, false] rfl rfl (any_of HT_.out (by kernel_rfl)) (fun _ _ _ h => h) (Or.inl ⟨by rfl, ?_⟩) ?_ ?_
     rotate_left
     ·intro w'
      go_simp
      with_reducible rfl
     rotate_left
     ·simp only [Act.put, List.setIfInBounds_toArray, List.set_cons_zero, List.set_cons_succ, i64_w, i32_w]
      rfl
     refine take_ (i := 0) (N := (some 80)) (v := ?_) (a' := ?_) #[true, true, false, false, false, true, false, false, false] rfl rfl (take_ofW HT_.out HW_.out (by kernel_rfl)) (fun _ _ _ h => h) (Or.inl ⟨by rfl, ?_⟩) hHeld ?_ ?_
     rotate_left
     ·rintro w' ⟨s0, s1, s2, s3⟩
      go_simp
      with_reducible rfl
     rotate_left
     ·simp only [Act.put, List.setIfInBounds_toArray, List.set_cons_zero, List.set_cons_succ, i64_w, i32_w]
      rfl
     refine pure_ (i := 2) (N := (some 82)) (v := ?_) (a' := ?_) #[true, true, true, false, false, true, false, false, false] rfl rfl (any_of HT_.out (by kernel_rfl)) (fun _ _ _ h => h) (Or.inl ⟨by rfl, ?_⟩) ?_ ?_
     rotate_left
     ·intro w'
      go_simp
      with_reducible rfl
     rotate_left
     ·simp only [Act.put, List.setIfInBounds_toArray, List.set_cons_zero, List.set_cons_succ, i64_w, i32_w]
      rfl
     refine take_ (i := 3) (N := (some 83)) (v := ?_) (a' := ?_) #[true, true, true, true, false, true, false, false, false] rfl rfl (take_ofW HT_.out HW_.out (by kernel_rfl)) (fun _ _ _ h => h) (Or.inl ⟨by rfl, ?_⟩) hHeld ?_ ?_
     rotate_left
     ·rintro w' ⟨s0, s1, s2, s3⟩
      go_simp
      with_reducible rfl
     rotate_left
     ·simp only [Act.put, List.setIfInBounds_toArray, List.set_cons_zero, List.set_cons_succ, i64_w, i32_w]
      rfl
     refine take_ (i := 4) (N := (some 84)) (v := ?_) (a' := ?_) #[true, true, true, true, true, true, false, false, false] rfl rfl (take_ofW HT_.out HW_.out (by kernel_rfl)) (fun _ _ _ h => h) (Or.inl ⟨by rfl, ?_⟩) hHeld ?_ ?_
     rotate_left
     ·rintro w' ⟨s0, s1, s2, s3⟩
      go_simp
      with_reducible rfl
     rotate_left
     ·simp only [Act.put, List.setIfInBounds_toArray, List.set_cons_zero, List.set_cons_succ, i64_w, i32_w]
      rfl
     refine pure_ (i := 6) (N := (some 86)) (v := ?_) (a' := ?_) #[true, true, true, true, true, true, true, false, false] rfl rfl (any_of HT_.out (by kernel_rfl)) (fun _ _ _ h => h) (Or.inl ⟨by rfl, ?_⟩) ?_ ?_
     rotate_left
     ·intro w'
      go_simp
      with_reducible rfl
     rotate_left
     ·simp only [Act.put, List.setIfInBounds_toArray, List.set_cons_zero, List.set_cons_succ, i64_w, i32_w]
      rfl
     refine take_ (i := 7) (N := (some 87)) (v := ?_) (a' := ?_) #[true, true, true, true, true, true, true, true, false] rfl rfl (take_ofW HT_.out HW_.out (by kernel_rfl)) (fun _ _ _ h => h) (Or.inl ⟨by rfl, ?_⟩) hHeld ?_ ?_
     rotate_left
     ·rintro w' ⟨s0, s1, s2, s3⟩
      go_simp
      with_reducible rfl
     rotate_left
     ·simp only [Act.put, List.setIfInBounds_toArray, List.set_cons_zero, List.set_cons_succ, i64_w, i32_w]
      rfl
     refine pure_ (i := 8) (N := (some 88)) (v := ?_) (a' := ?_) #[true, true, true, true, true, true, true, true, true] rfl rfl (any_of HT_.out (by kernel_rfl)) (fun _ _ _ h => h) (Or.inl ⟨by rfl, ?_⟩) ?_ ?_
     rotate_left
     ·intro w'
      go_simp
      with_reducible rfl
     rotate_left
     ·simp only [Act.put, List.setIfInBounds_toArray, List.set_cons_zero, List.set_cons_succ, i64_w, i32_w]
      rfl
     refine done_ (done_of HT_.out (by kernel_rfl)) ?_
     clear q1 q2 q3 q4 HM
     obtain ⟨A2, c2, hq2, hc2⟩ := Kd.R_reads HT7.out.st
     obtain ⟨hc2, hC2⟩ := hc2
     subst hq2
     have ks : W7.cell? ⟨Z.bs, 0, none⟩ = some (.slice A2 sx.stack.length c2) := (blk_cell HT7.out.bs 0).trans rfl
     have hcI : Calls Try.prog 47 #[.slice A2 sx.stack.length c2, .int .i64 v] W7 fun e w' => e = .returned (.int .i64 k) ∧ w' = W7 := by
      rw [← hk1]; exact index_row W7 W7 A2 sx.stack.length c2 sx.stack v hC2 (fun _ _ h => h) (by omega)
     clear hk1
     obtain ⟨i0, hi0, _, hsz0, _⟩ := info_parts It.info3
     have hcut := cut_from (P := Try.prog) 26 3 .i64 Try.underlying26 hi0 1 hsz0 A2 sx.stack.length c2 (k : Int) (by omega) (by omega)
     have hcut2 := cut_to (P := Try.prog) 26 3 .i64 Try.underlying26 hi0 A2 sx.stack.length c2 (k : Int) (by omega) (by omega) hc2
     obtain ⟨A8, hA8⟩ : ∃ A8, A8 = (if c2 = (k : Int).toNat then A2 else A2.map (·.add ((k : Int).toNat * 1))) := ⟨_, rfl⟩
     have hC8 : KI.C W7 A8 (sx.stack.drop k).length (sx.stack.drop k) := by
      have h := (Kd.Q_reads' (Kd.Q_drop (Kd.Q_of_R HT7.out.st) (k := k) (by omega))).2.2
      rw [hA8, Int.toNat_natCast]; exact h
     rw [← hA8] at hcut
     rw [Int.toNat_natCast] at hcut hcut2
     clear hA8
     rw [List.length_drop] at hC8
     have hCd := Aside0.mk hC8
     clear hC8 hC2
     have hln : sx.stack.length - k ≤ 1000000 := by omega
     go_upto_region 14 with (go_at_call 47; go_loud (refine hcI.mono ?_); rintro e W8 ⟨rfl, rfl⟩)
     go_upto_region 15 with (go_at_call 48; go_loud (refine (clone_row _ A8 (sx.stack.length - k) (c2 - k) (sx.stack.drop k) hCd.out hln).mono ?_); rintro e W9 ⟨vc, rfl, hr4, hb4⟩; have HR4 := Aside0.mk hr4; have HT8 := Aside0.mk (HT7.out.later hb4); have HB4 := Aside0.mk hb4; clear hr4 hb4)
     have ks4 : W9.cell? ⟨Z.bs, 0, none⟩ = some (.slice A2 sx.stack.length c2) := (blk_cell HT8.out.bs 0).trans rfl
     have ks4f := blk_frozen HT8.out.bs 0
     clear hcut hcI ks hHeld
     go_upto_region 16 with (fail)
     have hob2 : ∀ m : Nat, (Value.slice A2 m c2).ownBlock = (Value.slice A2 sx.stack.length c2).ownBlock := fun m => by cases A2 <;> rfl
     have HT9 : Aside0 (TM w (W9.setCell ⟨Z.bs, 0, none⟩ (.slice A2 k c2)) wK B Z n B1 B2 (.slice A2 k c2) vu2 { sx with stack := sx.stack.take k }) :=
      ⟨HT8.out.push hZ (RowI.of (Kd.R_take HT8.out.st.any (by omega))) (grown_of_below (Below.refl _ _) _) (.inl (hob2 k))⟩
     have hbsB := hZ.lt Z.bs (by simp)
     have hB0 : B ≤ W8.heap.size := HT7.out.sz
     have HOU : Aside0 (Kd.S Tm.KR 26 (W9.setCell ⟨Z.bs, 0, none⟩ (.slice A2 k c2)) B (fun q => (B ≤ q ∧ some q ≠ (Value.slice A2 k c2).ownBlock) ∧ q < W8.heap.size) vu2 sx.out) :=
      ⟨Kd.S_far (Kd.S_below (Kd.S_mono (Kd.S_bound HT7.out.ou) (fun q hq => ⟨by rw [hob2]; exact hq.1, hq.2.2.1⟩)) HB4.out) (fun q hq e => by have := hq.1.1; have e' : q = Z.bs := e; omega) _⟩
     have HRC : Aside0 (RowI (W9.setCell ⟨Z.bs, 0, none⟩ (.slice A2 k c2)) W8.heap.size vc (sx.stack.drop k)) :=
      ⟨HR4.out.move (fun q hq => Below.heap_setCell _ _ _ _ (fun e => by have := Kd.R_base HR4.out q hq; have e' : q = Z.bs := e; omega))⟩
     have HST0 : Aside0 (∀ q, (Value.slice A2 k c2).ownBlock = some q → q < W8.heap.size) := ⟨fun q hq => Kd.R_lt HT7.out.st q (by rw [← hob2 k]; exact hq)⟩
     have hclsF : ∀ z ∈ sx.stack.drop k, 0 ≤ z ∧ z < (n : Int) := fun z hz => HFx.out.stk z (List.mem_of_mem_drop hz)
     have hclsl : (sx.stack.drop k).length ≤ 50000 := by rw [List.length_drop]; omega
     clear HT7 HT8 HR4 HB4 ks4 ks4f hob2 hcut2 hCd
     generalize W9.setCell ⟨Z.bs, 0, none⟩ (.slice A2 k c2) = W10b at HT9 HOU HRC ⊢
     generalize W8.heap.size = S0 at HOU HRC HST0 hB0
     obtain ⟨cls, hcls⟩ : ∃ cls, cls = sx.stack.drop k := ⟨_, rfl⟩
     rw [← hcls] at HRC hclsF hclsl
     have HCLS := Aside0.mk hcls
     clear hcls
     obtain ⟨Ac, cx, hqc⟩ := Kd.R_slice HRC.out
     subst hqc
     go_wp2
     go_loopg [101] (cls.length + 1) (fun m t wr2 => ∃ (j : Nat) (op : List Bool), t = .int .i64 j ∧ j ≤ cls.length ∧ cls.length < m + j ∧ Aside0 (TM w wr2 wK B Z n B1 B2 (.slice A2 k c2) vu2 { sx with stack := sx.stack.take k, opn := op }) ∧ Aside0 (op.length = n ∧ (cls.drop j).foldl (fun o x => o.set x.toNat false) op = cls.foldl (fun o x => o.set x.toNat false) sx.opn) ∧ Aside0 (RowI wr2 S0 (.slice Ac cls.length cx) cls ∧ Kd.S Tm.KR 26 wr2 B (fun q => (B ≤ q ∧ some q ≠ (Value.slice A2 k c2).ownBlock) ∧ q < S0) vu2 sx.out))
     case atStart => exact ⟨0, sx.opn, rfl, Nat.zero_le _, by omega, HT9, ⟨HFx.out.opn, rfl⟩, ⟨HRC.out, HOU.out⟩⟩
     case round =>
      clear HT9 HRC HOU
      obtain ⟨j, op, rfl, hj1, hj2, HT, HO, HRO⟩ := hrel
      by_cases hlt2 : j < cls.length
      ·obtain ⟨adc, hec, hcc⟩ := Kd.at_int (Kd.R_reads' HRO.out.1).2.2 (j : Int) (by omega) (by omega)
       subst hec
       rw [Int.toNat_natCast] at hcc
       obtain ⟨x, hx⟩ : ∃ x, x = rd cls (j : Int) := ⟨_, rfl⟩
       rw [← hx] at hcc
       obtain ⟨hx0, hx1⟩ := hclsF x (by rw [hx]; unfold rd; rw [List.getD_eq_getElem?_getD, List.getElem?_eq_getElem (by simpa using hlt2)]; exact List.getElem_mem _)
       have HX2 : Aside0 ((cls.drop (j + 1)).foldl (fun o x => o.set x.toNat false) (op.set x.toNat false) = cls.foldl (fun o x => o.set x.toNat false) sx.opn) := ⟨by have := HO.out.2; rw [drop_rd hlt2, ← hx] at this; exact this⟩
       have hol := HO.out.1
       have ko : wr.cell? ⟨Z.bo, 0, none⟩ = some (.slice (some ⟨Z.O, 0, none⟩) n n) := (blk_cell HT.out.bo 0).trans rfl
       have kox := bools_cell HT.out.oo x hx0 (by rw [hol]; exact hx1)
       have kof := blk_frozen HT.out.oo x.toNat
       have hltD2 : decide (j < cls.length) = true := by simpa using hlt2
       have hltI2 : decide ((j : Int) < (cls.length : Int)) = true := by simpa using hlt2
       have HOL := Aside0.mk hol
       clear hx HO hol
       obtain ⟨m2, rfl⟩ : ∃ m2, gk = m2 + 1 := ⟨gk - 1, by omega⟩
       go_wp2
       go_roundg m2
       case measure => omega
       case rel =>
        have hOB := hZ.lt Z.O (by simp)
        exact ⟨j + 1, op.set x.toNat false, by go_num, by omega, by omega, ⟨HT.out.setO hZ x.toNat false⟩, ⟨by rw [List.length_set]; exact HOL.out, HX2.out⟩,
         ⟨HRO.out.1.move (fun q hq => Below.heap_setCell _ _ _ _ (fun e => by have := Kd.R_base HRO.out.1 q hq; have e' : q = Z.O := e; omega)), Kd.S_far HRO.out.2 (fun q hq e => by have := hq.1.1; have e' : q = Z.O := e; omega) _⟩⟩
      ·obtain rfl : j = cls.length := by omega
       have hXe := HO.out.2
       rw [List.drop_length] at hXe
       have HX3 : Aside0 (op = cls.foldl (fun o x => o.set x.toNat false) sx.opn) := ⟨hXe⟩
       clear hXe HO
       have hltD2 : decide (cls.length < cls.length) = false := by simp
       go_upto_region 22 with (go_at_call 45; go_loud (refine (sort_row wr S0 _ cls HRO.out.1 (by omega)).mono ?_); rintro e W11 ⟨rfl, hr5, hg5⟩; have HR5 := Aside0.mk hr5; have HG5 := Aside0.mk hg5; clear hr5 hg5)
       have hvc : ∀ q, (Value.slice Ac cls.length cx).ownBlock = some q → S0 ≤ q := fun q hq => Kd.R_base HRO.out.1 q hq
       have HTb := Aside0.mk (HT.out.big hZ HG5.out hvc hB0 HST0.out HRO.out.2)
       have hS11 : Kd.S Tm.KR 26 W11 B (fun q => (B ≤ q ∧ some q ≠ (Value.slice A2 k c2).ownBlock) ∧ ¬ (some q = (Value.slice Ac cls.length cx).ownBlock)) vu2 sx.out :=
        Kd.S_mono (Kd.S_grown HRO.out.2 HG5.out (fun q hq e => by have := hvc q e.symm; have := hq.2; omega)) (fun q hq => ⟨hq.1, fun e => by have := hvc q e.symm; have := hq.2; omega⟩)
       have hvu : ∀ q, vu2.ownBlock = some q → B ≤ q ∧ q < S0 := fun q hq => by have := (Kd.S_R HRO.out.2).1 q hq; exact ⟨this.1.1, this.2⟩
       have hokp : ∀ q, some q = (Value.slice Ac cls.length cx).ownBlock → (B ≤ q ∧ some q ≠ (Value.slice A2 k c2).ownBlock) ∧ some q ≠ vu2.ownBlock := fun q hq => by
        have h1 := hvc q hq.symm
        exact ⟨⟨by omega, fun e => by have := HST0.out q e.symm; omega⟩, fun e => by have := (hvu q e.symm).2; omega⟩
       have hfr : ∀ q, W11.heap.size ≤ q → B ≤ q ∧ some q ≠ (Value.slice A2 k c2).ownBlock := fun q hq => ⟨by have := HTb.out.sz; omega, fun e => by have := Kd.R_lt HTb.out.st q e.symm; omega⟩
       have hMp : Tm.KR.M W11 B (fun q => some q = (Value.slice Ac cls.length cx).ownBlock) (sortI cls) [.slice Ac cls.length cx] := Kd.M_row (Kd.R_lower HR5.out hB0)
       have HSA := Aside0.mk (And.intro hS11 (And.intro hokp (And.intro hfr hMp)))
       have hub : some Z.bu ≠ vu2.ownBlock := fun e => by have := (hvu _ e.symm).1; have := hZ.lt Z.bu (by simp); omega
       have HUB := Aside0.mk hub
       have ku : W11.cell? ⟨Z.bu, 0, none⟩ = some vu2 := (blk_cell HTb.out.bu 0).trans rfl
       have hol5 : (sx.out.length + 1) * 24 ≤ 140737488355328 := by omega
       have HZ5 := Aside0.mk HTb.out.sz
       clear hvc hS11 hvu hokp hfr hMp hub HT HRO HR5 HG5
       go_wp2_with ((with_reducible refine gate_builtin (b := .append) (xs := #[.tmp 111, .tmp 113]) rfl ?_); at_builtin; go_loud (refine Kd.S_append Tm.KR (w0 := W11) B rfl (.tmp 111) (.tmp 113) 44 26 (.slice none 0 0) 24 rfl Try.underlying44 Ng.info26 rfl (by decide) (by omega) vu2 sx.out (sortI cls) [.slice Ac cls.length cx] (fun q => B ≤ q ∧ some q ≠ (Value.slice A2 k c2).ownBlock) (fun q => some q = (Value.slice Ac cls.length cx).ownBlock) rfl rfl HSA.out.2.2.2 HSA.out.2.1 HSA.out.2.2.1 HSA.out.1 ?aB ?aS hol5 ?_; (case aB => exact ⟨rfl, rfl, rfl, Nat.le_refl _, fun _ _ => rfl⟩); (case aS => exact HZ5.out)); intro v5 w5 ho hb hg hat; obtain ⟨g7, c7, rfl, _, _, _⟩ := Kd.S_form ho (by simp); have k6 := (blk_cell (blk_grown HTb.out.bu hg HUB.out) 0).trans rfl; have k6f := blk_frozen (blk_grown HTb.out.bu hg HUB.out) 0; have HT12 := Aside0.mk (HTb.out.outs hZ ho hg); clear ho hb hg hat)
       go_end0
       exact ⟨rfl, _, _, by rw [HE.out]; unfold TS.shut; rw [← HCLS.out, ← HX3.out]; have h := HT12.out; rw [show (sx.out ++ [sortI cls]).length = sx.out.length + 1 from by simp] at h; exact h⟩
end Go.Proofs.Ytlldjinejckbaaa.Vi

end
section
namespace Go.Proofs.Ytlldjinejckbaaa.Sc
open Go Go.RowKit Go.Sort Go.Shelf Go.Proofs.YtlldjinejckbaaaW.PrintWords Go.Proofs.YtlldjinejckbaaaW.PrintLast Go.Proofs.YtlldjinejckbaaaW.PrintMore
open Go.Proofs.Ytlldjinejckbaaa.It Go.Proofs.Ytlldjinejckbaaa.Mod Go.Proofs.Ytlldjinejckbaaa.Lc Go.Proofs.Ytlldjinejckbaaa.Cm Go.Proofs.Ytlldjinejckbaaa.Tj
set_option linter.unusedVariables false
set_option linter.unusedSimpArgs false
section
variable {α : Type} [Inhabited α] {enc : α → Value}
theorem heap_sortedG {w : World} {g n : Nat} {os : Array Obj} {cur : Array Value} {e : TypeId} {fr : Nat × Nat} (d : Array α) (hb : w.heap[g]? = some (.cells cur e fr)) :
  (grow (putRow enc (Sort.ahead w n) g 0 d) os).heap[g]? = some (.cells (putCells enc 0 d cur) e fr) := by
 have hg : g < w.heap.size := (Array.getElem?_eq_some_iff.1 hb).1
 rw [heap_grow_old _ _ (by simpa using hg)]
 simp [putRow, mapBlock, Sort.ahead, Array.getElem?_modify, hb, onCells]
theorem grownBy_sortedG {w : World} {g n : Nat} {os : Array Obj} (d : Array α) : w.grownBy (grow (putRow enc (Sort.ahead w n) g 0 d) os) (some g) := by
 refine ⟨rfl, rfl, rfl, by simp, fun k hk hne => ?_⟩
 rw [heap_grow_old _ _ (by simpa using hk)]
 have : g ≠ k := fun e => hne (by rw [e])
 simp [putRow, mapBlock, Sort.ahead, Array.getElem?_modify, this]
theorem take_putCellsG (cur : Array Value) (ts : List α) (h : ts.length ≤ cur.size) : (putCells enc 0 ts.toArray cur).toList.take ts.length = ts.map enc := by
 apply List.ext_getElem?
 intro j
 by_cases hj : j < ts.length
 ·rw [List.getElem?_take_of_lt hj, Array.getElem?_toList]
  simp [putCells, hj, show j < cur.size by omega]
 ·rw [List.getElem?_take_eq_none (by omega), List.getElem?_eq_none (by simp; omega)]
end
def KRr : Kd (List Int) := Kd.slice 3 (Kd.int .i64)
theorem swo_first {m : Nat} (g : Fin m → Int) (hb : ∀ i, 0 ≤ g i ∧ g i < 100000) : SWO (ltOf fun i j : Fin m => wrap64 (g i - g j)) := by
 have h : ∀ i j, ltOf (fun i j : Fin m => wrap64 (g i - g j)) i j = decide (g i < g j) := fun i j => by
  unfold ltOf
  have h1 := hb i
  have h2 := hb j
  have e : wrap64 (g i - g j) = g i - g j := by unfold wrap64; omega
  rw [decide_eq_decide]
  show wrap64 (g i - g j) < 0 ↔ _
  rw [e]
  omega
 refine ⟨fun x => by rw [h]; simp, fun x y z => by rw [h, h, h]; simp only [decide_eq_true_eq]; omega, fun x y z => by rw [h, h, h]; simp only [decide_eq_false_iff_not]; omega⟩
theorem sort_classes (W : World) (base : Nat) (v : Value) (xs : List (List Int)) (ok : Nat → Prop) (h : Kd.S KRr 26 W base ok v xs) (hne : ∀ c ∈ xs, c ≠ []) (hb : ∀ c ∈ xs, 0 ≤ rd c 0 ∧ rd c 0 < 100000)
  (hnd : (xs.map (rd · 0)).Nodup) (hs : xs.length ≤ 100000) :
  Calls Try.prog 49 #[v, .func (.func 50) #[] #[]] W fun e w' => e = .returned (.tuple #[]) ∧ Kd.S KRr 26 w' base ok v (xs.mergeSort byFirst) ∧ W.grownBy w' v.ownBlock := by
 obtain ⟨f, h0, inner, ho, hr⟩ := h
 rw [List.length_zipIdx] at ho
 rcases ho.2 with ⟨rfl, hn⟩ | ⟨g, cap, cur, rfl, hg, hbk, c1, c2, c3, c4⟩
 ·have : xs = [] := List.length_eq_zero_iff.1 hn
  subst this
  have hc := AnyF.slices_SortFunc_none Try.laysF06_f49 none 0 (.func (.func 50) #[] #[]) W
  refine Calls.mono (P := Try.prog) (f := 49) hc ?_
  rintro e w' ⟨rfl, rfl⟩
  exact ⟨rfl, by simpa using Kd.S_nil KRr 26 w' base ok, grown_of_below (Below.refl _ _) _⟩
 ·have hm0 : inner.length = xs.length := by have := hr.1; rw [List.length_zipIdx] at this; rw [this]; show xs.length * 1 = _; omega
  by_cases hx0 : xs = []
  ·subst hx0
   have hc := AnyF.slices_SortFunc_none Try.laysF06_f49 (some ⟨g, 0, none⟩) cap (.func (.func 50) #[] #[]) W
   refine Calls.mono (P := Try.prog) (f := 49) hc ?_
   rintro e w' ⟨rfl, rfl⟩
   exact ⟨rfl, by rw [show ([] : List (List Int)).mergeSort byFirst = [] from by simp]; exact ⟨f, h0, inner, ho, hr⟩, grown_of_below (Below.refl _ _) _⟩
  have hpos : 0 < xs.length := List.length_pos_iff.2 hx0
  obtain ⟨m, hm⟩ : ∃ m, m = xs.length := ⟨_, rfl⟩
  haveI : Inhabited (Fin m) := ⟨⟨0, by omega⟩⟩
  obtain ⟨enc, henc⟩ : ∃ enc : Fin m → Value, enc = fun i => inner.getD i.1 (.slice none 0 0) := ⟨_, rfl⟩
  have hel : ∀ i : Fin m, KRr.M W base (fun k => (ok k ∧ some k ≠ (Value.slice (some ⟨g, 0, none⟩) xs.length cap).ownBlock) ∧ f k = i.1) (xs.getD i.1 []) [enc i] := fun i => by
   have hi : i.1 < xs.length := by rw [← hm]; exact i.2
   have h2 := hr.2 i.1 (xs[i.1], i.1) (by rw [List.getElem?_zipIdx, List.getElem?_eq_getElem hi]; simp)
   have e1 : (inner.drop (i.1 * 1)).take 1 = [enc i] := by
    rw [henc, Nat.mul_one, List.drop_eq_getElem_cons (by omega)]
    simp only [List.getD_eq_getElem?_getD, List.getElem?_eq_getElem (show i.1 < inner.length by omega), Option.getD_some]
    rfl
   have e2 : xs.getD i.1 [] = xs[i.1] := by rw [List.getD_eq_getElem?_getD, List.getElem?_eq_getElem hi]; rfl
   rw [e2, ← e1]
   exact h2
  have hone : OneCell enc := fun i => by
   obtain ⟨u, hu, hR⟩ := hel i
   obtain ⟨A, c, hq⟩ := Kd.R_slice hR
   injection hu with hu
   rw [hu, hq]
   rfl
  have hmem : ∀ i : Fin m, xs.getD i.1 [] ∈ xs := fun i => by
   have hi : i.1 < xs.length := by rw [← hm]; exact i.2
   rw [List.getD_eq_getElem?_getD, List.getElem?_eq_getElem hi]; exact List.getElem_mem _
  obtain ⟨gf, hgf⟩ : ∃ gf : Fin m → Int, gf = fun i => rd (xs.getD i.1 []) 0 := ⟨_, rfl⟩
  have hgb : ∀ i, 0 ≤ gf i ∧ gf i < 100000 := fun i => by rw [hgf]; exact hb _ (hmem i)
  have hwrap : ∀ i j, wrap64 (gf i - gf j) = gf i - gf j := fun i j => by have := hgb i; have := hgb j; unfold wrap64; omega
  obtain ⟨d, hd⟩ : ∃ d : Array (Fin m), d = (List.finRange m).toArray := ⟨_, rfl⟩
  have hdm : d.size = m := by rw [hd]; simp
  have hdj : ∀ j (hj : j < m), d[j]! = ⟨j, hj⟩ := fun j hj => by rw [getElem!_pos d j (by omega)]; subst hd; simp
  have hH : Holds enc W g 0 d := fun j hj => by
   have hj' : j < m := by omega
   rw [hdj j hj', henc]
   refine ⟨?_, by simp [World.frozen?, hbk]⟩
   have h1 : (cur.toList.take inner.length)[j]? = inner[j]? := by rw [hm0]; have := c4; rw [show xs.length * (Kd.tag f KRr).sz = xs.length from Nat.mul_one _] at this; rw [this]
   rw [List.getElem?_take_of_lt (by omega)] at h1
   simp only [World.cell?, hbk, Nat.zero_add]
   simp only [Option.isSome_none, Bool.false_eq_true, if_false]
   rw [← Array.getElem?_toList, h1, List.getD_eq_getElem?_getD, List.getElem?_eq_getElem (by omega)]
   rfl
  have hcmp : CmpLays1 Try.prog 50 #[] enc (fun i j => wrap64 (gf i - gf j)) g 0 d.size W := fun mm os dk hs i j => by
   have hgr := grownBy_sortedG (enc := enc) (w := W) (g := g) (n := mm) (os := os) dk
   have key : ∀ i : Fin m, ∃ a n c, enc i = .slice (some a) n c ∧ 0 < n ∧ (grow (putRow enc (Sort.ahead W mm) g 0 dk) os).cell? a = some (.int .i64 (gf i)) := fun i => by
    obtain ⟨u, hu, hR⟩ := hel i
    obtain ⟨A, c, hq, hle, hC⟩ := Kd.R_reads hR
    injection hu with hu
    have hpl : 0 < (xs.getD i.1 []).length := List.length_pos_iff.2 (hne _ (hmem i))
    obtain ⟨ad, hA, hc⟩ := Kd.at_int hC 0 (by omega) (by omega)
    subst hA
    have hc0 : W.cell? ad = some (.int .i64 (gf i)) := by
     rw [Int.toNat_zero, Addr.add_zero'] at hc
     rw [hgf]; exact hc
    refine ⟨ad, _, c, by rw [hu]; exact hq, hpl, ?_⟩
    have hlt := World.block_lt_of_cell? _ _ hc0
    have hne2 : ad.block ≠ g := fun e => by
     have := hR.1 ad.block (by rw [hq]; rfl)
     exact this.1.2 (by rw [e]; rfl)
    exact (World.cell?_of_block (hgr.block _ hlt (fun e => hne2 (Option.some.inj e)))).trans hc0
   obtain ⟨a, n1, k1, e1, p1, q1⟩ := key i
   obtain ⟨b, n2, k2, e2, p2, q2⟩ := key j
   show Calls Try.prog 50 (#[enc i, enc j] ++ #[]) _ _
   rw [e1, e2]
   refine Calls.mono (first_calls a b n1 n2 k1 k2 (gf i) (gf j) p1 p2 _ q1 q2) ?_
   rintro e w' ⟨rfl, q, rfl⟩
   exact ⟨rfl, q, #[], by rw [grow_empty]⟩
  have hnd2 : ∀ i j : Fin m, gf i = gf j → i = j := fun i j hij => by
   have hi : i.1 < xs.length := by rw [← hm]; exact i.2
   have hj : j.1 < xs.length := by rw [← hm]; exact j.2
   apply Fin.ext
   have hp := List.pairwise_iff_getElem.1 hnd
   have e1 : ∀ k (hk : k < xs.length), (xs.map (rd · 0))[k]'(by simpa using hk) = rd (xs.getD k []) 0 := fun k hk => by
    rw [List.getElem_map, List.getD_eq_getElem?_getD, List.getElem?_eq_getElem hk]; rfl
   rw [hgf] at hij
   rcases Nat.lt_trichotomy i.1 j.1 with hlt | heq | hlt
   ·have := hp i.1 j.1 (by simpa using hi) (by simpa using hj) hlt
    rw [e1 _ hi, e1 _ hj] at this
    exact absurd hij this
   ·exact heq
   ·have := hp j.1 i.1 (by simpa using hj) (by simpa using hi) hlt
    rw [e1 _ hi, e1 _ hj] at this
    exact absurd hij.symm this
  have hT : ∀ i j : Fin m, ltOf (fun i j : Fin m => wrap64 (gf i - gf j)) i j = false → ltOf (fun i j : Fin m => wrap64 (gf i - gf j)) j i = false → i = j := fun i j h1 h2 => by
   unfold ltOf at h1 h2
   rw [decide_eq_false_iff_not] at h1 h2
   simp only [hwrap] at h1 h2
   exact hnd2 i j (by omega)
  have hcon := Any.slices_SortFunc_total Try.laysF6_f49 enc hone (fun i j => wrap64 (gf i - gf j)) (swo_first gf hgb) 50 #[] g 0 cap d W (enters_of Try.func50 (by kernel_rfl) rfl) hcmp hH (Array.getElem?_eq_some_iff.1 hbk).1 (by omega) hT
  have hsl : (Value.slice (some ⟨g, 0, none⟩) m cap) = .slice (some ⟨g, 0, none⟩) xs.length cap := by rw [hm]
  rw [hdm, hsl] at hcon
  refine Calls.mono (P := Try.prog) (f := 49) hcon ?_
  rintro e w' ⟨rfl, n, os, rfl⟩
  have hgr := grownBy_sortedG (enc := enc) (w := W) (g := g) (n := n) (os := os) (d.toList.mergeSort fun x y => !(ltOf fun i j : Fin m => wrap64 (gf i - gf j)) y x).toArray
  refine ⟨rfl, ?_, hgr⟩
  obtain ⟨ts, hts⟩ : ∃ ts, ts = d.toList.mergeSort fun x y => !(ltOf fun i j : Fin m => wrap64 (gf i - gf j)) y x := ⟨_, rfl⟩
  have hperm : ts.Perm (List.finRange m) := by rw [hts, hd]; exact List.mergeSort_perm _ _
  have htl : ts.length = m := by rw [hperm.length_eq]; simp
  have htn : ts.Nodup := hperm.nodup_iff.2 (List.nodup_finRange m)
  have hys : xs.mergeSort byFirst = ts.map fun i => xs.getD i.1 [] := by
   rw [hts, hd]
   rw [List.map_mergeSort (s := byFirst)]
   ·congr 1
    apply List.ext_getElem
    ·simp [hm]
    ·intro j h1 h2
     simp [List.getD_eq_getElem?_getD, List.getElem?_eq_getElem h1]
   ·intro i _ j _
    show (!decide (wrap64 (gf j - gf i) < 0)) = _
    rw [hwrap, show byFirst (xs.getD i.1 []) (xs.getD j.1 []) = decide (gf i ≤ gf j) from by rw [hgf]; rfl]
    by_cases hc : gf i ≤ gf j
    ·rw [decide_eq_true hc, decide_eq_false (by omega)]; rfl
    ·rw [decide_eq_false hc, decide_eq_true (by omega)]; rfl
  rw [hys, ← hts]
  obtain ⟨f', hf'⟩ : ∃ f' : Nat → Nat, f' = fun k => if h : f k < m then ts.idxOf ⟨f k, h⟩ else 0 := ⟨_, rfl⟩
  rw [← hts] at hgr
  refine ⟨f', h0, ts.map enc, ?_, by rw [List.length_map, List.length_zipIdx, List.length_map]; exact (Nat.mul_one _).symm, ?_⟩
  ·rw [List.length_zipIdx, List.length_map, htl]
   refine ⟨by rw [List.length_map, htl]; exact (Nat.mul_one _).symm, .inr ⟨g, cap, _, by rw [hm], hg, heap_sortedG _ hbk, by omega, c2, by rw [show cap * (Kd.tag f' KRr).sz = cur.size from c3.symm]; simp [putCells], ?_⟩⟩
   rw [show m * (Kd.tag f' KRr).sz = ts.length from by rw [htl]; exact Nat.mul_one _]
   have hcs : cur.size = cap := by rw [c3]; exact Nat.mul_one _
   exact take_putCellsG cur ts (by omega)
  ·intro j p hj
   rw [List.getElem?_zipIdx, Nat.zero_add] at hj
   obtain ⟨x, hx, rfl⟩ := Option.map_eq_some_iff.1 hj
   rw [List.getElem?_map] at hx
   obtain ⟨i, hi, rfl⟩ := Option.map_eq_some_iff.1 hx
   obtain ⟨hjl, hji⟩ := List.getElem?_eq_some_iff.1 hi
   have e1 : ((ts.map enc).drop (j * 1)).take 1 = [enc i] := by
    rw [Nat.mul_one, List.drop_eq_getElem_cons (by simpa using hjl)]
    simp [hji]
   have h2 := Kd.M_grown (hel i) hgr (fun k hk e => hk.1.2 (by rw [e]; rfl))
   show (Kd.tag f' KRr).M _ base _ _ (((ts.map enc).drop (j * 1)).take 1)
   rw [e1]
   refine KRr.M_mono (fun k hk => ⟨hk.1, ?_⟩) h2
   rw [hf']
   have hk2 : f k = i.1 := hk.2
   have hlt : f k < m := by rw [hk2]; exact i.2
   simp only [dif_pos hlt]
   have : (⟨f k, hlt⟩ : Fin m) = ts[j] := by rw [hji]; exact Fin.ext hk2
   rw [this]
   exact htn.idxOf_getElem j hjl
end Go.Proofs.Ytlldjinejckbaaa.Sc

end
section
namespace Go.Proofs.Ytlldjinejckbaaa.Co
open Go Go.RowKit Go.Proofs.YtlldjinejckbaaaW.PrintWords Go.Proofs.YtlldjinejckbaaaW.PrintLast Go.Proofs.YtlldjinejckbaaaW.PrintMore
open Go.Proofs.Ytlldjinejckbaaa.It Go.Proofs.Ytlldjinejckbaaa.Mod Go.Proofs.Ytlldjinejckbaaa.Gs Go.Proofs.Ytlldjinejckbaaa.Ng Go.Proofs.Ytlldjinejckbaaa.Rc Go.Proofs.Ytlldjinejckbaaa.Lb Go.Proofs.Ytlldjinejckbaaa.Lc Go.Proofs.Ytlldjinejckbaaa.Gi Go.Proofs.Ytlldjinejckbaaa.Cy Go.Proofs.Ytlldjinejckbaaa.Ins Go.Proofs.Ytlldjinejckbaaa.Tj Go.Proofs.Ytlldjinejckbaaa.Tm Go.Proofs.Ytlldjinejckbaaa.Vi Go.Proofs.Ytlldjinejckbaaa.Sc Go.Proofs.Ytlldjinejckbaaa.PD
set_option linter.unusedVariables false
set_option linter.unusedSimpArgs false
structure Two (W wc : World) (bn bl N L n : Nat) : Prop where
 hn : wc.heap[bn]? = some (.cells #[.slice (some ⟨N, 0, none⟩) n n] 26 (0, 0))
 hl : wc.heap[bl]? = some (.cells #[.slice (some ⟨L, 0, none⟩) n n] 26 (0, 0))
 nN : wc.heap[N]? = some (.cells (madeCells #[.int .i64 0] n) 3 (0, 0))
 lL : wc.heap[L]? = some (.cells (madeCells #[.int .i64 0] n) 3 (0, 0))
 ne1 : N ≠ L
 ne2 : bn ≠ bl
 b1 : W.heap.size ≤ bn
 b2 : W.heap.size ≤ bl
 b3 : W.heap.size ≤ N
 b4 : W.heap.size ≤ L
 be : Below W.heap.size W wc
theorem alloc6 (w : World) (o0 o1 o2 o3 o4 o5 : Obj) : ∀ w', w' = (((((w.alloc o0).alloc o1).alloc o2).alloc o3).alloc o4).alloc o5 → w'.heap[w.heap.size]? = some o0 ∧ w'.heap[w.heap.size + 1]? = some o1 ∧ w'.heap[w.heap.size + 1 + 1]? = some o2 ∧
  w'.heap[w.heap.size + 1 + 1 + 1]? = some o3 ∧ w'.heap[w.heap.size + 1 + 1 + 1 + 1]? = some o4 ∧ w'.heap[w.heap.size + 1 + 1 + 1 + 1 + 1]? = some o5 ∧ Below w.heap.size w w' ∧ w'.heap.size = w.heap.size + 6 := by
 rintro w' rfl
 have a0 := blk_new w o0
 have a1 := blk_new (w.alloc o0) o1
 have a2 := blk_new ((w.alloc o0).alloc o1) o2
 have a3 := blk_new (((w.alloc o0).alloc o1).alloc o2) o3
 have a4 := blk_new ((((w.alloc o0).alloc o1).alloc o2).alloc o3) o4
 have a5 := blk_new (((((w.alloc o0).alloc o1).alloc o2).alloc o3).alloc o4) o5
 simp only [World.size_alloc] at a1 a2 a3 a4 a5
 exact ⟨blk_alloc (blk_alloc (blk_alloc (blk_alloc (blk_alloc a0 _) _) _) _) _, blk_alloc (blk_alloc (blk_alloc (blk_alloc a1 _) _) _) _, blk_alloc (blk_alloc (blk_alloc a2 _) _) _, blk_alloc (blk_alloc a3 _) _, blk_alloc a4 _, a5,
  below_alloc (below_alloc (below_alloc (below_alloc (below_alloc (below_alloc (Below.refl _ _) _) _) _) _) _) _, by simp⟩
theorem madeB (n : Nat) : madeCells #[(.bool false : Value)] n = ((List.replicate n false).map Value.bool).toArray := by
 apply Array.ext
 ·simp [madeCells]
 ·intro i h1 h2
  simp [madeCells, Nat.mod_one]
set_option maxHeartbeats 4000000 in
set_option maxRecDepth 100000 in
theorem Components_calls (n : Nat) (hn : n ≤ 1000) (A1 : Option Addr) (c1 : Nat) (l1 : List S55) (r : List (List Int)) (w : World) (hr1 : Kd.C k55 w A1 l1.length l1) (hc1 : l1.length ≤ c1) (hl : l1.length ≤ 10000)
  (hv : ∀ e ∈ l1, 0 ≤ e.f0 ∧ e.f0 < n ∧ 0 ≤ e.f1 ∧ e.f1 < n) (h : compsOf (tidy (built n l1 true)) n = some r) :
  Calls Try.prog 27 #[.int .i64 n, .slice A1 l1.length c1] w fun e w' => ∃ v, e = .returned v ∧ Kd.S KRr 26 w' w.heap.size (fun _ => True) v r ∧ Below w.heap.size w w' := by
 have HH := Aside0.mk h
 clear h
 have hmk := print_make_int (P := Try.prog) 26 3 (.int .i64 0) 8 Try.underlying26 It.info3 rfl (by omega) (n : Int) (by omega) (by simp; omega)
 have hmkb := print_make_int (P := Try.prog) 49 4 (.bool false) 1 Try.underlying49 info4 rfl (by omega) (n : Int) (by omega) (by simp; omega)
 rw [Int.toNat_natCast] at hmk hmkb
 go_enter Try.func27, Try.ntmps27
 go_upto_region 2 with (go_at_call 44; refine (newGraph_calls n hn A1 c1 l1 _ hr1 hc1 hl hv).mono ?_; rintro e W1 ⟨B1, B2, rfl, ⟨wK, hp, hk1, hk2⟩, hb⟩; have HP := Aside0.mk hp; have HK := Aside0.mk (And.intro hk1 hk2); have HB := Aside0.mk hb; clear hp hk1 hk2 hb)
 have hG : Aside0 ((W1.alloc (.cells #[.slice (some ⟨B1, 0, none⟩) n n, .slice (some ⟨B2, 0, none⟩) n n] 73)).heap[W1.heap.size]? = some (.cells #[.slice (some ⟨B1, 0, none⟩) n n, .slice (some ⟨B2, 0, none⟩) n n] 73 (0, 0)) ∧ Below W1.heap.size W1 (W1.alloc (.cells #[.slice (some ⟨B1, 0, none⟩) n n, .slice (some ⟨B2, 0, none⟩) n n] 73)) ∧ (W1.alloc (.cells #[.slice (some ⟨B1, 0, none⟩) n n, .slice (some ⟨B2, 0, none⟩) n n] 73)).heap.size = W1.heap.size + 1) :=
  ⟨blk_new _ _, below_alloc (Below.refl _ _) _, by simp⟩
 generalize W1.alloc (.cells #[.slice (some ⟨B1, 0, none⟩) n n, .slice (some ⟨B2, 0, none⟩) n n] 73) = W2 at hG ⊢
 have HVL := Aside0.mk hv
 clear hmkb hr1 hv
 go_cut [6, 7] (fun v6 v7 wc => ∃ (bn bl N L : Nat), v6 = .pointer (some ⟨bn, 0, none⟩) ∧ v7 = .pointer (some ⟨bl, 0, none⟩) ∧ Aside0 (Two W2 wc bn bl N L n))
 case first =>
  go_region
  all_goals
   go_wp2
   go_meet
   case rel =>
    obtain ⟨h0, h1, h2, h3, hb⟩ := alloc4 W2 _ _ _ _
    refine ⟨_, _, ?_, ?_, rfl, rfl, ?_⟩
    rotate_left 2
    refine ⟨⟨?_, ?_, ?_, ?_, ?_, ?_, ?_, ?_, ?_, ?_, ?_⟩⟩
    all_goals first | exact h0 | exact h1 | exact h2 | exact h3 | exact hb | omega
 case rest =>
  obtain ⟨bn, bl, N, L, rfl, rfl, H2⟩ := hcut
  have hmkb := print_make_int (P := Try.prog) 49 4 (.bool false) 1 Try.underlying49 info4 rfl (by omega) (n : Int) (by omega) (by simp; omega)
  rw [Int.toNat_natCast] at hmkb
  go_upto_region 9 with (fail)
  generalize hW3 : ((((((wc.alloc _).alloc _).alloc _).alloc _).alloc _).alloc _) = W3
  obtain ⟨a0, a1, a2, a3, a4, a5, hb3, hs3⟩ := alloc6 wc _ _ _ _ _ _ W3 hW3.symm
  have HX0 : Aside0 (∃ (Z : Bl) (B : Nat), Z = ⟨wc.heap.size + 1 + 1 + 1 + 1, bn, bl, wc.heap.size + 1, wc.heap.size + 1 + 1, W1.heap.size, wc.heap.size + 1 + 1 + 1 + 1 + 1, wc.heap.size + 1 + 1 + 1, N, L, wc.heap.size⟩ ∧ Z.Lies w B ∧ TM w W3 wK B Z n B1 B2 (.slice none 0 0) (.slice none 0 0) (Tj.start n)) := ⟨by
   have h2 := H2.out
   have hg := hG.out
   have hz2 := hg.2.2
   have hz1 : w.heap.size ≤ W1.heap.size := HB.out.size
   have hz3 := h2.be.size
   have l1' := blk_lt h2.hn
   have l2' := blk_lt h2.hl
   have l3' := blk_lt h2.nN
   have l4' := blk_lt h2.lL
   have b1 := h2.b1; have b2 := h2.b2; have b3 := h2.b3; have b4 := h2.b4
   have hk : ∀ {k : Nat} {o : Obj}, wc.heap[k]? = some o → W3.heap[k]? = some o := fun hk => (hb3.block _ (blk_lt hk)).trans hk
   refine ⟨_, wc.heap.size + 6, rfl, ⟨fun k hk => ?_, ?_, ?_, h2.ne1, h2.ne2, ?_, ?_⟩, ?_⟩
   ·simp only at hk
    omega
   ·simp only; omega
   ·simp only; omega
   ·simp only; omega
   ·simp only; omega
   ·refine ⟨a4, hk h2.hn, by have := hk h2.nN; rw [made0] at this; exact this, hk h2.hl, by have := hk h2.lL; rw [made0] at this; exact this, a1, by rw [madeB] at a0; exact a0, a2, RowI.of (Kd.R_nil KI 3 _ _ (fun _ => True)), hk ((h2.be.block _ (blk_lt hg.1)).trans hg.1), a5, a3, Kd.S_nil _ _ _ _ _, fun a v e => ?_, ?_, by omega⟩
    ·obtain ⟨p1, p2, p3⟩ := HP.out a v e
     simp only
     exact ⟨by omega, pw_cell_below hb3 (pw_cell_below h2.be (pw_cell_below hg.2.1 p3))⟩
    ·exact HB.out.trans ((hg.2.1.trans ((h2.be.mono (by omega)).trans (hb3.mono (by omega)))).mono hz1)⟩
  obtain ⟨Z, B, hZe, hZ, hT⟩ := HX0.out
  have e1 : wc.heap.size + 1 + 1 + 1 + 1 + 1 = Z.bf := by rw [hZe]
  have e2 : wc.heap.size + 1 + 1 + 1 + 1 = Z.bc := by rw [hZe]
  have e3 : wc.heap.size + 1 + 1 + 1 = Z.bu := by rw [hZe]
  have e4 : wc.heap.size + 1 + 1 = Z.bs := by rw [hZe]
  have e5 : wc.heap.size + 1 = Z.bo := by rw [hZe]
  have e6 : W1.heap.size = Z.gb := by rw [hZe]
  have e7 : bn = Z.bn := by rw [hZe]
  have e8 : bl = Z.bl := by rw [hZe]
  rw [e1, e2, e3, e4, e5, e6, e7, e8]
  have HT0 := Aside0.mk hT
  clear e1 e2 e3 e4 e5 e6 e7 e8 hT hZe HX0 a0 a1 a2 a3 a4 a5 hb3 hs3 hW3 H2 hmkb hG HB hmk
  obtain ⟨rows, hrows⟩ : ∃ rows, rows = tidy (built n l1 true) := ⟨_, rfl⟩
  have hN : rows.length = n := by rw [hrows, tidy_length, built_length]
  have hfits : Fits rows := by rw [hrows]; exact fits_tidy HVL.out true
  have hlens : ∀ r ∈ rows, r.length ≤ 10000 := by rw [hrows]; intro r hr; have := len_tidy n l1 true r hr; omega
  have hkk := HK.out.1
  rw [← hrows] at hkk
  obtain ⟨se, hse, hfe, hre⟩ : ∃ se, visitAll rows n n (Tj.start n) = some se ∧ fine se.out = true ∧ r = se.out.mergeSort byFirst := by
   have h := HH.out
   rw [← hrows] at h
   unfold compsOf at h
   split at h
   ·exact absurd h (by simp)
   ·rename_i se hse
    split at h
    ·rename_i hf; exact ⟨se, hse, hf, (Option.some.inj h).symm⟩
    ·exact absurd h (by simp)
  have HSE := Aside0.mk hse
  have HFE := Aside0.mk (And.intro hfe hre)
  have HF0 : Aside0 (Fit (Tj.start n) n) := ⟨⟨by simp [Tj.start], by simp [Tj.start], by simp [Tj.start], fun x hx => by simp [Tj.start] at hx⟩⟩
  have HKK := Aside0.mk (And.intro hkk (And.intro hfits hlens))
  clear hrows hse hfe hre hkk HK HP HH hfits hlens
  go_wp2
  go_loopg [25] (n + 1) (fun m t wr => ∃ (i : Nat) (vs vu : Value) (s : TS), t = .int .i64 i ∧ i ≤ n ∧ n < m + i ∧ Aside0 (TM w wr wK B Z n B1 B2 vs vu s) ∧ Aside0 (Fit s n) ∧ Aside0 (visitAll rows n (n - i) s = some se))
  case atStart => exact ⟨0, _, _, Tj.start n, rfl, Nat.zero_le _, by omega, HT0, HF0, HSE⟩
  case round =>
   clear HT0 HF0 HSE
   obtain ⟨i, vs, vu, s, rfl, hi1, hi2, HM, HF, HR⟩ := hrel
   by_cases hlt : i < n
   ·have kn : wr.cell? ⟨Z.bn, 0, none⟩ = some (.slice (some ⟨Z.N, 0, none⟩) n n) := (blk_cell HM.out.bn 0).trans rfl
    have kx := ints_cell HM.out.nn (i : Int) (by omega) (by rw [HF.out.num]; omega)
    rw [Int.toNat_natCast] at kx
    have hltI : decide ((i : Int) < (n : Int)) = true := by simpa using hlt
    have hltD : decide (i < n) = true := by simpa using hlt
    obtain ⟨k, hk⟩ : ∃ k, n - i = k + 1 := ⟨n - i - 1, by omega⟩
    have HV : Aside0 ((if rd s.num (i : Int) = 0 then (match visit rows (n + 1) (i : Int) s with
     | some s' => visitAll rows n k s'
     | none => none) else visitAll rows n k s) = some se) := ⟨by
      have h := HR.out
      rw [hk] at h
      unfold visitAll at h
      rw [show n - (k + 1) = i from by omega] at h
      exact h⟩
    have hk2 : n - (i + 1) = k := by omega
    have HK2 := Aside0.mk hk2
    clear hk hk2 HR
    obtain ⟨m1, rfl⟩ : ∃ m1, gk = m1 + 1 := ⟨gk - 1, by omega⟩
    by_cases hz : rd s.num (i : Int) = 0
    ·obtain ⟨sy, hvx, hgo⟩ : ∃ sy, visit rows (n + 1) (i : Int) s = some sy ∧ visitAll rows n k sy = some se := by
      have h := HV.out
      rw [if_pos hz] at h
      split at h
      ·rename_i sy h1; exact ⟨sy, h1, h⟩
      ·exact absurd h (by simp)
     have HFy := Aside0.mk (fit_visit HKK.out.2.1 hN (n + 1) (i : Int) s sy (by omega) (by omega) HF.out hvx)
     have HGo := Aside0.mk hgo
     have hcon := visit_calls n hn B1 B2 B Z rows hN HKK.out.2.1 HKK.out.2.2 w wK hZ HKK.out.1 (n + 1) (i : Int) s sy wr vs vu (by omega) (by omega) HF.out HM.out hvx
     unfold Bl.ptrs at hcon
     simp only [List.append_toArray, List.cons_append, List.nil_append] at hcon
     have kfn : wr.cell? ⟨Z.bf, 0, none⟩ = some (.func (.func 46) #[] #[.pointer (some ⟨Z.bc, 0, none⟩), .pointer (some ⟨Z.bn, 0, none⟩), .pointer (some ⟨Z.bl, 0, none⟩), .pointer (some ⟨Z.bo, 0, none⟩), .pointer (some ⟨Z.bs, 0, none⟩), .pointer (some ⟨Z.gb, 0, none⟩), .pointer (some ⟨Z.bf, 0, none⟩), .pointer (some ⟨Z.bu, 0, none⟩)]) := (blk_cell HM.out.f 0).trans rfl
     rw [hz] at kx
     clear hz hvx hgo HV
     go_wp2_with (go_at_call 46; go_loud (refine hcon.mono ?_); rintro e W6c ⟨rfl, vs3, vu3, hM3⟩; have HM3 := Aside0.mk hM3; clear hM3)
     go_roundg m1
     case measure => omega
     case rel => exact ⟨i + 1, vs3, vu3, sy, by go_num, by omega, by omega, HM3, HFy, ⟨by rw [HK2.out]; exact HGo.out⟩⟩
    ·have HGo : Aside0 (visitAll rows n k s = some se) := ⟨by have h := HV.out; rw [if_neg hz] at h; exact h⟩
     have hzb : (rd s.num (i : Int) == 0) = false := by simpa using hz
     clear hz HV
     go_wp2
     go_roundg m1
     case measure => omega
     case rel => exact ⟨i + 1, vs, vu, s, by go_num, by omega, by omega, HM, HF, ⟨by rw [HK2.out]; exact HGo.out⟩⟩
   ·obtain rfl : i = n := by omega
    have hse : s = se := by
     have h := HR.out
     rw [Nat.sub_self] at h
     unfold visitAll at h
     exact Option.some.inj h
    subst hse
    clear HR
    have hltI : decide ((i : Int) < (i : Int)) = false := by simp
    have hltD : decide (i < i) = false := by simp
    have ku : wr.cell? ⟨Z.bu, 0, none⟩ = some vu := (blk_cell HM.out.bu 0).trans rfl
    have hfe := HFE.out.1
    unfold fine at hfe
    simp only [Bool.and_eq_true, List.all_eq_true, decide_eq_true_eq, Bool.not_eq_true', List.isEmpty_eq_false_iff] at hfe
    have hsc := sort_classes wr B vu s.out (fun k => B ≤ k ∧ some k ≠ vs.ownBlock) HM.out.ou (fun c hc => (hfe.1.1 c hc).1.1) (fun c hc => ⟨(hfe.1.1 c hc).1.2, (hfe.1.1 c hc).2⟩) hfe.1.2 hfe.2
    have hub : some Z.bu ≠ vu.ownBlock := fun e => by have := (Kd.S_R HM.out.ou).1 _ e.symm; have := hZ.lt Z.bu (by simp); omega
    have HUB := Aside0.mk hub
    clear hub hfe
    obtain ⟨Au, cu, hqu⟩ := Kd.S_slice HM.out.ou
    subst hqu
    go_wp2_with (go_at_call 49; go_loud (refine hsc.mono ?_); rintro e W7 ⟨rfl, hS7, hg7⟩; have HS7 := Aside0.mk hS7; have HG7 := Aside0.mk hg7; have ku7 := (blk_cell (blk_grown HM.out.bu hg7 HUB.out) 0).trans rfl; clear hS7 hg7)
    refine bodyPost_ret (results_tmp rfl _ _ _) rfl ⟨_, rfl, ?_, ?_⟩
    ·rw [HFE.out.2]
     have hlt := hZ.lt Z.bu (by simp)
     exact Kd.S_mono (Kd.S_lower HS7.out (by omega)) (fun _ _ => trivial)
    ·have hlt := hZ.lt Z.bu (by simp)
     exact HM.out.be.grown HG7.out HM.out.be.size (fun k e => by have := (Kd.S_R HM.out.ou).1 k e; omega)
end Go.Proofs.Ytlldjinejckbaaa.Co

end
section
namespace Go.Proofs.Ytlldjinejckbaaa.PD
open Go.RowKit Go.Proofs.YtlldjinejckbaaaW.PrintWords Go.Proofs.YtlldjinejckbaaaW.PrintLast Go.Proofs.YtlldjinejckbaaaW.PrintMore
attribute [local go_sem] max2_int min2_int max_two min_two max_three min_three max_four min_four
set_option linter.unusedVariables false
set_option linter.unusedSimpArgs false
def digraph_Components.f (a0 : Int) (l1 : List (S55)) : Option ((List (List Int))) := if 0 ≤ a0 ∧ a0 ≤ 1000 ∧ l1.length ≤ 10000 ∧ ∀ e ∈ l1, 0 ≤ e.f0 ∧ e.f0 < a0 ∧ 0 ≤ e.f1 ∧ e.f1 < a0 then Tj.compsOf (Ng.tidy (Ng.built a0.toNat l1 true)) a0.toNat else none
theorem digraph_Components.calls (a0 : Int) (A1 : Option Addr) (c1 : Nat) (l1 : List (S55)) (r : List (List Int)) (w : World) (hr1 : Kd.C k55 w A1 l1.length l1) (hc1 : l1.length ≤ c1) (h : digraph_Components.f a0 l1 = some r) :
  Calls Try.prog 27 #[.int .i64 a0, .slice A1 l1.length c1] w fun e w' => ∃ v0_ : Value, e = .returned (v0_) ∧ Kd.S (Kd.slice 3 (Kd.int .i64)) 26 w' w.heap.size (fun _ => True) v0_ r ∧ Below w.heap.size w w' := by
 unfold digraph_Components.f at h
 split at h
 ·rename_i hp
  obtain ⟨n, rfl⟩ := Int.eq_ofNat_of_zero_le hp.1
  rw [Int.toNat_natCast] at h
  exact Co.Components_calls n (by omega) A1 c1 l1 r w hr1 hc1 hp.2.2.1 hp.2.2.2 h
 ·cases h
end Go.Proofs.Ytlldjinejckbaaa.PD

end
section
namespace Go.Proofs.Ytlldjinejckbaaa.PD
open Go.RowKit Go.Proofs.YtlldjinejckbaaaW.PrintWords Go.Proofs.YtlldjinejckbaaaW.PrintLast Go.Proofs.YtlldjinejckbaaaW.PrintMore
attribute [local go_sem] max2_int min2_int max_two min_two max_three min_three max_four min_four
set_option linter.unusedVariables false
set_option linter.unusedSimpArgs false
mutual
def digraph_Valid.j0 : Nat → Int → List (S55) → Bool → Option (Bool)
 | 0, _, _, _ => none
 | k + 1, x0, x1, x17 => if x17 = true then (some false) else (digraph_Valid.l0 k x0 x1 (x1.length : Int) 0)
def digraph_Valid.l0 : Nat → Int → List (S55) → Int → Int → Option (Bool)
 | 0, _, _, _, _ => none
 | k + 1, x0, x18, x19, x20 => if x20 < x19 then (if 0 ≤ x20 then (if x20 < (x18.length : Int) then (if (mn ((rd_T55 x18 x20).f0) ((rd_T55 x18 x20).f1)) < 0 then (some false) else (if (mx ((rd_T55 x18 x20).f0) ((rd_T55 x18 x20).f1)) ≥ x0 then (some false) else (digraph_Valid.l0 k x0 x18 x19 (wrap64 (x20 + 1))))) else (none)) else (none)) else (some true)
end
def digraph_Valid.f (k : Nat) (a0 : Int) (l1 : List (S55)) : Option (Bool) := if a0 < 0 then (digraph_Valid.j0 k a0 l1 true) else (if a0 > 200 then (digraph_Valid.j0 k a0 l1 true) else (digraph_Valid.j0 k a0 l1 (decide ((l1.length : Int) > 2000))))
theorem digraph_Valid.mono_l : ∀ k, (∀ y0 y1 y2, LeO (digraph_Valid.j0 k y0 y1 y2) (digraph_Valid.j0 (k + 1) y0 y1 y2)) ∧ (∀ y0 y1 y2 y3, LeO (digraph_Valid.l0 k y0 y1 y2 y3) (digraph_Valid.l0 (k + 1) y0 y1 y2 y3))
 | 0 => ⟨fun _ _ _ r h => by simp [digraph_Valid.j0] at h, fun _ _ _ _ r h => by simp [digraph_Valid.l0] at h⟩
 | k + 1 => by
  obtain ⟨ih0, ih1⟩ := digraph_Valid.mono_l k
  refine ⟨?_, ?_⟩
  ·intro y0 y1 y2
   unfold digraph_Valid.j0
   repeat' first
   | (with_reducible exact ih0 _ _ _)
   | (with_reducible exact ih1 _ _ _ _)
   | (with_reducible exact LeO.refl _)
   | (with_reducible exact LeO.none _)
   | (with_reducible refine LeO.ite ?_ ?_)
   | (with_reducible refine LeO.bind ?_ (fun _ => ?_))
   | exact ih0 _ _ _
   | exact ih1 _ _ _ _
   | exact LeO.none _
   | refine LeO.ite ?_ ?_
   | refine LeO.bind ?_ (fun _ => ?_)
  ·intro y0 y1 y2 y3
   unfold digraph_Valid.l0
   repeat' first
   | (with_reducible exact ih0 _ _ _)
   | (with_reducible exact ih1 _ _ _ _)
   | (with_reducible exact LeO.refl _)
   | (with_reducible exact LeO.none _)
   | (with_reducible refine LeO.ite ?_ ?_)
   | (with_reducible refine LeO.bind ?_ (fun _ => ?_))
   | exact ih0 _ _ _
   | exact ih1 _ _ _ _
   | exact LeO.none _
   | refine LeO.ite ?_ ?_
   | refine LeO.bind ?_ (fun _ => ?_)
theorem digraph_Valid.mono : ∀ a0 a1 k, LeO (digraph_Valid.f k a0 a1) (digraph_Valid.f (k + 1) a0 a1) := by
 intro a0 a1 k
 obtain ⟨ih0, ih1⟩ := digraph_Valid.mono_l k
 unfold digraph_Valid.f
 repeat' first
   | (with_reducible exact ih0 _ _ _)
   | (with_reducible exact ih1 _ _ _ _)
   | (with_reducible exact LeO.refl _)
   | (with_reducible exact LeO.none _)
   | (with_reducible refine LeO.ite ?_ ?_)
   | (with_reducible refine LeO.bind ?_ (fun _ => ?_))
   | exact ih0 _ _ _
   | exact ih1 _ _ _ _
   | exact LeO.none _
   | refine LeO.ite ?_ ?_
   | refine LeO.bind ?_ (fun _ => ?_)
set_option maxHeartbeats 8000000 in
set_option maxRecDepth 100000 in
theorem digraph_Valid.calls (k : Nat) (a0 : Int) (A1 : Option Addr) (c1 : Nat) (l1 : List (S55)) (r : Bool) (w : World) (hr1 : Kd.C k55 w A1 l1.length l1) (hc1 : l1.length ≤ c1) (h : digraph_Valid.f k a0 l1 = some r) :
  Calls Try.prog 12 #[.int .i64 a0, .slice A1 l1.length c1] w fun e w' => e = .returned (.bool r) ∧ Below w.heap.size w w' := by
 have hu55 := Try.underlying55
 have HR1 := Aside0.mk hr1
 have HC1 := Aside0.mk hc1
 clear hr1 hc1
 have HB := Aside0.mk (Below.refl w.heap.size w)
 have H : (if a0 < 0 then (digraph_Valid.j0 k a0 l1 true) else (if a0 > 200 then (digraph_Valid.j0 k a0 l1 true) else (digraph_Valid.j0 k a0 l1 (decide ((l1.length : Int) > 2000))))) = some r := h
 clear h
 have HC3 := Aside0.mk H
 clear H
 go_enter Try.func12, Try.ntmps12
 go_upto_region 1 with (fail)
 go_cut [17] (fun v17 wc => ∃ (kq : Nat) (x17_2 : Bool), v17 = .bool x17_2 ∧ Aside0 (digraph_Valid.j0 kq a0 l1 x17_2 = some r) ∧ Aside0 (kq ≤ k) ∧ Aside0 (Below w.heap.size w wc))
 case first =>
  have H := HC3.out
  clear HC3
  by_cases c4 : a0 < 0
  ·rw [if_pos c4] at H
   have c4b0 : decide (a0 < 0) = true := decide_eq_true c4
   clear c4
   (first | rw [c4b0] | (simp only [i64_w, i32_w]; rw [c4b0]) | skip)
   have H' := Aside0.mk H
   clear H
   go_wp2
   go_meet
   case rel => exact ⟨_, (true), (by first | rfl | (simp; done) | (simp [*]; done)), H', ⟨by first | omega | exact Nat.le_refl _⟩, ⟨by repeat (first | (with_reducible first | exact HB.out | apply below_alloc | apply pw_below_drewN | apply below_drew1) | exact HB.out)⟩⟩
  ·rw [if_neg c4] at H
   have c4b0 : decide (a0 < 0) = false := decide_eq_false c4
   clear c4
   (first | rw [c4b0] | (simp only [i64_w, i32_w]; rw [c4b0]) | skip)
   by_cases c5 : a0 > 200
   ·rw [if_pos c5] at H
    have c5b0 : decide (200 < a0) = true := decide_eq_true c5
    clear c5
    have H' := Aside0.mk H
    clear H
    go_wp2
    go_meet
    case rel => exact ⟨_, (true), (by first | rfl | (simp; done) | (simp [*]; done)), H', ⟨by first | omega | exact Nat.le_refl _⟩, ⟨by repeat (first | (with_reducible first | exact HB.out | apply below_alloc | apply pw_below_drewN | apply below_drew1) | exact HB.out)⟩⟩
   ·rw [if_neg c5] at H
    have c5b0 : decide (200 < a0) = false := decide_eq_false c5
    clear c5
    have H' := Aside0.mk H
    clear H
    go_wp2
    go_meet
    case rel => exact ⟨_, (decide ((l1.length : Int) > 2000)), (by first | rfl | (simp; done) | (simp [*]; done)), H', ⟨by first | omega | exact Nat.le_refl _⟩, ⟨by repeat (first | (with_reducible first | exact HB.out | apply below_alloc | apply pw_below_drewN | apply below_drew1) | exact HB.out)⟩⟩
 case rest =>
  clear HC3
  try clear c1
  try clear p2
  try clear c4
  try clear c4b0
  try clear c5
  try clear c5b0
  obtain ⟨kq, x17_2, rfl, HA, HJ2, HB⟩ := hcut
  cases kq with
  | zero => exact absurd HA.out (by simp [digraph_Valid.j0])
  | succ kj2 =>
   have H := HA.out
   clear HA
   simp only [digraph_Valid.j0] at H
   by_cases c6 : x17_2 = true
   ·subst c6
    have H1 : (some false) = some r := by rw [if_pos rfl] at H; exact H
    clear H
    have H := H1
    clear H1
    obtain rfl := Option.some.inj H
    go_wp2
    go_ret
    exact ⟨by first | rfl | (simp [errW_none, errW_some] <;> rfl) | (simp [*, errW_none, errW_some] <;> rfl), by repeat (first | (with_reducible first | exact HB.out | apply below_alloc | apply pw_below_drewN | apply below_drew1) | exact HB.out)⟩
   ·replace c6 := Bool.eq_false_iff.mpr c6
    subst c6
    have H1 : (digraph_Valid.l0 kj2 a0 l1 (l1.length : Int) 0) = some r := by rw [if_neg (show ¬ (false = true) by decide)] at H; exact H
    clear H
    have H := H1
    clear H1
    have H' := Aside0.mk H
    clear H
    go_wp2
    go_loopg [20] kj2 (fun kq v20 w' => ∃ (x20_2 : Int), v20 = .int .i64 x20_2 ∧ Aside0 (digraph_Valid.l0 kq a0 l1 (l1.length : Int) x20_2 = some r) ∧ Aside0 (kq ≤ kj2) ∧ Aside0 (Below w.heap.size w w'))
    case atStart => exact ⟨(0), (by first | rfl | (simp; done) | (simp [*]; done)), H', ⟨Nat.le_refl _⟩, ⟨by repeat (first | (with_reducible first | exact HB.out | apply below_alloc | apply pw_below_drewN | apply below_drew1) | exact HB.out)⟩⟩
    case round =>
     clear H'
     try clear c1
     try clear p2
     try clear c4
     try clear c4b0
     try clear c5
     try clear c5b0
     try clear c6
     try clear p2
     obtain ⟨x20_2, rfl, HA, HK2, HB⟩ := hrel
     cases gk with
     | zero => exact absurd HA.out (by simp [digraph_Valid.l0])
     | succ k2 =>
      have H := HA.out
      clear HA
      simp only [digraph_Valid.l0] at H
      by_cases c7 : x20_2 < (l1.length : Int)
      ·rw [if_pos c7] at H
       have c7b0 : decide (x20_2 < (l1.length : Int)) = true := decide_eq_true c7
       clear c7
       by_cases c8 : 0 ≤ x20_2
       ·rw [if_pos c8] at H
        have c8b0 : decide (0 ≤ x20_2) = true := decide_eq_true c8
        clear c8
        by_cases c9 : x20_2 < (l1.length : Int)
        ·rw [if_pos c9] at H
         have c9b0 : decide (x20_2 < (l1.length : Int)) = true := decide_eq_true c9
         clear c9
         obtain ⟨ji10, hji10⟩ : ∃ j_ : Int, (mn ((rd_T55 l1 x20_2).f0) ((rd_T55 l1 x20_2).f1)) = j_ := ⟨_, rfl⟩
         replace H : (if (ji10) < 0 then (some false) else (if (mx ((rd_T55 l1 x20_2).f0) ((rd_T55 l1 x20_2).f1)) ≥ a0 then (some false) else (digraph_Valid.l0 k2 a0 l1 (l1.length : Int) (wrap64 (x20_2 + 1))))) = some r := by first | (rw [hji10] at H; exact H) | (simp only [hji10] at H ⊢; exact H)
         have hji10_ : (if ((rd_T55 l1 x20_2).f1) < ((rd_T55 l1 x20_2).f0) then ((rd_T55 l1 x20_2).f1) else ((rd_T55 l1 x20_2).f0)) = ji10 := hji10
         by_cases c11 : (ji10) < 0
         ·rw [if_pos c11] at H
          have c11b0 : decide ((ji10) < 0) = true := decide_eq_true c11
          clear c11
          obtain rfl := Option.some.inj H
          have p101 : 0 ≤ (x20_2 : Int) := of_decide_eq_true (by first | (with_reducible assumption) | assumption)
          have q101 : x20_2 < (l1.length : Int) := of_decide_eq_true (by first | (with_reducible assumption) | assumption)
          obtain ⟨ad101, e101, hx101_0, hx101_1⟩ := at_T55 HR1.out x20_2 p101 q101
          cases e101
          (try (replace hx101_0 := (HB.out.cell (World.block_lt_of_cell? w _ hx101_0)).trans hx101_0))
          (try (replace hx101_1 := (HB.out.cell (World.block_lt_of_cell? w _ hx101_1)).trans hx101_1))
          replace p101 := eq_true p101
          replace q101 := eq_true q101
          go_wp2_with (first | ((with_reducible refine gate_dst (N := 6) rfl ?_); (try (refine gate_guard (by rfl) ?_; dsimp only)); refine box_event ?hg (N := 6) ?hd (cs := #[.int .i64 0, .int .i64 0]) (t := 55) ?hr ?_; (case hd => rfl); (case hg => rfl); (case hr => first | (go_simp; done) | (go_simp; rfl)); intro gb102 hg w12 hbox hb; have n0_ := Aside0.mk (below_step (by repeat (first | (with_reducible first | exact HB.out | apply below_alloc | apply pw_below_drewN | apply below_drew1) | exact HB.out)) hb); have n1_ := Aside0.mk (hbox); have n2_ := Aside0.mk ((by rw [hg]; exact (below_size (by repeat (first | (with_reducible first | exact HB.out | apply below_alloc | apply pw_below_drewN | apply below_drew1) | exact HB.out))) : w.heap.size ≤ gb102)); have n3_ := Aside0.mk ((by rw [hg]; exact (below_size (by repeat (first | (with_reducible first | exact HB.out | apply below_alloc | apply pw_below_drewN | apply below_drew1) | exact HB.out))) : w.heap.size ≤ gb102)); clear HB; have HB := n0_; have BK102 := n1_; have GW102 := n2_; have GE102 := n3_; clear n0_ n1_ n2_ n3_; clear hb hbox hg; have hcz13_0 : w12.cell? ⟨gb102, 0, none⟩ = some (.int .i64 0) := (blk_cell BK102.out 0).trans rfl; have hcz13_1 : w12.cell? ⟨gb102, 1, none⟩ = some (.int .i64 0) := (blk_cell BK102.out 1).trans rfl; have hfz13_0 := blk_frozen BK102.out 0; have hfz13_1 := blk_frozen BK102.out 1))
          go_ret
          exact ⟨by first | rfl | (simp [errW_none, errW_some] <;> rfl) | (simp only [← hji10]; first | rfl | (simp [errW_none, errW_some] <;> rfl)) | (simp [*, errW_none, errW_some] <;> rfl), by repeat (first | (with_reducible first | exact HB.out | apply below_alloc | apply pw_below_drewN | apply below_drew1 | refine below_set ?_ GE102.out) | exact HB.out)⟩
         ·rw [if_neg c11] at H
          have c11b0 : decide ((ji10) < 0) = false := decide_eq_false c11
          clear c11
          obtain ⟨ji14, hji14⟩ : ∃ j_ : Int, (mx ((rd_T55 l1 x20_2).f0) ((rd_T55 l1 x20_2).f1)) = j_ := ⟨_, rfl⟩
          replace H : (if (ji14) ≥ a0 then (some false) else (digraph_Valid.l0 k2 a0 l1 (l1.length : Int) (wrap64 (x20_2 + 1)))) = some r := by first | (rw [hji14] at H; exact H) | (simp only [hji14] at H ⊢; exact H)
          have hji14_ : (if ((rd_T55 l1 x20_2).f0) < ((rd_T55 l1 x20_2).f1) then ((rd_T55 l1 x20_2).f1) else ((rd_T55 l1 x20_2).f0)) = ji14 := hji14
          by_cases c15 : (ji14) ≥ a0
          ·rw [if_pos c15] at H
           have c15b0 : decide (a0 ≤ (ji14)) = true := decide_eq_true c15
           clear c15
           obtain rfl := Option.some.inj H
           have p101 : 0 ≤ (x20_2 : Int) := of_decide_eq_true (by first | (with_reducible assumption) | assumption)
           have q101 : x20_2 < (l1.length : Int) := of_decide_eq_true (by first | (with_reducible assumption) | assumption)
           obtain ⟨ad101, e101, hx101_0, hx101_1⟩ := at_T55 HR1.out x20_2 p101 q101
           cases e101
           (try (replace hx101_0 := (HB.out.cell (World.block_lt_of_cell? w _ hx101_0)).trans hx101_0))
           (try (replace hx101_1 := (HB.out.cell (World.block_lt_of_cell? w _ hx101_1)).trans hx101_1))
           replace p101 := eq_true p101
           replace q101 := eq_true q101
           go_wp2_with (first | ((with_reducible refine gate_dst (N := 6) rfl ?_); (try (refine gate_guard (by rfl) ?_; dsimp only)); refine box_event ?hg (N := 6) ?hd (cs := #[.int .i64 0, .int .i64 0]) (t := 55) ?hr ?_; (case hd => rfl); (case hg => rfl); (case hr => first | (go_simp; done) | (go_simp; rfl)); intro gb102 hg w16 hbox hb; have n0_ := Aside0.mk (below_step (by repeat (first | (with_reducible first | exact HB.out | apply below_alloc | apply pw_below_drewN | apply below_drew1) | exact HB.out)) hb); have n1_ := Aside0.mk (hbox); have n2_ := Aside0.mk ((by rw [hg]; exact (below_size (by repeat (first | (with_reducible first | exact HB.out | apply below_alloc | apply pw_below_drewN | apply below_drew1) | exact HB.out))) : w.heap.size ≤ gb102)); have n3_ := Aside0.mk ((by rw [hg]; exact (below_size (by repeat (first | (with_reducible first | exact HB.out | apply below_alloc | apply pw_below_drewN | apply below_drew1) | exact HB.out))) : w.heap.size ≤ gb102)); clear HB; have HB := n0_; have BK102 := n1_; have GW102 := n2_; have GE102 := n3_; clear n0_ n1_ n2_ n3_; clear hb hbox hg; have hcz17_0 : w16.cell? ⟨gb102, 0, none⟩ = some (.int .i64 0) := (blk_cell BK102.out 0).trans rfl; have hcz17_1 : w16.cell? ⟨gb102, 1, none⟩ = some (.int .i64 0) := (blk_cell BK102.out 1).trans rfl; have hfz17_0 := blk_frozen BK102.out 0; have hfz17_1 := blk_frozen BK102.out 1))
           go_ret
           exact ⟨by first | rfl | (simp [errW_none, errW_some] <;> rfl) | (simp only [← hji10, ← hji14]; first | rfl | (simp [errW_none, errW_some] <;> rfl)) | (simp [*, errW_none, errW_some] <;> rfl), by repeat (first | (with_reducible first | exact HB.out | apply below_alloc | apply pw_below_drewN | apply below_drew1 | refine below_set ?_ GE102.out) | exact HB.out)⟩
          ·rw [if_neg c15] at H
           have c15b0 : decide (a0 ≤ (ji14)) = false := decide_eq_false c15
           clear c15
           have H' := Aside0.mk H
           clear H
           have p101 : 0 ≤ (x20_2 : Int) := of_decide_eq_true (by first | (with_reducible assumption) | assumption)
           have q101 : x20_2 < (l1.length : Int) := of_decide_eq_true (by first | (with_reducible assumption) | assumption)
           obtain ⟨ad101, e101, hx101_0, hx101_1⟩ := at_T55 HR1.out x20_2 p101 q101
           cases e101
           (try (replace hx101_0 := (HB.out.cell (World.block_lt_of_cell? w _ hx101_0)).trans hx101_0))
           (try (replace hx101_1 := (HB.out.cell (World.block_lt_of_cell? w _ hx101_1)).trans hx101_1))
           replace p101 := eq_true p101
           replace q101 := eq_true q101
           go_wp2_with (first | ((with_reducible refine gate_dst (N := 6) rfl ?_); (try (refine gate_guard (by rfl) ?_; dsimp only)); refine box_event ?hg (N := 6) ?hd (cs := #[.int .i64 0, .int .i64 0]) (t := 55) ?hr ?_; (case hd => rfl); (case hg => rfl); (case hr => first | (go_simp; done) | (go_simp; rfl)); intro gb102 hg w18 hbox hb; have n0_ := Aside0.mk (below_step (by repeat (first | (with_reducible first | exact HB.out | apply below_alloc | apply pw_below_drewN | apply below_drew1) | exact HB.out)) hb); have n1_ := Aside0.mk (hbox); have n2_ := Aside0.mk ((by rw [hg]; exact (below_size (by repeat (first | (with_reducible first | exact HB.out | apply below_alloc | apply pw_below_drewN | apply below_drew1) | exact HB.out))) : w.heap.size ≤ gb102)); have n3_ := Aside0.mk ((by rw [hg]; exact (below_size (by repeat (first | (with_reducible first | exact HB.out | apply below_alloc | apply pw_below_drewN | apply below_drew1) | exact HB.out))) : w.heap.size ≤ gb102)); clear HB; have HB := n0_; have BK102 := n1_; have GW102 := n2_; have GE102 := n3_; clear n0_ n1_ n2_ n3_; clear hb hbox hg; have hcz19_0 : w18.cell? ⟨gb102, 0, none⟩ = some (.int .i64 0) := (blk_cell BK102.out 0).trans rfl; have hcz19_1 : w18.cell? ⟨gb102, 1, none⟩ = some (.int .i64 0) := (blk_cell BK102.out 1).trans rfl; have hfz19_0 := blk_frozen BK102.out 0; have hfz19_1 := blk_frozen BK102.out 1))
           go_roundg k2
           case measure => have := HJ2.out; have := HK2.out; omega
           case rel => exact ⟨(wrap64 (x20_2 + 1)), (by first | rfl | (simp; done) | (simp [*]; done)), H', ⟨by have := HJ2.out; have := HK2.out; omega⟩, ⟨by repeat (first | (with_reducible first | exact HB.out | apply below_alloc | apply pw_below_drewN | apply below_drew1 | refine below_set ?_ GE102.out) | exact HB.out)⟩⟩
        ·rw [if_neg c9] at H
         exact absurd H (by simp)
       ·rw [if_neg c8] at H
        exact absurd H (by simp)
      ·rw [if_neg c7] at H
       have c7b0 : decide (x20_2 < (l1.length : Int)) = false := decide_eq_false c7
       clear c7
       obtain rfl := Option.some.inj H
       go_wp2
       go_ret
       exact ⟨by first | rfl | (simp [errW_none, errW_some] <;> rfl) | (simp [*, errW_none, errW_some] <;> rfl), by repeat (first | (with_reducible first | exact HB.out | apply below_alloc | apply pw_below_drewN | apply below_drew1) | exact HB.out)⟩
end Go.Proofs.Ytlldjinejckbaaa.PD

end
section
namespace Go.Proofs.Ytlldjinejckbaaa.PD
open Go.RowKit Go.Proofs.YtlldjinejckbaaaW.PrintWords Go.Proofs.YtlldjinejckbaaaW.PrintLast Go.Proofs.YtlldjinejckbaaaW.PrintMore
attribute [local go_sem] max2_int min2_int max_two min_two max_three min_three max_four min_four
set_option linter.unusedVariables false
set_option linter.unusedSimpArgs false
def wireloomref05_Same.l0 : Nat → List Int → List Int → Int → Option (Bool)
 | 0, _, _, _ => none
 | k + 1, x0, x1, x5 => if x5 < (x0.length : Int) then (if 0 ≤ x5 then (if x5 < (x1.length : Int) then (if (rd x0 x5) = (rd x1 x5) then (wireloomref05_Same.l0 k x0 x1 (wrap64 (x5 + 1))) else (some false)) else (none)) else (none)) else (some true)
def wireloomref05_Same.f (k : Nat) (l0 : List Int) (l1 : List Int) : Option (Bool) := if (l0.length : Int) = (l1.length : Int) then (wireloomref05_Same.l0 k l0 l1 0) else (some false)
theorem wireloomref05_Same.mono_l : ∀ k, (∀ y0 y1 y2, LeO (wireloomref05_Same.l0 k y0 y1 y2) (wireloomref05_Same.l0 (k + 1) y0 y1 y2))
 | 0 => fun _ _ _ r h => by simp [wireloomref05_Same.l0] at h
 | k + 1 => by
  have ih0 := wireloomref05_Same.mono_l k
  ·intro y0 y1 y2
   unfold wireloomref05_Same.l0
   repeat' first
   | (with_reducible exact ih0 _ _ _)
   | (with_reducible exact LeO.refl _)
   | (with_reducible exact LeO.none _)
   | (with_reducible refine LeO.ite ?_ ?_)
   | (with_reducible refine LeO.bind ?_ (fun _ => ?_))
   | exact ih0 _ _ _
   | exact LeO.none _
   | refine LeO.ite ?_ ?_
   | refine LeO.bind ?_ (fun _ => ?_)
theorem wireloomref05_Same.mono : ∀ a0 a1 k, LeO (wireloomref05_Same.f k a0 a1) (wireloomref05_Same.f (k + 1) a0 a1) := by
 intro a0 a1 k
 have ih0 := wireloomref05_Same.mono_l k
 unfold wireloomref05_Same.f
 repeat' first
   | (with_reducible exact ih0 _ _ _)
   | (with_reducible exact LeO.refl _)
   | (with_reducible exact LeO.none _)
   | (with_reducible refine LeO.ite ?_ ?_)
   | (with_reducible refine LeO.bind ?_ (fun _ => ?_))
   | exact ih0 _ _ _
   | exact LeO.none _
   | refine LeO.ite ?_ ?_
   | refine LeO.bind ?_ (fun _ => ?_)
set_option maxHeartbeats 8000000 in
set_option maxRecDepth 100000 in
theorem wireloomref05_Same.calls (k : Nat) (A0 : Option Addr) (c0 : Nat) (l0 : List Int) (A1 : Option Addr) (c1 : Nat) (l1 : List Int) (r : Bool) (w : World) (hr0 : Kd.C (Kd.int .i64) w A0 l0.length l0) (hc0 : l0.length ≤ c0) (hr1 : Kd.C (Kd.int .i64) w A1 l1.length l1) (hc1 : l1.length ≤ c1) (h : wireloomref05_Same.f k l0 l1 = some r) :
  Calls Try.prog 23 #[.slice A0 l0.length c0, .slice A1 l1.length c1] w fun e w' => e = .returned (.bool r) ∧ Drawn0 w w' := by
 have HR0 := Aside0.mk hr0
 have HC0 := Aside0.mk hc0
 clear hr0 hc0
 have HR1 := Aside0.mk hr1
 have HC1 := Aside0.mk hc1
 clear hr1 hc1
 have H : (if (l0.length : Int) = (l1.length : Int) then (wireloomref05_Same.l0 k l0 l1 0) else (some false)) = some r := h
 clear h
 by_cases c3 : (l0.length : Int) = (l1.length : Int)
 ·rw [if_pos c3] at H
  have c3b0 : ((l0.length : Int) == (l1.length : Int)) = true := beq_iff_eq.mpr c3
  have c3b1 : ((l0.length : Int) != (l1.length : Int)) = false := bne_eq_false_iff_eq.mpr c3
  have c3b2 : (l0.length == l1.length) = true := by first | simpa using c3 | (simp at c3 ⊢; omega)
  clear c3
  have H' := Aside0.mk H
  clear H
  go_enter Try.func23, Try.ntmps23
  go_wp2
  repeat (go_quiet (fail); try go_wp2)
  go_loopg [5] k (fun kq v5 w' => ∃ (x5_1 : Int), v5 = .int .i64 x5_1 ∧ Aside0 (wireloomref05_Same.l0 kq l0 l1 x5_1 = some r) ∧ Aside0 (kq ≤ k) ∧ Drawn0 w w')
  case atStart => exact ⟨(0), (by first | rfl | (simp; done) | (simp [*]; done)), H', ⟨Nat.le_refl _⟩, by repeat (first | exact Drawn0.refl _ | apply Drawn0.step)⟩
  case round =>
   clear H'
   try clear c1
   try clear c2
   try clear p2
   try clear c3
   try clear c3b0
   try clear c3b1
   try clear c3b2
   obtain ⟨x5_1, rfl, HA, HK1, ⟨m1, rfl⟩⟩ := hrel
   cases gk with
   | zero => exact absurd HA.out (by simp [wireloomref05_Same.l0])
   | succ k1 =>
    have H := HA.out
    clear HA
    simp only [wireloomref05_Same.l0] at H
    by_cases c4 : x5_1 < (l0.length : Int)
    ·rw [if_pos c4] at H
     have c4b0 : decide (x5_1 < (l0.length : Int)) = true := decide_eq_true c4
     clear c4
     by_cases c5 : 0 ≤ x5_1
     ·rw [if_pos c5] at H
      have c5b0 : decide (0 ≤ x5_1) = true := decide_eq_true c5
      clear c5
      by_cases c6 : x5_1 < (l1.length : Int)
      ·rw [if_pos c6] at H
       have c6b0 : decide (x5_1 < (l1.length : Int)) = true := decide_eq_true c6
       clear c6
       by_cases c7 : (rd l0 x5_1) = (rd l1 x5_1)
       ·rw [if_pos c7] at H
        have c7b0 : ((rd l0 x5_1) == (rd l1 x5_1)) = true := beq_iff_eq.mpr c7
        have c7b1 : ((rd l0 x5_1) != (rd l1 x5_1)) = false := bne_eq_false_iff_eq.mpr c7
        clear c7
        have H' := Aside0.mk H
        clear H
        have p103 : 0 ≤ (x5_1 : Int) := of_decide_eq_true (by first | (with_reducible assumption) | assumption)
        have q103 : x5_1 < (l0.length : Int) := of_decide_eq_true (by first | (with_reducible assumption) | assumption)
        obtain ⟨ad103, e103, hx103_0⟩ := Kd.at_int HR0.out x5_1 p103 q103
        cases e103
        replace p103 := eq_true p103
        replace q103 := eq_true q103
        have p104 : 0 ≤ (x5_1 : Int) := of_decide_eq_true (by first | (with_reducible assumption) | assumption)
        have q104 : x5_1 < (l1.length : Int) := of_decide_eq_true (by first | (with_reducible assumption) | assumption)
        obtain ⟨ad104, e104, hx104_0⟩ := Kd.at_int HR1.out x5_1 p104 q104
        cases e104
        replace p104 := eq_true p104
        replace q104 := eq_true q104
        go_wp2
        repeat (go_quiet (fail); try go_wp2)
        go_roundg k1
        case measure => have := HK1.out; omega
        case rel => exact ⟨(wrap64 (x5_1 + 1)), (by first | rfl | (simp; done) | (simp [*]; done)), H', ⟨by have := HK1.out; omega⟩, by repeat (first | exact Drawn0.refl _ | apply Drawn0.step)⟩
       ·rw [if_neg c7] at H
        have c7b0 : ((rd l0 x5_1) == (rd l1 x5_1)) = false := beq_eq_false_iff_ne.mpr c7
        have c7b1 : ((rd l0 x5_1) != (rd l1 x5_1)) = true := bne_iff_ne.mpr c7
        obtain rfl := Option.some.inj H
        have p103 : 0 ≤ (x5_1 : Int) := of_decide_eq_true (by first | (with_reducible assumption) | assumption)
        have q103 : x5_1 < (l0.length : Int) := of_decide_eq_true (by first | (with_reducible assumption) | assumption)
        obtain ⟨ad103, e103, hx103_0⟩ := Kd.at_int HR0.out x5_1 p103 q103
        cases e103
        replace p103 := eq_true p103
        replace q103 := eq_true q103
        have p104 : 0 ≤ (x5_1 : Int) := of_decide_eq_true (by first | (with_reducible assumption) | assumption)
        have q104 : x5_1 < (l1.length : Int) := of_decide_eq_true (by first | (with_reducible assumption) | assumption)
        obtain ⟨ad104, e104, hx104_0⟩ := Kd.at_int HR1.out x5_1 p104 q104
        cases e104
        replace p104 := eq_true p104
        replace q104 := eq_true q104
        go_wp2
        repeat (go_quiet (fail); try go_wp2)
        go_ret
        exact ⟨by first | rfl | (simp; done) | (simp [*]; done), by repeat (first | exact Drawn0.refl _ | apply Drawn0.step)⟩
      ·rw [if_neg c6] at H
       exact absurd H (by simp)
     ·rw [if_neg c5] at H
      exact absurd H (by simp)
    ·rw [if_neg c4] at H
     have c4b0 : decide (x5_1 < (l0.length : Int)) = false := decide_eq_false c4
     clear c4
     obtain rfl := Option.some.inj H
     go_wp2
     repeat (go_quiet (fail); try go_wp2)
     go_ret
     exact ⟨by first | rfl | (simp; done) | (simp [*]; done), by repeat (first | exact Drawn0.refl _ | apply Drawn0.step)⟩
 ·rw [if_neg c3] at H
  have c3b0 : ((l0.length : Int) == (l1.length : Int)) = false := beq_eq_false_iff_ne.mpr c3
  have c3b1 : ((l0.length : Int) != (l1.length : Int)) = true := bne_iff_ne.mpr c3
  have c3b2 : (l0.length == l1.length) = false := by first | simpa using c3 | (simp at c3 ⊢; omega)
  obtain rfl := Option.some.inj H
  go_enter Try.func23, Try.ntmps23
  go_wp2
  repeat (go_quiet (fail); try go_wp2)
  go_ret
  exact ⟨by first | rfl | (simp; done) | (simp [*]; done), by repeat (first | exact Drawn0.refl _ | apply Drawn0.step)⟩
end Go.Proofs.Ytlldjinejckbaaa.PD

end
section
namespace Go.Proofs.Ytlldjinejckbaaa.PD
open Go.RowKit Go.Proofs.YtlldjinejckbaaaW.PrintWords Go.Proofs.YtlldjinejckbaaaW.PrintLast Go.Proofs.YtlldjinejckbaaaW.PrintMore
attribute [local go_sem] max2_int min2_int max_two min_two max_three min_three max_four min_four
set_option linter.unusedVariables false
set_option linter.unusedSimpArgs false
def wireloomref05_Alike.f (k : Nat) (l0_0 : List Int) (a0_1 : Int) (l1_0 : List Int) (a1_1 : Int) : Option (Bool) := if a0_1 = a1_1 then ((wireloomref05_Same.f k l0_0 l1_0).bind fun t107 => (some t107)) else (some false)
theorem wireloomref05_Alike.mono : ∀ a0 a1 a2 a3 k, LeO (wireloomref05_Alike.f k a0 a1 a2 a3) (wireloomref05_Alike.f (k + 1) a0 a1 a2 a3) := by
 intro a0 a1 a2 a3 k
 unfold wireloomref05_Alike.f
 repeat' first
   | (with_reducible exact wireloomref05_Same.mono _ _ _)
   | (with_reducible exact LeO.refl _)
   | (with_reducible exact LeO.none _)
   | (with_reducible refine LeO.ite ?_ ?_)
   | (with_reducible refine LeO.bind ?_ (fun _ => ?_))
   | exact wireloomref05_Same.mono _ _ _
   | exact LeO.none _
   | refine LeO.ite ?_ ?_
   | refine LeO.bind ?_ (fun _ => ?_)
set_option maxHeartbeats 8000000 in
set_option maxRecDepth 100000 in
theorem wireloomref05_Alike.calls (k : Nat) (A0_0 : Option Addr) (c0_0 : Nat) (l0_0 : List Int) (a0_1 : Int) (A1_0 : Option Addr) (c1_0 : Nat) (l1_0 : List Int) (a1_1 : Int) (r : Bool) (w : World) (hr0_0 : Kd.C (Kd.int .i64) w A0_0 l0_0.length l0_0) (hc0_0 : l0_0.length ≤ c0_0) (hr1_0 : Kd.C (Kd.int .i64) w A1_0 l1_0.length l1_0) (hc1_0 : l1_0.length ≤ c1_0) (h : wireloomref05_Alike.f k l0_0 a0_1 l1_0 a1_1 = some r) :
  Calls Try.prog 14 #[.agg #[.slice A0_0 l0_0.length c0_0, .int .i64 a0_1], .agg #[.slice A1_0 l1_0.length c1_0, .int .i64 a1_1]] w fun e w' => e = .returned (.bool r) ∧ Below w.heap.size w w' := by
 have hu37 := Try.underlying37
 have HR0_0 := Aside0.mk hr0_0
 have HC0_0 := Aside0.mk hc0_0
 clear hr0_0 hc0_0
 have HR1_0 := Aside0.mk hr1_0
 have HC1_0 := Aside0.mk hc1_0
 clear hr1_0 hc1_0
 have HB := Aside0.mk (Below.refl w.heap.size w)
 have H : (if a0_1 = a1_1 then ((wireloomref05_Same.f k l0_0 l1_0).bind fun t107 => (some t107)) else (some false)) = some r := h
 clear h
 by_cases c3 : a0_1 = a1_1
 ·rw [if_pos c3] at H
  have c3b0 : (a0_1 == a1_1) = true := beq_iff_eq.mpr c3
  have c3b1 : (a0_1 != a1_1) = false := bne_eq_false_iff_eq.mpr c3
  clear c3
  replace H := Option.bind_eq_some_iff.mp H
  obtain ⟨t107, A40, H⟩ := H
  replace H : (some t107) = some r := H
  have A4 := Aside0.mk A40
  clear A40
  obtain rfl := Option.some.inj H
  go_enter Try.func14, Try.ntmps14
  go_wp2_with (first | ((with_reducible refine gate_dst (N := 2) rfl ?_); refine box_event ?hg (N := 2) ?hd (cs := #[.slice A0_0 l0_0.length c0_0, .int .i64 a0_1]) (t := 37) ?hr ?_; (case hd => rfl); (case hg => rfl); (case hr => first | (go_simp; done) | (go_simp; rfl)); intro gb105 hg w5 hbox hb; have n0_ := Aside0.mk (below_step (by repeat (first | (with_reducible first | exact HB.out | apply below_alloc | apply pw_below_drewN | apply below_drew1) | exact HB.out)) hb); have n1_ := Aside0.mk (hbox); have n2_ := Aside0.mk ((by rw [hg]; exact (below_size (by repeat (first | (with_reducible first | exact HB.out | apply below_alloc | apply pw_below_drewN | apply below_drew1) | exact HB.out))) : w.heap.size ≤ gb105)); have n3_ := Aside0.mk ((by rw [hg]; exact (below_size (by repeat (first | (with_reducible first | exact HB.out | apply below_alloc | apply pw_below_drewN | apply below_drew1) | exact HB.out))) : w.heap.size ≤ gb105)); clear HB; have HB := n0_; have BK105 := n1_; have GW105 := n2_; have GE105 := n3_; clear n0_ n1_ n2_ n3_; clear hb hbox hg) | ((with_reducible refine gate_dst (N := 3) rfl ?_); refine box_event ?hg (N := 3) ?hd (cs := #[.slice A1_0 l1_0.length c1_0, .int .i64 a1_1]) (t := 37) ?hr ?_; (case hd => rfl); (case hg => rfl); (case hr => first | (go_simp; done) | (go_simp; rfl)); intro gb106 hg w6 hbox hb; have n0_ := Aside0.mk (blk_below (g := gb105) (o := .cells #[.slice A0_0 l0_0.length c0_0, .int .i64 a0_1] 37 (0, 0)) (bA BK105.out) hb); have n1_ := Aside0.mk (below_step (by repeat (first | (with_reducible first | exact HB.out | apply below_alloc | apply pw_below_drewN | apply below_drew1 | refine below_set ?_ GE105.out) | exact HB.out)) hb); have n2_ := Aside0.mk (hbox); have n3_ := Aside0.mk ((by rw [hg]; exact (below_size (by repeat (first | (with_reducible first | exact HB.out | apply below_alloc | apply pw_below_drewN | apply below_drew1 | refine below_set ?_ GE105.out) | exact HB.out))) : w.heap.size ≤ gb106)); have n4_ := Aside0.mk ((by rw [hg]; exact (below_size (by repeat (first | (with_reducible first | exact HB.out | apply below_alloc | apply pw_below_drewN | apply below_drew1 | refine below_set ?_ GE105.out) | exact HB.out))) : w.heap.size ≤ gb106)); have n5_ := Aside0.mk ((by rw [hg]; exact Nat.ne_of_lt (blk_lt (g := gb105) (o := .cells #[.slice A0_0 l0_0.length c0_0, .int .i64 a0_1] 37 (0, 0)) (bA BK105.out)) : gb105 ≠ gb106)); have n6_ := Aside0.mk ((by rw [hg]; exact Nat.ne_of_gt (blk_lt (g := gb105) (o := .cells #[.slice A0_0 l0_0.length c0_0, .int .i64 a0_1] 37 (0, 0)) (bA BK105.out)) : gb106 ≠ gb105)); clear BK105; clear HB; have BK105 := n0_; have HB := n1_; have BK106 := n2_; have GW106 := n3_; have GE106 := n4_; have NB105_106 := n5_; have NB106_105 := n6_; clear n0_ n1_ n2_ n3_ n4_ n5_ n6_; clear hb hbox hg; have hnb7 := NB105_106.out; have hnc7 := NB106_105.out; have hcz8_0 : w6.cell? ⟨gb105, 0, none⟩ = some (.slice A0_0 l0_0.length c0_0) := (blk_cell BK105.out 0).trans rfl; have hcz8_1 : w6.cell? ⟨gb105, 1, none⟩ = some (.int .i64 a0_1) := (blk_cell BK105.out 1).trans rfl; have hfz8_0 := blk_frozen BK105.out 0; have hfz8_1 := blk_frozen BK105.out 1; have hcz9_0 : w6.cell? ⟨gb106, 0, none⟩ = some (.slice A1_0 l1_0.length c1_0) := (blk_cell BK106.out 0).trans rfl; have hcz9_1 : w6.cell? ⟨gb106, 1, none⟩ = some (.int .i64 a1_1) := (blk_cell BK106.out 1).trans rfl; have hfz9_0 := blk_frozen BK106.out 0; have hfz9_1 := blk_frozen BK106.out 1) | (go_at_call 23; (with_reducible refine (wireloomref05_Same.calls k _ _ l0_0 _ _ l1_0 t107 _ ?side1 ?side2 ?side3 ?side4 A4.out).mono ?_); (case side1 => repeat (first | exact (Kd.C_below HR0_0.out HB.out) | (with_reducible refine Kd.C_alloc ?_ _) | (with_reducible refine Kd.C_drewN ?_ _) | (with_reducible refine Kd.C_drew ?_))); (case side2 => exact HC0_0.out); (case side3 => repeat (first | exact (Kd.C_below HR1_0.out HB.out) | (with_reducible refine Kd.C_alloc ?_ _) | (with_reducible refine Kd.C_drewN ?_ _) | (with_reducible refine Kd.C_drew ?_))); (case side4 => exact HC1_0.out); rintro e w' ⟨rfl, ⟨nd, rfl⟩⟩))
  go_ret
  exact ⟨by first | rfl | (simp [errW_none, errW_some] <;> rfl) | (simp [*, errW_none, errW_some] <;> rfl), by repeat (first | (with_reducible first | exact HB.out | apply below_alloc | apply pw_below_drewN | apply below_drew1 | refine below_set ?_ GE105.out | refine below_set ?_ GE106.out) | exact HB.out)⟩
 ·rw [if_neg c3] at H
  have c3b0 : (a0_1 == a1_1) = false := beq_eq_false_iff_ne.mpr c3
  have c3b1 : (a0_1 != a1_1) = true := bne_iff_ne.mpr c3
  obtain rfl := Option.some.inj H
  go_enter Try.func14, Try.ntmps14
  go_wp2_with (first | ((with_reducible refine gate_dst (N := 2) rfl ?_); refine box_event ?hg (N := 2) ?hd (cs := #[.slice A0_0 l0_0.length c0_0, .int .i64 a0_1]) (t := 37) ?hr ?_; (case hd => rfl); (case hg => rfl); (case hr => first | (go_simp; done) | (go_simp; rfl)); intro gb105 hg w10 hbox hb; have n0_ := Aside0.mk (below_step (by repeat (first | (with_reducible first | exact HB.out | apply below_alloc | apply pw_below_drewN | apply below_drew1) | exact HB.out)) hb); have n1_ := Aside0.mk (hbox); have n2_ := Aside0.mk ((by rw [hg]; exact (below_size (by repeat (first | (with_reducible first | exact HB.out | apply below_alloc | apply pw_below_drewN | apply below_drew1) | exact HB.out))) : w.heap.size ≤ gb105)); have n3_ := Aside0.mk ((by rw [hg]; exact (below_size (by repeat (first | (with_reducible first | exact HB.out | apply below_alloc | apply pw_below_drewN | apply below_drew1) | exact HB.out))) : w.heap.size ≤ gb105)); clear HB; have HB := n0_; have BK105 := n1_; have GW105 := n2_; have GE105 := n3_; clear n0_ n1_ n2_ n3_; clear hb hbox hg) | ((with_reducible refine gate_dst (N := 3) rfl ?_); refine box_event ?hg (N := 3) ?hd (cs := #[.slice A1_0 l1_0.length c1_0, .int .i64 a1_1]) (t := 37) ?hr ?_; (case hd => rfl); (case hg => rfl); (case hr => first | (go_simp; done) | (go_simp; rfl)); intro gb106 hg w11 hbox hb; have n0_ := Aside0.mk (blk_below (g := gb105) (o := .cells #[.slice A0_0 l0_0.length c0_0, .int .i64 a0_1] 37 (0, 0)) (bA BK105.out) hb); have n1_ := Aside0.mk (below_step (by repeat (first | (with_reducible first | exact HB.out | apply below_alloc | apply pw_below_drewN | apply below_drew1 | refine below_set ?_ GE105.out) | exact HB.out)) hb); have n2_ := Aside0.mk (hbox); have n3_ := Aside0.mk ((by rw [hg]; exact (below_size (by repeat (first | (with_reducible first | exact HB.out | apply below_alloc | apply pw_below_drewN | apply below_drew1 | refine below_set ?_ GE105.out) | exact HB.out))) : w.heap.size ≤ gb106)); have n4_ := Aside0.mk ((by rw [hg]; exact (below_size (by repeat (first | (with_reducible first | exact HB.out | apply below_alloc | apply pw_below_drewN | apply below_drew1 | refine below_set ?_ GE105.out) | exact HB.out))) : w.heap.size ≤ gb106)); have n5_ := Aside0.mk ((by rw [hg]; exact Nat.ne_of_lt (blk_lt (g := gb105) (o := .cells #[.slice A0_0 l0_0.length c0_0, .int .i64 a0_1] 37 (0, 0)) (bA BK105.out)) : gb105 ≠ gb106)); have n6_ := Aside0.mk ((by rw [hg]; exact Nat.ne_of_gt (blk_lt (g := gb105) (o := .cells #[.slice A0_0 l0_0.length c0_0, .int .i64 a0_1] 37 (0, 0)) (bA BK105.out)) : gb106 ≠ gb105)); clear BK105; clear HB; have BK105 := n0_; have HB := n1_; have BK106 := n2_; have GW106 := n3_; have GE106 := n4_; have NB105_106 := n5_; have NB106_105 := n6_; clear n0_ n1_ n2_ n3_ n4_ n5_ n6_; clear hb hbox hg; have hnb12 := NB105_106.out; have hnc12 := NB106_105.out; have hcz13_0 : w11.cell? ⟨gb105, 0, none⟩ = some (.slice A0_0 l0_0.length c0_0) := (blk_cell BK105.out 0).trans rfl; have hcz13_1 : w11.cell? ⟨gb105, 1, none⟩ = some (.int .i64 a0_1) := (blk_cell BK105.out 1).trans rfl; have hfz13_0 := blk_frozen BK105.out 0; have hfz13_1 := blk_frozen BK105.out 1; have hcz14_0 : w11.cell? ⟨gb106, 0, none⟩ = some (.slice A1_0 l1_0.length c1_0) := (blk_cell BK106.out 0).trans rfl; have hcz14_1 : w11.cell? ⟨gb106, 1, none⟩ = some (.int .i64 a1_1) := (blk_cell BK106.out 1).trans rfl; have hfz14_0 := blk_frozen BK106.out 0; have hfz14_1 := blk_frozen BK106.out 1))
  go_ret
  exact ⟨by first | rfl | (simp [errW_none, errW_some] <;> rfl) | (simp [*, errW_none, errW_some] <;> rfl), by repeat (first | (with_reducible first | exact HB.out | apply below_alloc | apply pw_below_drewN | apply below_drew1 | refine below_set ?_ GE105.out | refine below_set ?_ GE106.out) | exact HB.out)⟩
end Go.Proofs.Ytlldjinejckbaaa.PD

end
section
namespace Go.Proofs.Ytlldjinejckbaaa.PD
open Go.RowKit Go.Proofs.YtlldjinejckbaaaW.PrintWords Go.Proofs.YtlldjinejckbaaaW.PrintLast Go.Proofs.YtlldjinejckbaaaW.PrintMore
attribute [local go_sem] max2_int min2_int max_two min_two max_three min_three max_four min_four
set_option linter.unusedVariables false
set_option linter.unusedSimpArgs false
def digraph_Cycle.f (a0 : Int) (l1 : List (S55)) : Option (List Int × Int) := if 0 ≤ a0 ∧ a0 ≤ 1000 ∧ l1.length ≤ 10000 ∧ ∀ e ∈ l1, 0 ≤ e.f0 ∧ e.f0 < a0 ∧ 0 ≤ e.f1 ∧ e.f1 < a0 then Cy.cycleOf a0.toNat l1 else none
theorem digraph_Cycle.calls (a0 : Int) (A1 : Option Addr) (c1 : Nat) (l1 : List (S55)) (r1 : List Int) (r2 : Int) (w : World) (hr1 : Kd.C k55 w A1 l1.length l1) (hc1 : l1.length ≤ c1) (h : digraph_Cycle.f a0 l1 = some (r1, r2)) :
  Calls Try.prog 36 #[.int .i64 a0, .slice A1 l1.length c1] w fun e w' => ∃ v0_ : Value, e = .returned (.tuple #[v0_, .int .i64 r2]) ∧ Kd.R (Kd.int .i64) 3 w' w.heap.size (fun _ => True) v0_ r1 ∧ Below w.heap.size w w' := by
 unfold digraph_Cycle.f at h
 split at h
 ·rename_i hp
  obtain ⟨n, rfl⟩ := Int.eq_ofNat_of_zero_le hp.1
  rw [Int.toNat_natCast] at h
  exact Cy.Cycle_calls n (by omega) A1 c1 l1 r1 r2 w hr1 hc1 hp.2.2.1 hp.2.2.2 h
 ·cases h
end Go.Proofs.Ytlldjinejckbaaa.PD

end
section
namespace Go.Proofs.Ytlldjinejckbaaa.PD
open Go.RowKit Go.Proofs.YtlldjinejckbaaaW.PrintWords Go.Proofs.YtlldjinejckbaaaW.PrintLast Go.Proofs.YtlldjinejckbaaaW.PrintMore
attribute [local go_sem] max2_int min2_int max_two min_two max_three min_three max_four min_four
set_option linter.unusedVariables false
set_option linter.unusedSimpArgs false
def wireloomlaw05_cycle.f (a0_0 : Int) (l0_1 : List (S55)) : Option (List Int × Int) := (digraph_Cycle.f a0_0 l0_1).bind fun bt122 => (some (bt122.1, bt122.2))
set_option maxHeartbeats 8000000 in
set_option maxRecDepth 100000 in
theorem wireloomlaw05_cycle.calls (a0_0 : Int) (A0_1 : Option Addr) (c0_1 : Nat) (l0_1 : List (S55)) (r1 : List Int) (r2 : Int) (w : World) (hr0_1 : Kd.C k55 w A0_1 l0_1.length l0_1) (hc0_1 : l0_1.length ≤ c0_1) (h : wireloomlaw05_cycle.f a0_0 l0_1 = some (r1, r2)) :
  Calls Try.prog 17 #[.agg #[.int .i64 a0_0, .slice A0_1 l0_1.length c0_1]] w fun e w' => ∃ v0_ : Value, e = .returned (.agg #[v0_, .int .i64 r2]) ∧ Kd.R (Kd.int .i64) 3 w' w.heap.size (fun _ => True) v0_ r1 ∧ Below w.heap.size w w' := by
 have hu31 := Try.underlying31
 have hu37 := Try.underlying37
 have HR0_1 := Aside0.mk hr0_1
 have HC0_1 := Aside0.mk hc0_1
 clear hr0_1 hc0_1
 have HB := Aside0.mk (Below.refl w.heap.size w)
 have H : ((digraph_Cycle.f a0_0 l0_1).bind fun bt122 => (some (bt122.1, bt122.2))) = some (r1, r2) := h
 clear h
 replace H := Option.bind_eq_some_iff.mp H
 obtain ⟨⟨t122, t123⟩, A20, H⟩ := H
 replace H : (some (t122, t123)) = some (r1, r2) := H
 have A2 := Aside0.mk A20
 clear A20
 simp only [Option.some.injEq, Prod.mk.injEq] at H
 obtain ⟨rfl, rfl⟩ := H
 go_enter Try.func17, Try.ntmps17
 go_wp2_with (first | ((with_reducible refine gate_dst (N := 1) rfl ?_); refine box_event ?hg (N := 1) ?hd (cs := #[.int .i64 a0_0, .slice A0_1 l0_1.length c0_1]) (t := 31) ?hr ?_; (case hd => rfl); (case hg => rfl); (case hr => first | (go_simp; done) | (go_simp; rfl)); intro gb120 hg w3 hbox hb; have n0_ := Aside0.mk (below_step (by repeat (first | (with_reducible first | exact HB.out | apply below_alloc | apply pw_below_drewN | apply below_drew1) | exact HB.out)) hb); have n1_ := Aside0.mk (hbox); have n2_ := Aside0.mk ((by rw [hg]; exact (below_size (by repeat (first | (with_reducible first | exact HB.out | apply below_alloc | apply pw_below_drewN | apply below_drew1) | exact HB.out))) : w.heap.size ≤ gb120)); have n3_ := Aside0.mk ((by rw [hg]; exact (below_size (by repeat (first | (with_reducible first | exact HB.out | apply below_alloc | apply pw_below_drewN | apply below_drew1) | exact HB.out))) : w.heap.size ≤ gb120)); clear HB; have HB := n0_; have BK120 := n1_; have GW120 := n2_; have GE120 := n3_; clear n0_ n1_ n2_ n3_; clear hb hbox hg) | ((with_reducible refine gate_dst (N := 2) rfl ?_); refine box_event ?hg (N := 2) ?hd (cs := #[.slice none 0 0, .int .i64 0]) (t := 37) ?hr ?_; (case hd => rfl); (case hg => rfl); (case hr => first | (go_simp; done) | (go_simp; rfl)); intro gb121 hg w4 hbox hb; have n0_ := Aside0.mk (blk_below (g := gb120) (o := .cells #[.int .i64 a0_0, .slice A0_1 l0_1.length c0_1] 31 (0, 0)) (bA BK120.out) hb); have n1_ := Aside0.mk (below_step (by repeat (first | (with_reducible first | exact HB.out | apply below_alloc | apply pw_below_drewN | apply below_drew1 | refine below_set ?_ GE120.out) | exact HB.out)) hb); have n2_ := Aside0.mk (hbox); have n3_ := Aside0.mk ((by rw [hg]; exact (below_size (by repeat (first | (with_reducible first | exact HB.out | apply below_alloc | apply pw_below_drewN | apply below_drew1 | refine below_set ?_ GE120.out) | exact HB.out))) : w.heap.size ≤ gb121)); have n4_ := Aside0.mk ((by rw [hg]; exact (below_size (by repeat (first | (with_reducible first | exact HB.out | apply below_alloc | apply pw_below_drewN | apply below_drew1 | refine below_set ?_ GE120.out) | exact HB.out))) : w.heap.size ≤ gb121)); have n5_ := Aside0.mk ((by rw [hg]; exact Nat.ne_of_lt (blk_lt (g := gb120) (o := .cells #[.int .i64 a0_0, .slice A0_1 l0_1.length c0_1] 31 (0, 0)) (bA BK120.out)) : gb120 ≠ gb121)); have n6_ := Aside0.mk ((by rw [hg]; exact Nat.ne_of_gt (blk_lt (g := gb120) (o := .cells #[.int .i64 a0_0, .slice A0_1 l0_1.length c0_1] 31 (0, 0)) (bA BK120.out)) : gb121 ≠ gb120)); clear BK120; clear HB; have BK120 := n0_; have HB := n1_; have BK121 := n2_; have GW121 := n3_; have GE121 := n4_; have NB120_121 := n5_; have NB121_120 := n6_; clear n0_ n1_ n2_ n3_ n4_ n5_ n6_; clear hb hbox hg; have hnb5 := NB120_121.out; have hnc5 := NB121_120.out; have hcz6_0 : w4.cell? ⟨gb120, 0, none⟩ = some (.int .i64 a0_0) := (blk_cell BK120.out 0).trans rfl; have hcz6_1 : w4.cell? ⟨gb120, 1, none⟩ = some (.slice A0_1 l0_1.length c0_1) := (blk_cell BK120.out 1).trans rfl; have hfz6_0 := blk_frozen BK120.out 0; have hfz6_1 := blk_frozen BK120.out 1) | ((with_reducible refine gate_callee (f := 36) rfl ?_); refine goesL_ (some 10) rfl rfl Try.func36 (by kernel_rfl) rfl #[.int .i64 a0_0, .slice A0_1 l0_1.length c0_1] rfl (by (try simp only [List.map_toArray, List.map_cons, List.map_nil]); first | done | rfl | (simp only [List.length_drop, List.length_take]; rfl)) ?_; (with_reducible refine (digraph_Cycle.calls a0_0 _ _ l0_1 t122 t123 _ ?side1 ?side2 A2.out).mono ?_); (case side1 => repeat (first | exact (Kd.C_below HR0_1.out HB.out) | (with_reducible refine Kd.C_alloc ?_ _) | (with_reducible refine Kd.C_drewN ?_ _) | (with_reducible refine Kd.C_drew ?_))); (case side2 => exact HC0_1.out); rintro e w7 ⟨v124, rfl, ho0, hb⟩; refine ⟨_, rfl, ?_⟩; have n0_ := Aside0.mk (Kd.R_lower ho0 (below_size (by repeat (first | (with_reducible first | exact HB.out | apply below_alloc | apply pw_below_drewN | apply below_drew1 | refine below_set ?_ GE120.out | refine below_set ?_ GE121.out) | exact HB.out)))); have n1_ := Aside0.mk (blk_below (g := gb120) (o := .cells #[.int .i64 a0_0, .slice A0_1 l0_1.length c0_1] 31 (0, 0)) (bA BK120.out) hb); have n2_ := Aside0.mk (blk_below (g := gb121) (o := .cells #[.slice none 0 0, .int .i64 0] 37 (0, 0)) (bA BK121.out) hb); have n3_ := Aside0.mk (below_step (by repeat (first | (with_reducible first | exact HB.out | apply below_alloc | apply pw_below_drewN | apply below_drew1 | refine below_set ?_ GE120.out | refine below_set ?_ GE121.out) | exact HB.out)) hb); clear BK120; clear BK121; clear HB; have HO125 := n0_; have BK120 := n1_; have BK121 := n2_; have HB := n3_; clear n0_ n1_ n2_ n3_; (try clear hb); (try clear hb2); (try clear hk); (try clear hi); (try clear ho0); obtain ⟨Ao8, co8, eo8⟩ := Kd.R_slice HO125.out; subst eo8; have hcz9_0 : w7.cell? ⟨gb121, 0, none⟩ = some (.slice none 0 0) := (blk_cell BK121.out 0).trans rfl; have hcz9_1 : w7.cell? ⟨gb121, 1, none⟩ = some (.int .i64 0) := (blk_cell BK121.out 1).trans rfl; have hfz9_0 := blk_frozen BK121.out 0; have hfz9_1 := blk_frozen BK121.out 1))
 refine bodyPost_ret (results_cell_row rfl _ _ gb121 37 #[.slice Ao8 t122.length co8, .int .i64 t123] (0, 0) _ rfl (by (with_reducible repeat (first | refine blk_drewN ?_ _ | refine blk_drew ?_ | refine blk_alloc ?_ _)); refine blk_put (cs := #[.slice Ao8 t122.length co8, .int .i64 0]) ?_ 1 _ rfl; (with_reducible repeat (first | refine blk_drewN ?_ _ | refine blk_drew ?_ | refine blk_alloc ?_ _)); refine blk_put (cs := #[.slice none 0 0, .int .i64 0]) ?_ 0 _ rfl; (with_reducible repeat (first | refine blk_drewN ?_ _ | refine blk_drew ?_ | refine blk_alloc ?_ _)); exact BK121.out) Try.underlying37 rfl (by kernel_rfl)) rfl ?_
 exact ⟨_, by first | rfl | (simp [errW_none, errW_some] <;> rfl) | (simp [*, errW_none, errW_some] <;> rfl), by (with_reducible repeat (first | apply Kd.R_alloc | apply Kd.R_drewN | apply Kd.R_drew)); exact Kd.R_mono (Kd.R_far (p := ⟨gb121, 1, none⟩) (Kd.R_far (p := ⟨gb121, 0, none⟩) (Kd.R_types HO125.out BK121.out (by decide)) (fun _ hk => hk.2) (.slice Ao8 t122.length co8)) (fun _ hk => hk.2) (.int .i64 t123)) (fun _ hk => trivial), by repeat (first | (with_reducible first | exact HB.out | apply below_alloc | apply pw_below_drewN | apply below_drew1 | refine below_set ?_ GE120.out | refine below_set ?_ GE121.out) | exact HB.out)⟩
end Go.Proofs.Ytlldjinejckbaaa.PD

end
section
namespace Go.Proofs.Ytlldjinejckbaaa.PD
open Go.RowKit Go.Proofs.YtlldjinejckbaaaW.PrintWords Go.Proofs.YtlldjinejckbaaaW.PrintLast Go.Proofs.YtlldjinejckbaaaW.PrintMore
attribute [local go_sem] max2_int min2_int max_two min_two max_three min_three max_four min_four
set_option linter.unusedVariables false
set_option linter.unusedSimpArgs false
def digraph_Depth.f (a0 : Int) (l1 : List (S55)) : Option (List Int × Int) := if 0 ≤ a0 ∧ a0 ≤ 1000 ∧ l1.length ≤ 10000 ∧ ∀ e ∈ l1, 0 ≤ e.f0 ∧ e.f0 < a0 ∧ 0 ≤ e.f1 ∧ e.f1 < a0 then Dp.depthOf a0.toNat l1 else none
theorem digraph_Depth.calls (a0 : Int) (A1 : Option Addr) (c1 : Nat) (l1 : List (S55)) (r1 : List Int) (r2 : Int) (w : World) (hr1 : Kd.C k55 w A1 l1.length l1) (hc1 : l1.length ≤ c1) (h : digraph_Depth.f a0 l1 = some (r1, r2)) :
  Calls Try.prog 40 #[.int .i64 a0, .slice A1 l1.length c1] w fun e w' => ∃ v0_ : Value, e = .returned (.tuple #[v0_, .int .i64 r2]) ∧ Kd.R (Kd.int .i64) 3 w' w.heap.size (fun _ => True) v0_ r1 ∧ Below w.heap.size w w' := by
 unfold digraph_Depth.f at h
 split at h
 ·rename_i hp
  obtain ⟨n, rfl⟩ := Int.eq_ofNat_of_zero_le hp.1
  rw [Int.toNat_natCast] at h
  exact Dp.Depth_calls n (by omega) A1 c1 l1 r1 r2 w hr1 hc1 hp.2.2.1 hp.2.2.2 h
 ·cases h
end Go.Proofs.Ytlldjinejckbaaa.PD

end
section
namespace Go.Proofs.Ytlldjinejckbaaa.PD
open Go.RowKit Go.Proofs.YtlldjinejckbaaaW.PrintWords Go.Proofs.YtlldjinejckbaaaW.PrintLast Go.Proofs.YtlldjinejckbaaaW.PrintMore
attribute [local go_sem] max2_int min2_int max_two min_two max_three min_three max_four min_four
set_option linter.unusedVariables false
set_option linter.unusedSimpArgs false
def wireloomlaw05_depth.f (a0_0 : Int) (l0_1 : List (S55)) : Option (List Int × Int) := (digraph_Depth.f a0_0 l0_1).bind fun bt131 => (some (bt131.1, bt131.2))
set_option maxHeartbeats 8000000 in
set_option maxRecDepth 100000 in
theorem wireloomlaw05_depth.calls (a0_0 : Int) (A0_1 : Option Addr) (c0_1 : Nat) (l0_1 : List (S55)) (r1 : List Int) (r2 : Int) (w : World) (hr0_1 : Kd.C k55 w A0_1 l0_1.length l0_1) (hc0_1 : l0_1.length ≤ c0_1) (h : wireloomlaw05_depth.f a0_0 l0_1 = some (r1, r2)) :
  Calls Try.prog 19 #[.agg #[.int .i64 a0_0, .slice A0_1 l0_1.length c0_1]] w fun e w' => ∃ v0_ : Value, e = .returned (.agg #[v0_, .int .i64 r2]) ∧ Kd.R (Kd.int .i64) 3 w' w.heap.size (fun _ => True) v0_ r1 ∧ Below w.heap.size w w' := by
 have hu31 := Try.underlying31
 have hu37 := Try.underlying37
 have HR0_1 := Aside0.mk hr0_1
 have HC0_1 := Aside0.mk hc0_1
 clear hr0_1 hc0_1
 have HB := Aside0.mk (Below.refl w.heap.size w)
 have H : ((digraph_Depth.f a0_0 l0_1).bind fun bt131 => (some (bt131.1, bt131.2))) = some (r1, r2) := h
 clear h
 replace H := Option.bind_eq_some_iff.mp H
 obtain ⟨⟨t131, t132⟩, A20, H⟩ := H
 replace H : (some (t131, t132)) = some (r1, r2) := H
 have A2 := Aside0.mk A20
 clear A20
 simp only [Option.some.injEq, Prod.mk.injEq] at H
 obtain ⟨rfl, rfl⟩ := H
 go_enter Try.func19, Try.ntmps19
 go_wp2_with (first | ((with_reducible refine gate_dst (N := 1) rfl ?_); refine box_event ?hg (N := 1) ?hd (cs := #[.int .i64 a0_0, .slice A0_1 l0_1.length c0_1]) (t := 31) ?hr ?_; (case hd => rfl); (case hg => rfl); (case hr => first | (go_simp; done) | (go_simp; rfl)); intro gb129 hg w3 hbox hb; have n0_ := Aside0.mk (below_step (by repeat (first | (with_reducible first | exact HB.out | apply below_alloc | apply pw_below_drewN | apply below_drew1) | exact HB.out)) hb); have n1_ := Aside0.mk (hbox); have n2_ := Aside0.mk ((by rw [hg]; exact (below_size (by repeat (first | (with_reducible first | exact HB.out | apply below_alloc | apply pw_below_drewN | apply below_drew1) | exact HB.out))) : w.heap.size ≤ gb129)); have n3_ := Aside0.mk ((by rw [hg]; exact (below_size (by repeat (first | (with_reducible first | exact HB.out | apply below_alloc | apply pw_below_drewN | apply below_drew1) | exact HB.out))) : w.heap.size ≤ gb129)); clear HB; have HB := n0_; have BK129 := n1_; have GW129 := n2_; have GE129 := n3_; clear n0_ n1_ n2_ n3_; clear hb hbox hg) | ((with_reducible refine gate_dst (N := 2) rfl ?_); refine box_event ?hg (N := 2) ?hd (cs := #[.slice none 0 0, .int .i64 0]) (t := 37) ?hr ?_; (case hd => rfl); (case hg => rfl); (case hr => first | (go_simp; done) | (go_simp; rfl)); intro gb130 hg w4 hbox hb; have n0_ := Aside0.mk (blk_below (g := gb129) (o := .cells #[.int .i64 a0_0, .slice A0_1 l0_1.length c0_1] 31 (0, 0)) (bA BK129.out) hb); have n1_ := Aside0.mk (below_step (by repeat (first | (with_reducible first | exact HB.out | apply below_alloc | apply pw_below_drewN | apply below_drew1 | refine below_set ?_ GE129.out) | exact HB.out)) hb); have n2_ := Aside0.mk (hbox); have n3_ := Aside0.mk ((by rw [hg]; exact (below_size (by repeat (first | (with_reducible first | exact HB.out | apply below_alloc | apply pw_below_drewN | apply below_drew1 | refine below_set ?_ GE129.out) | exact HB.out))) : w.heap.size ≤ gb130)); have n4_ := Aside0.mk ((by rw [hg]; exact (below_size (by repeat (first | (with_reducible first | exact HB.out | apply below_alloc | apply pw_below_drewN | apply below_drew1 | refine below_set ?_ GE129.out) | exact HB.out))) : w.heap.size ≤ gb130)); have n5_ := Aside0.mk ((by rw [hg]; exact Nat.ne_of_lt (blk_lt (g := gb129) (o := .cells #[.int .i64 a0_0, .slice A0_1 l0_1.length c0_1] 31 (0, 0)) (bA BK129.out)) : gb129 ≠ gb130)); have n6_ := Aside0.mk ((by rw [hg]; exact Nat.ne_of_gt (blk_lt (g := gb129) (o := .cells #[.int .i64 a0_0, .slice A0_1 l0_1.length c0_1] 31 (0, 0)) (bA BK129.out)) : gb130 ≠ gb129)); clear BK129; clear HB; have BK129 := n0_; have HB := n1_; have BK130 := n2_; have GW130 := n3_; have GE130 := n4_; have NB129_130 := n5_; have NB130_129 := n6_; clear n0_ n1_ n2_ n3_ n4_ n5_ n6_; clear hb hbox hg; have hnb5 := NB129_130.out; have hnc5 := NB130_129.out; have hcz6_0 : w4.cell? ⟨gb129, 0, none⟩ = some (.int .i64 a0_0) := (blk_cell BK129.out 0).trans rfl; have hcz6_1 : w4.cell? ⟨gb129, 1, none⟩ = some (.slice A0_1 l0_1.length c0_1) := (blk_cell BK129.out 1).trans rfl; have hfz6_0 := blk_frozen BK129.out 0; have hfz6_1 := blk_frozen BK129.out 1) | ((with_reducible refine gate_callee (f := 40) rfl ?_); refine goesL_ (some 10) rfl rfl Try.func40 (by kernel_rfl) rfl #[.int .i64 a0_0, .slice A0_1 l0_1.length c0_1] rfl (by (try simp only [List.map_toArray, List.map_cons, List.map_nil]); first | done | rfl | (simp only [List.length_drop, List.length_take]; rfl)) ?_; (with_reducible refine (digraph_Depth.calls a0_0 _ _ l0_1 t131 t132 _ ?side1 ?side2 A2.out).mono ?_); (case side1 => repeat (first | exact (Kd.C_below HR0_1.out HB.out) | (with_reducible refine Kd.C_alloc ?_ _) | (with_reducible refine Kd.C_drewN ?_ _) | (with_reducible refine Kd.C_drew ?_))); (case side2 => exact HC0_1.out); rintro e w7 ⟨v133, rfl, ho0, hb⟩; refine ⟨_, rfl, ?_⟩; have n0_ := Aside0.mk (Kd.R_lower ho0 (below_size (by repeat (first | (with_reducible first | exact HB.out | apply below_alloc | apply pw_below_drewN | apply below_drew1 | refine below_set ?_ GE129.out | refine below_set ?_ GE130.out) | exact HB.out)))); have n1_ := Aside0.mk (blk_below (g := gb129) (o := .cells #[.int .i64 a0_0, .slice A0_1 l0_1.length c0_1] 31 (0, 0)) (bA BK129.out) hb); have n2_ := Aside0.mk (blk_below (g := gb130) (o := .cells #[.slice none 0 0, .int .i64 0] 37 (0, 0)) (bA BK130.out) hb); have n3_ := Aside0.mk (below_step (by repeat (first | (with_reducible first | exact HB.out | apply below_alloc | apply pw_below_drewN | apply below_drew1 | refine below_set ?_ GE129.out | refine below_set ?_ GE130.out) | exact HB.out)) hb); clear BK129; clear BK130; clear HB; have HO134 := n0_; have BK129 := n1_; have BK130 := n2_; have HB := n3_; clear n0_ n1_ n2_ n3_; (try clear hb); (try clear hb2); (try clear hk); (try clear hi); (try clear ho0); obtain ⟨Ao8, co8, eo8⟩ := Kd.R_slice HO134.out; subst eo8; have hcz9_0 : w7.cell? ⟨gb130, 0, none⟩ = some (.slice none 0 0) := (blk_cell BK130.out 0).trans rfl; have hcz9_1 : w7.cell? ⟨gb130, 1, none⟩ = some (.int .i64 0) := (blk_cell BK130.out 1).trans rfl; have hfz9_0 := blk_frozen BK130.out 0; have hfz9_1 := blk_frozen BK130.out 1))
 refine bodyPost_ret (results_cell_row rfl _ _ gb130 37 #[.slice Ao8 t131.length co8, .int .i64 t132] (0, 0) _ rfl (by (with_reducible repeat (first | refine blk_drewN ?_ _ | refine blk_drew ?_ | refine blk_alloc ?_ _)); refine blk_put (cs := #[.slice Ao8 t131.length co8, .int .i64 0]) ?_ 1 _ rfl; (with_reducible repeat (first | refine blk_drewN ?_ _ | refine blk_drew ?_ | refine blk_alloc ?_ _)); refine blk_put (cs := #[.slice none 0 0, .int .i64 0]) ?_ 0 _ rfl; (with_reducible repeat (first | refine blk_drewN ?_ _ | refine blk_drew ?_ | refine blk_alloc ?_ _)); exact BK130.out) Try.underlying37 rfl (by kernel_rfl)) rfl ?_
 exact ⟨_, by first | rfl | (simp [errW_none, errW_some] <;> rfl) | (simp [*, errW_none, errW_some] <;> rfl), by (with_reducible repeat (first | apply Kd.R_alloc | apply Kd.R_drewN | apply Kd.R_drew)); exact Kd.R_mono (Kd.R_far (p := ⟨gb130, 1, none⟩) (Kd.R_far (p := ⟨gb130, 0, none⟩) (Kd.R_types HO134.out BK130.out (by decide)) (fun _ hk => hk.2) (.slice Ao8 t131.length co8)) (fun _ hk => hk.2) (.int .i64 t132)) (fun _ hk => trivial), by repeat (first | (with_reducible first | exact HB.out | apply below_alloc | apply pw_below_drewN | apply below_drew1 | refine below_set ?_ GE129.out | refine below_set ?_ GE130.out) | exact HB.out)⟩
end Go.Proofs.Ytlldjinejckbaaa.PD

end
section
namespace Go.Proofs.Ytlldjinejckbaaa.PD
open Go.RowKit Go.Proofs.YtlldjinejckbaaaW.PrintWords Go.Proofs.YtlldjinejckbaaaW.PrintLast Go.Proofs.YtlldjinejckbaaaW.PrintMore
attribute [local go_sem] max2_int min2_int max_two min_two max_three min_three max_four min_four
set_option linter.unusedVariables false
set_option linter.unusedSimpArgs false
def digraph_Check.f (a0 : Int) (l1 : List (S55)) (l2 : List Int) : Option (Int) := if (0 ≤ a0 ∧ a0 ≤ 1000 ∧ l1.length ≤ 10000 ∧ ∀ e ∈ l1, 0 ≤ e.f0 ∧ e.f0 < a0 ∧ 0 ≤ e.f1 ∧ e.f1 < a0) ∧ l2.length ≤ 1000000 then some (Ck.checkOf a0.toNat l1 l2) else none
theorem digraph_Check.calls (a0 : Int) (A1 : Option Addr) (c1 : Nat) (l1 : List (S55)) (A2 : Option Addr) (c2 : Nat) (l2 : List Int) (r : Int) (w : World) (hr1 : Kd.C k55 w A1 l1.length l1) (hc1 : l1.length ≤ c1) (hr2 : Kd.C (Kd.int .i64) w A2 l2.length l2) (hc2 : l2.length ≤ c2) (h : digraph_Check.f a0 l1 l2 = some r) :
  Calls Try.prog 21 #[.int .i64 a0, .slice A1 l1.length c1, .slice A2 l2.length c2] w fun e w' => e = .returned (.int .i64 r) ∧ Below w.heap.size w w' := by
 unfold digraph_Check.f at h
 split at h
 ·rename_i hp
  obtain ⟨n, rfl⟩ := Int.eq_ofNat_of_zero_le hp.1.1
  rw [Int.toNat_natCast] at h
  rw [← Option.some.inj h]
  exact Ck.Check_calls n (by omega) A1 c1 l1 A2 c2 l2 w hr1 hr2 hp.1.2.2.1 hp.2 hp.1.2.2.2
 ·cases h
end Go.Proofs.Ytlldjinejckbaaa.PD

end
section
namespace Go.Proofs.Ytlldjinejckbaaa.PD
open Go.RowKit Go.Proofs.YtlldjinejckbaaaW.PrintWords Go.Proofs.YtlldjinejckbaaaW.PrintLast Go.Proofs.YtlldjinejckbaaaW.PrintMore
attribute [local go_sem] max2_int min2_int max_two min_two max_three min_three max_four min_four
set_option linter.unusedVariables false
set_option linter.unusedSimpArgs false
def wireloomref05_SameLists.l0 : Nat → List (List Int) → List (List Int) → Int → Option (Bool)
 | 0, _, _, _ => none
 | k + 1, x0, x1, x5 => if x5 < (x0.length : Int) then (if 0 ≤ x5 then (if x5 < (x1.length : Int) then ((wireloomref05_Same.f k (rd_L2 x0 x5) (rd_L2 x1 x5)).bind fun t143 => (if t143 = true then (wireloomref05_SameLists.l0 k x0 x1 (wrap64 (x5 + 1))) else (some false))) else (none)) else (none)) else (some true)
def wireloomref05_SameLists.f (k : Nat) (l0 : List (List Int)) (l1 : List (List Int)) : Option (Bool) := if (l0.length : Int) = (l1.length : Int) then (wireloomref05_SameLists.l0 k l0 l1 0) else (some false)
theorem wireloomref05_SameLists.mono_l : ∀ k, (∀ y0 y1 y2, LeO (wireloomref05_SameLists.l0 k y0 y1 y2) (wireloomref05_SameLists.l0 (k + 1) y0 y1 y2))
 | 0 => fun _ _ _ r h => by simp [wireloomref05_SameLists.l0] at h
 | k + 1 => by
  have ih0 := wireloomref05_SameLists.mono_l k
  ·intro y0 y1 y2
   unfold wireloomref05_SameLists.l0
   repeat' first
   | (with_reducible exact ih0 _ _ _)
   | (with_reducible exact wireloomref05_Same.mono _ _ _)
   | (with_reducible exact LeO.refl _)
   | (with_reducible exact LeO.none _)
   | (with_reducible refine LeO.ite ?_ ?_)
   | (with_reducible refine LeO.bind ?_ (fun _ => ?_))
   | exact ih0 _ _ _
   | exact wireloomref05_Same.mono _ _ _
   | exact LeO.none _
   | refine LeO.ite ?_ ?_
   | refine LeO.bind ?_ (fun _ => ?_)
theorem wireloomref05_SameLists.mono : ∀ a0 a1 k, LeO (wireloomref05_SameLists.f k a0 a1) (wireloomref05_SameLists.f (k + 1) a0 a1) := by
 intro a0 a1 k
 have ih0 := wireloomref05_SameLists.mono_l k
 unfold wireloomref05_SameLists.f
 repeat' first
   | (with_reducible exact ih0 _ _ _)
   | (with_reducible exact wireloomref05_Same.mono _ _ _)
   | (with_reducible exact LeO.refl _)
   | (with_reducible exact LeO.none _)
   | (with_reducible refine LeO.ite ?_ ?_)
   | (with_reducible refine LeO.bind ?_ (fun _ => ?_))
   | exact ih0 _ _ _
   | exact wireloomref05_Same.mono _ _ _
   | exact LeO.none _
   | refine LeO.ite ?_ ?_
   | refine LeO.bind ?_ (fun _ => ?_)
set_option maxHeartbeats 8000000 in
set_option maxRecDepth 100000 in
theorem wireloomref05_SameLists.calls (k : Nat) (A0 : Option Addr) (c0 : Nat) (l0 : List (List Int)) (A1 : Option Addr) (c1 : Nat) (l1 : List (List Int)) (r : Bool) (w : World) (hr0 : Kd.C (Kd.slice 3 (Kd.int .i64)) w A0 l0.length l0) (hc0 : l0.length ≤ c0) (hr1 : Kd.C (Kd.slice 3 (Kd.int .i64)) w A1 l1.length l1) (hc1 : l1.length ≤ c1) (h : wireloomref05_SameLists.f k l0 l1 = some r) :
  Calls Try.prog 26 #[.slice A0 l0.length c0, .slice A1 l1.length c1] w fun e w' => e = .returned (.bool r) ∧ Drawn0 w w' := by
 have HR0 := Aside0.mk hr0
 have HC0 := Aside0.mk hc0
 clear hr0 hc0
 have HR1 := Aside0.mk hr1
 have HC1 := Aside0.mk hc1
 clear hr1 hc1
 have H : (if (l0.length : Int) = (l1.length : Int) then (wireloomref05_SameLists.l0 k l0 l1 0) else (some false)) = some r := h
 clear h
 by_cases c3 : (l0.length : Int) = (l1.length : Int)
 ·rw [if_pos c3] at H
  have c3b0 : ((l0.length : Int) == (l1.length : Int)) = true := beq_iff_eq.mpr c3
  have c3b1 : ((l0.length : Int) != (l1.length : Int)) = false := bne_eq_false_iff_eq.mpr c3
  have c3b2 : (l0.length == l1.length) = true := by first | simpa using c3 | (simp at c3 ⊢; omega)
  clear c3
  have H' := Aside0.mk H
  clear H
  go_enter Try.func26, Try.ntmps26
  go_wp2
  repeat (go_quiet (fail); try go_wp2)
  go_loopg [5] k (fun kq v5 w' => ∃ (x5_1 : Int), v5 = .int .i64 x5_1 ∧ Aside0 (wireloomref05_SameLists.l0 kq l0 l1 x5_1 = some r) ∧ Aside0 (kq ≤ k) ∧ Drawn0 w w')
  case atStart => exact ⟨(0), (by first | rfl | (simp; done) | (simp [*]; done)), H', ⟨Nat.le_refl _⟩, by repeat (first | exact Drawn0.refl _ | apply Drawn0.step)⟩
  case round =>
   clear H'
   try clear c1
   try clear c2
   try clear p2
   try clear c3
   try clear c3b0
   try clear c3b1
   try clear c3b2
   obtain ⟨x5_1, rfl, HA, HK1, ⟨m1, rfl⟩⟩ := hrel
   cases gk with
   | zero => exact absurd HA.out (by simp [wireloomref05_SameLists.l0])
   | succ k1 =>
    have H := HA.out
    clear HA
    simp only [wireloomref05_SameLists.l0] at H
    by_cases c4 : x5_1 < (l0.length : Int)
    ·rw [if_pos c4] at H
     have c4b0 : decide (x5_1 < (l0.length : Int)) = true := decide_eq_true c4
     clear c4
     by_cases c5 : 0 ≤ x5_1
     ·rw [if_pos c5] at H
      have c5b0 : decide (0 ≤ x5_1) = true := decide_eq_true c5
      clear c5
      by_cases c6 : x5_1 < (l1.length : Int)
      ·rw [if_pos c6] at H
       have c6b0 : decide (x5_1 < (l1.length : Int)) = true := decide_eq_true c6
       clear c6
       replace H := Option.bind_eq_some_iff.mp H
       obtain ⟨t143, A70, H⟩ := H
       replace H : (if t143 = true then (wireloomref05_SameLists.l0 k1 l0 l1 (wrap64 (x5_1 + 1))) else (some false)) = some r := H
       have A7 := Aside0.mk A70
       clear A70
       by_cases c8 : t143 = true
       ·subst c8
        have H1 : (wireloomref05_SameLists.l0 k1 l0 l1 (wrap64 (x5_1 + 1))) = some r := by rw [if_pos rfl] at H; exact H
        clear H
        have H := H1
        clear H1
        have H' := Aside0.mk H
        clear H
        have p141 : 0 ≤ (x5_1 : Int) := of_decide_eq_true (by first | (with_reducible assumption) | assumption)
        have q141 : x5_1 < (l0.length : Int) := of_decide_eq_true (by first | (with_reducible assumption) | assumption)
        obtain ⟨ad141, A141_0, c141_0, e141, hx141_0, hl141_0, hi141_0⟩ := at_L2 HR0.out x5_1 p141 q141
        cases e141
        have HR141_0 := Aside0.mk hi141_0
        have HC141_0 := Aside0.mk hl141_0
        clear hi141_0 hl141_0
        replace p141 := eq_true p141
        replace q141 := eq_true q141
        have p142 : 0 ≤ (x5_1 : Int) := of_decide_eq_true (by first | (with_reducible assumption) | assumption)
        have q142 : x5_1 < (l1.length : Int) := of_decide_eq_true (by first | (with_reducible assumption) | assumption)
        obtain ⟨ad142, A142_0, c142_0, e142, hx142_0, hl142_0, hi142_0⟩ := at_L2 HR1.out x5_1 p142 q142
        cases e142
        have HR142_0 := Aside0.mk hi142_0
        have HC142_0 := Aside0.mk hl142_0
        clear hi142_0 hl142_0
        replace p142 := eq_true p142
        replace q142 := eq_true q142
        go_wp2_with (first | (go_at_call 23; (with_reducible refine (wireloomref05_Same.calls k1 _ _ (rd_L2 l0 x5_1) _ _ (rd_L2 l1 x5_1) true _ ?side1 ?side2 ?side3 ?side4 A7.out).mono ?_); (case side1 => repeat (first | exact HR141_0.out | (with_reducible refine Kd.C_alloc ?_ _) | (with_reducible refine Kd.C_drewN ?_ _) | (with_reducible refine Kd.C_drew ?_))); (case side2 => exact HC141_0.out); (case side3 => repeat (first | exact HR142_0.out | (with_reducible refine Kd.C_alloc ?_ _) | (with_reducible refine Kd.C_drewN ?_ _) | (with_reducible refine Kd.C_drew ?_))); (case side4 => exact HC142_0.out); rintro e w' ⟨rfl, ⟨nd, rfl⟩⟩; (try first | exact ⟨rfl, _, World.drewN_drewN _ _ _⟩ | exact ⟨rfl, _, Eq.trans (World.drewN_drewN _ _ _) (congrArg (World.drewN _) (Nat.add_assoc _ _ _))⟩)))
        repeat (go_quiet (first | (go_at_call 23; (with_reducible refine (wireloomref05_Same.calls k1 _ _ (rd_L2 l0 x5_1) _ _ (rd_L2 l1 x5_1) true _ ?side1 ?side2 ?side3 ?side4 A7.out).mono ?_); (case side1 => repeat (first | exact HR141_0.out | (with_reducible refine Kd.C_alloc ?_ _) | (with_reducible refine Kd.C_drewN ?_ _) | (with_reducible refine Kd.C_drew ?_))); (case side2 => exact HC141_0.out); (case side3 => repeat (first | exact HR142_0.out | (with_reducible refine Kd.C_alloc ?_ _) | (with_reducible refine Kd.C_drewN ?_ _) | (with_reducible refine Kd.C_drew ?_))); (case side4 => exact HC142_0.out); rintro e w' ⟨rfl, ⟨nd, rfl⟩⟩; (try first | exact ⟨rfl, _, World.drewN_drewN _ _ _⟩ | exact ⟨rfl, _, Eq.trans (World.drewN_drewN _ _ _) (congrArg (World.drewN _) (Nat.add_assoc _ _ _))⟩))); try go_wp2_with (first | (go_at_call 23; (with_reducible refine (wireloomref05_Same.calls k1 _ _ (rd_L2 l0 x5_1) _ _ (rd_L2 l1 x5_1) true _ ?side1 ?side2 ?side3 ?side4 A7.out).mono ?_); (case side1 => repeat (first | exact HR141_0.out | (with_reducible refine Kd.C_alloc ?_ _) | (with_reducible refine Kd.C_drewN ?_ _) | (with_reducible refine Kd.C_drew ?_))); (case side2 => exact HC141_0.out); (case side3 => repeat (first | exact HR142_0.out | (with_reducible refine Kd.C_alloc ?_ _) | (with_reducible refine Kd.C_drewN ?_ _) | (with_reducible refine Kd.C_drew ?_))); (case side4 => exact HC142_0.out); rintro e w' ⟨rfl, ⟨nd, rfl⟩⟩; (try first | exact ⟨rfl, _, World.drewN_drewN _ _ _⟩ | exact ⟨rfl, _, Eq.trans (World.drewN_drewN _ _ _) (congrArg (World.drewN _) (Nat.add_assoc _ _ _))⟩))))
        go_roundg k1
        case measure => have := HK1.out; omega
        case rel => exact ⟨(wrap64 (x5_1 + 1)), (by first | rfl | (simp; done) | (simp [*]; done)), H', ⟨by have := HK1.out; omega⟩, by repeat (first | exact Drawn0.refl _ | apply Drawn0.step)⟩
       ·replace c8 := Bool.eq_false_iff.mpr c8
        subst c8
        have H1 : (some false) = some r := by rw [if_neg (show ¬ (false = true) by decide)] at H; exact H
        clear H
        have H := H1
        clear H1
        obtain rfl := Option.some.inj H
        have p141 : 0 ≤ (x5_1 : Int) := of_decide_eq_true (by first | (with_reducible assumption) | assumption)
        have q141 : x5_1 < (l0.length : Int) := of_decide_eq_true (by first | (with_reducible assumption) | assumption)
        obtain ⟨ad141, A141_0, c141_0, e141, hx141_0, hl141_0, hi141_0⟩ := at_L2 HR0.out x5_1 p141 q141
        cases e141
        have HR141_0 := Aside0.mk hi141_0
        have HC141_0 := Aside0.mk hl141_0
        clear hi141_0 hl141_0
        replace p141 := eq_true p141
        replace q141 := eq_true q141
        have p142 : 0 ≤ (x5_1 : Int) := of_decide_eq_true (by first | (with_reducible assumption) | assumption)
        have q142 : x5_1 < (l1.length : Int) := of_decide_eq_true (by first | (with_reducible assumption) | assumption)
        obtain ⟨ad142, A142_0, c142_0, e142, hx142_0, hl142_0, hi142_0⟩ := at_L2 HR1.out x5_1 p142 q142
        cases e142
        have HR142_0 := Aside0.mk hi142_0
        have HC142_0 := Aside0.mk hl142_0
        clear hi142_0 hl142_0
        replace p142 := eq_true p142
        replace q142 := eq_true q142
        go_wp2_with (first | (go_at_call 23; (with_reducible refine (wireloomref05_Same.calls k1 _ _ (rd_L2 l0 x5_1) _ _ (rd_L2 l1 x5_1) false _ ?side1 ?side2 ?side3 ?side4 A7.out).mono ?_); (case side1 => repeat (first | exact HR141_0.out | (with_reducible refine Kd.C_alloc ?_ _) | (with_reducible refine Kd.C_drewN ?_ _) | (with_reducible refine Kd.C_drew ?_))); (case side2 => exact HC141_0.out); (case side3 => repeat (first | exact HR142_0.out | (with_reducible refine Kd.C_alloc ?_ _) | (with_reducible refine Kd.C_drewN ?_ _) | (with_reducible refine Kd.C_drew ?_))); (case side4 => exact HC142_0.out); rintro e w' ⟨rfl, ⟨nd, rfl⟩⟩; (try first | exact ⟨rfl, _, World.drewN_drewN _ _ _⟩ | exact ⟨rfl, _, Eq.trans (World.drewN_drewN _ _ _) (congrArg (World.drewN _) (Nat.add_assoc _ _ _))⟩)))
        repeat (go_quiet (first | (go_at_call 23; (with_reducible refine (wireloomref05_Same.calls k1 _ _ (rd_L2 l0 x5_1) _ _ (rd_L2 l1 x5_1) false _ ?side1 ?side2 ?side3 ?side4 A7.out).mono ?_); (case side1 => repeat (first | exact HR141_0.out | (with_reducible refine Kd.C_alloc ?_ _) | (with_reducible refine Kd.C_drewN ?_ _) | (with_reducible refine Kd.C_drew ?_))); (case side2 => exact HC141_0.out); (case side3 => repeat (first | exact HR142_0.out | (with_reducible refine Kd.C_alloc ?_ _) | (with_reducible refine Kd.C_drewN ?_ _) | (with_reducible refine Kd.C_drew ?_))); (case side4 => exact HC142_0.out); rintro e w' ⟨rfl, ⟨nd, rfl⟩⟩; (try first | exact ⟨rfl, _, World.drewN_drewN _ _ _⟩ | exact ⟨rfl, _, Eq.trans (World.drewN_drewN _ _ _) (congrArg (World.drewN _) (Nat.add_assoc _ _ _))⟩))); try go_wp2_with (first | (go_at_call 23; (with_reducible refine (wireloomref05_Same.calls k1 _ _ (rd_L2 l0 x5_1) _ _ (rd_L2 l1 x5_1) false _ ?side1 ?side2 ?side3 ?side4 A7.out).mono ?_); (case side1 => repeat (first | exact HR141_0.out | (with_reducible refine Kd.C_alloc ?_ _) | (with_reducible refine Kd.C_drewN ?_ _) | (with_reducible refine Kd.C_drew ?_))); (case side2 => exact HC141_0.out); (case side3 => repeat (first | exact HR142_0.out | (with_reducible refine Kd.C_alloc ?_ _) | (with_reducible refine Kd.C_drewN ?_ _) | (with_reducible refine Kd.C_drew ?_))); (case side4 => exact HC142_0.out); rintro e w' ⟨rfl, ⟨nd, rfl⟩⟩; (try first | exact ⟨rfl, _, World.drewN_drewN _ _ _⟩ | exact ⟨rfl, _, Eq.trans (World.drewN_drewN _ _ _) (congrArg (World.drewN _) (Nat.add_assoc _ _ _))⟩))))
        go_ret
        exact ⟨by first | rfl | (simp; done) | (simp [*]; done), by repeat (first | exact Drawn0.refl _ | apply Drawn0.step)⟩
      ·rw [if_neg c6] at H
       exact absurd H (by simp)
     ·rw [if_neg c5] at H
      exact absurd H (by simp)
    ·rw [if_neg c4] at H
     have c4b0 : decide (x5_1 < (l0.length : Int)) = false := decide_eq_false c4
     clear c4
     obtain rfl := Option.some.inj H
     go_wp2
     repeat (go_quiet (fail); try go_wp2)
     go_ret
     exact ⟨by first | rfl | (simp; done) | (simp [*]; done), by repeat (first | exact Drawn0.refl _ | apply Drawn0.step)⟩
 ·rw [if_neg c3] at H
  have c3b0 : ((l0.length : Int) == (l1.length : Int)) = false := beq_eq_false_iff_ne.mpr c3
  have c3b1 : ((l0.length : Int) != (l1.length : Int)) = true := bne_iff_ne.mpr c3
  have c3b2 : (l0.length == l1.length) = false := by first | simpa using c3 | (simp at c3 ⊢; omega)
  obtain rfl := Option.some.inj H
  go_enter Try.func26, Try.ntmps26
  go_wp2
  repeat (go_quiet (fail); try go_wp2)
  go_ret
  exact ⟨by first | rfl | (simp; done) | (simp [*]; done), by repeat (first | exact Drawn0.refl _ | apply Drawn0.step)⟩
end Go.Proofs.Ytlldjinejckbaaa.PD

end
section
namespace Go.Proofs.Ytlldjinejckbaaa.PD
open Go.RowKit Go.Proofs.YtlldjinejckbaaaW.PrintWords Go.Proofs.YtlldjinejckbaaaW.PrintLast Go.Proofs.YtlldjinejckbaaaW.PrintMore
attribute [local go_sem] max2_int min2_int max_two min_two max_three min_three max_four min_four
set_option linter.unusedVariables false
set_option linter.unusedSimpArgs false
def wireloomref05_With.f (a0_0 : Int) (l0_1 : List (S55)) (a1 : Int) (a2 : Int) : Option (Int × (List (S55))) := (some (([] : List (S55)) : List (S55))).bind fun y149 => (if y149.length + l0_1.length < 8796093022208 then ((some (y149 ++ l0_1 : List (S55))).bind fun y152 => ((some (([(⟨a1, a2⟩ : S55)] : List (S55)) : List (S55))).bind fun y155 => (if y152.length + y155.length < 8796093022208 then (some (a0_0, (y152 ++ y155))) else (none)))) else (none))
def wireloomref05_With.T1 : Bool × List (List Nat × List Nat) := (true, [([], []), ([0], [0]), ([], []), ([], []), ([3], [3]), ([2, 4], [2, 4]), ([], []), ([], []), ([6, 7], [6, 7]), ([8], [8]), ([5, 9, 5], [5, 9]), ([1, 10], [1, 10]), ([11, 10, 0, 1, 2, 3, 4, 5, 6, 7, 8, 9, 10, 11], [11])])
def wireloomref05_With.B1 : List Nat := [0, 1, 0, 0, 8, 28, 0, 0, 192, 448, 1020, 2047, 4095]
theorem wireloomref05_With.tab1 : rtab .any (opsOf Try.f32 1) = wireloomref05_With.T1 := by kernel_rfl
theorem wireloomref05_With.bits1 : waitsOk wireloomref05_With.T1.2 wireloomref05_With.B1 = true := by kernel_rfl
set_option maxHeartbeats 8000000 in
set_option maxRecDepth 100000 in
theorem wireloomref05_With.calls (a0_0 : Int) (A0_1 : Option Addr) (c0_1 : Nat) (l0_1 : List (S55)) (a1 : Int) (a2 : Int) (r1 : Int) (r2 : List (S55)) (w : World) (hr0_1 : Kd.C k55 w A0_1 l0_1.length l0_1) (hc0_1 : l0_1.length ≤ c0_1) (h : wireloomref05_With.f a0_0 l0_1 a1 a2 = some (r1, r2)) :
  Calls Try.prog 32 #[.agg #[.int .i64 a0_0, .slice A0_1 l0_1.length c0_1], .int .i64 a1, .int .i64 a2] w fun e w' => ∃ v1_ : Value, e = .returned (.agg #[.int .i64 r1, v1_]) ∧ Kd.R k55 55 w' w.heap.size (fun _ => True) v1_ r2 ∧ Below w.heap.size w w' := by
 have hu31 := Try.underlying31
 have hu55 := Try.underlying55
 have HR0_1 := Aside0.mk hr0_1
 have HC0_1 := Aside0.mk hc0_1
 clear hr0_1 hc0_1
 have HB := Aside0.mk (Below.refl w.heap.size w)
 have H : ((some (([] : List (S55)) : List (S55))).bind fun y149 => (if y149.length + l0_1.length < 8796093022208 then ((some (y149 ++ l0_1 : List (S55))).bind fun y152 => ((some (([(⟨a1, a2⟩ : S55)] : List (S55)) : List (S55))).bind fun y155 => (if y152.length + y155.length < 8796093022208 then (some (a0_0, (y152 ++ y155))) else (none)))) else (none))) = some (r1, r2) := h
 clear h
 obtain ⟨y149, hy149⟩ : ∃ y_ : List (S55), y_ = (([] : List (S55))) := ⟨_, rfl⟩
 replace H : (if y149.length + l0_1.length < 8796093022208 then ((some (y149 ++ l0_1 : List (S55))).bind fun y152 => ((some (([(⟨a1, a2⟩ : S55)] : List (S55)) : List (S55))).bind fun y155 => (if y152.length + y155.length < 8796093022208 then (some (a0_0, (y152 ++ y155))) else (none)))) else (none)) = some (r1, r2) := by first | (rw [hy149]; with_reducible exact H) | (have H2_ := (Option.bind_some _ _).symm.trans H; rw [hy149]; with_reducible exact H2_) | (have H2_ := (Option.bind_some _ _).symm.trans H; with_reducible exact H2_) | with_reducible exact H | (rw [hy149]; exact H) | exact H
 have Ny149 := Aside0.mk hy149
 clear hy149
 by_cases c4 : y149.length + l0_1.length < 8796093022208
 ·rw [if_pos c4] at H
  have LMc4 := Aside0.mk c4
  clear c4
  obtain ⟨y152, hy152⟩ : ∃ y_ : List (S55), y_ = (y149 ++ l0_1) := ⟨_, rfl⟩
  replace H : ((some (([(⟨a1, a2⟩ : S55)] : List (S55)) : List (S55))).bind fun y155 => (if y152.length + y155.length < 8796093022208 then (some (a0_0, (y152 ++ y155))) else (none))) = some (r1, r2) := by first | (rw [hy152]; with_reducible exact H) | (have H2_ := (Option.bind_some _ _).symm.trans H; rw [hy152]; with_reducible exact H2_) | (have H2_ := (Option.bind_some _ _).symm.trans H; with_reducible exact H2_) | with_reducible exact H | (rw [hy152]; exact H) | exact H
  have Ny152 := Aside0.mk hy152
  clear hy152
  obtain ⟨y155, hy155⟩ : ∃ y_ : List (S55), y_ = (([(⟨a1, a2⟩ : S55)] : List (S55))) := ⟨_, rfl⟩
  replace H : (if y152.length + y155.length < 8796093022208 then (some (a0_0, (y152 ++ y155))) else (none)) = some (r1, r2) := by first | (rw [hy155]; with_reducible exact H) | (have H2_ := (Option.bind_some _ _).symm.trans H; rw [hy155]; with_reducible exact H2_) | (have H2_ := (Option.bind_some _ _).symm.trans H; with_reducible exact H2_) | with_reducible exact H | (rw [hy155]; exact H) | exact H
  have Ny155 := Aside0.mk hy155
  clear hy155
  by_cases c5 : y152.length + y155.length < 8796093022208
  ·rw [if_pos c5] at H
   have LMc5 := Aside0.mk c5
   clear c5
   obtain ⟨y158, hy158⟩ : ∃ y_ : List (S55), y_ = (y152 ++ y155) := ⟨_, rfl⟩
   replace H : (some (a0_0, y158)) = some (r1, r2) := by first | (rw [hy158]; with_reducible exact H) | (have H2_ := (Option.bind_some _ _).symm.trans H; rw [hy158]; with_reducible exact H2_) | (have H2_ := (Option.bind_some _ _).symm.trans H; with_reducible exact H2_) | with_reducible exact H | (rw [hy158]; exact H) | exact H
   have Ny158 := Aside0.mk hy158
   clear hy158
   simp only [Option.some.injEq, Prod.mk.injEq] at H
   obtain ⟨rfl, rfl⟩ := H
   go_enter Try.func32, Try.ntmps32
   try go_wp2_with (first | ((with_reducible refine gate_dst (N := 3) rfl ?_); refine box_event ?hg (N := 3) ?hd (cs := #[.int .i64 a0_0, .slice A0_1 l0_1.length c0_1]) (t := 31) ?hr ?_; (case hd => rfl); (case hg => rfl); (case hr => first | (go_simp; done) | (go_simp; rfl)); intro gb147 hg w6 hbox hb; have n0_ := Aside0.mk (below_step (by repeat (first | (with_reducible first | exact HB.out | apply below_alloc | apply pw_below_drewN | apply below_drew1) | exact HB.out)) hb); have n1_ := Aside0.mk (hbox); have n2_ := Aside0.mk ((by rw [hg]; exact (below_size (by repeat (first | (with_reducible first | exact HB.out | apply below_alloc | apply pw_below_drewN | apply below_drew1) | exact HB.out))) : w.heap.size ≤ gb147)); have n3_ := Aside0.mk ((by rw [hg]; exact (below_size (by repeat (first | (with_reducible first | exact HB.out | apply below_alloc | apply pw_below_drewN | apply below_drew1) | exact HB.out))) : w.heap.size ≤ gb147)); clear HB; have HB := n0_; have BK147 := n1_; have GW147 := n2_; have GE147 := n3_; clear n0_ n1_ n2_ n3_; clear hb hbox hg) | ((with_reducible refine gate_dst (N := 6) rfl ?_); refine box_event ?hg (N := 6) ?hd (cs := #[.int .i64 0, .slice none 0 0]) (t := 31) ?hr ?_; (case hd => rfl); (case hg => rfl); (case hr => first | (go_simp; done) | (go_simp; rfl)); intro gb148 hg w7 hbox hb; have n0_ := Aside0.mk (blk_below (g := gb147) (o := .cells #[.int .i64 a0_0, .slice A0_1 l0_1.length c0_1] 31 (0, 0)) (bA BK147.out) hb); have n1_ := Aside0.mk (below_step (by repeat (first | (with_reducible first | exact HB.out | apply below_alloc | apply pw_below_drewN | apply below_drew1 | refine below_set ?_ GE147.out) | exact HB.out)) hb); have n2_ := Aside0.mk (hbox); have n3_ := Aside0.mk ((by rw [hg]; exact (below_size (by repeat (first | (with_reducible first | exact HB.out | apply below_alloc | apply pw_below_drewN | apply below_drew1 | refine below_set ?_ GE147.out) | exact HB.out))) : w.heap.size ≤ gb148)); have n4_ := Aside0.mk ((by rw [hg]; exact (below_size (by repeat (first | (with_reducible first | exact HB.out | apply below_alloc | apply pw_below_drewN | apply below_drew1 | refine below_set ?_ GE147.out) | exact HB.out))) : w.heap.size ≤ gb148)); have n5_ := Aside0.mk ((by rw [hg]; exact Nat.ne_of_lt (blk_lt (g := gb147) (o := .cells #[.int .i64 a0_0, .slice A0_1 l0_1.length c0_1] 31 (0, 0)) (bA BK147.out)) : gb147 ≠ gb148)); have n6_ := Aside0.mk ((by rw [hg]; exact Nat.ne_of_gt (blk_lt (g := gb147) (o := .cells #[.int .i64 a0_0, .slice A0_1 l0_1.length c0_1] 31 (0, 0)) (bA BK147.out)) : gb148 ≠ gb147)); clear BK147; clear HB; have BK147 := n0_; have HB := n1_; have BK148 := n2_; have GW148 := n3_; have GE148 := n4_; have NB147_148 := n5_; have NB148_147 := n6_; clear n0_ n1_ n2_ n3_ n4_ n5_ n6_; clear hb hbox hg))
   have n0_ := Aside0.mk (blk_drew BK147.out)
   have n1_ := Aside0.mk (blk_drew BK148.out)
   have n2_ := Aside0.mk (below_drew1 HB.out)
   clear BK147
   clear BK148
   clear HB
   have BK147 := n0_
   have BK148 := n1_
   have HB := n2_
   clear n0_ n1_ n2_
   refine start_ (n := 13) (S := fun w' => w'.cell? ⟨gb147, 0, none⟩ = some (.int .i64 a0_0) ∧ w'.cell? ⟨gb147, 1, none⟩ = some (.slice A0_1 l0_1.length c0_1)) (ds := []) #[false, false, false, false, false, false, false, false, false, false, false, false, false] (by kernel_rfl) rfl rfl ⟨(blk_cell BK147.out 0).trans rfl, (blk_cell BK147.out 1).trans rfl⟩ (fun hHeld => ?_); refine with_tabW wireloomref05_With.tab1 wireloomref05_With.bits1 (fun HT_ HW_ => ?_)
   generalize w7.drew = w8 at BK147 BK148 HB hHeld ⊢
   refine pV 0 7 (bz 13 0x1) HT_.out ?_
   refine pV 3 10 (bz 13 0x9) HT_.out ?_
   refine pV 6 13 (bz 13 0x49) HT_.out ?_
   refine pV 7 14 (bz 13 0xc9) HT_.out ?_
   refine pV 8 15 (bz 13 0x1c9) HT_.out ?_
   refine tV 1 8 (bz 13 0x1cb) HT_.out HW_.out hHeld rfl rfl (by rintro w' ⟨s0, s1⟩; go_simp; with_reducible rfl) ?_
   refine tV 4 11 (bz 13 0x1db) HT_.out HW_.out hHeld rfl rfl (by rintro w' ⟨s0, s1⟩; go_simp; with_reducible rfl) ?_
   refine join_ (σ := Value × Value × Value) 3 #[true, true, true, true, true, true, true, true, true, true, false, false, false] (fun s_ => [(9, s_.1), (12, s_.2.1), (16, s_.2.2)]) (fun s_ w' => (w'.cell? ⟨gb147, 0, none⟩ = some (.int .i64 a0_0) ∧ w'.cell? ⟨gb147, 1, none⟩ = some (.slice A0_1 l0_1.length c0_1)) ∧ (Kd.R k55 55 w' w.heap.size (fun k_ => some k_ ≠ (s_.2.2 : Value).ownBlock) s_.2.1 y152) ∧ (Kd.R k55 55 w' w.heap.size (fun k_ => some k_ ≠ (s_.2.1 : Value).ownBlock) s_.2.2 y155) ∧ (w'.heap[gb147]? = some (.cells #[.int .i64 a0_0, .slice A0_1 l0_1.length c0_1] 31 (0, 0))) ∧ (w'.heap[gb148]? = some (.cells #[.int .i64 0, .slice none 0 0] 31 (0, 0))) ∧ (Below w.heap.size w w')) ?_ ?_
   rotate_left
   ·intro hCont
    refine two_ (i := 2) (j := 9) (Ni := some 9) (Nj := some 16) #[true, true, true, true, true, false, true, true, true, false, false, false, false] #[true, true, false, true, true, false, true, true, true, true, false, false, false] rfl rfl rfl rfl (two_of HT_.out (by kernel_rfl)) (by decide) (by decide) (fun K hK => ?_) (fun K hK => ?_)
    ·skip
     refine Kd.R_lit_step k55 _ 55 ?hg (N := 9) ?hd (xs := ([] : List (S55))) (inner := []) (ok := fun _ => True) (okp := fun _ => True) ?hr ?hp (fun _ hk => hk) trivial (Below.refl _ _) (Nat.le_refl _) (by simp) ?_; (case hd => rfl); (case hg => rfl); (case hr => first | (go_simp; done) | (go_simp; rfl)); (case hp => exact (Reps.none _ _))
     intro v150 w9 ho10 hb hg_ hnew_
     clear hg_ hnew_
     (first | rw [← Ny149.out] at ho10 | (simp only [Int.reduceToNat] at ho10; rw [← Ny149.out] at ho10))
     have n0_ := Aside0.mk (Kd.R_lower ho10 (below_size (by repeat (first | (with_reducible first | exact HB.out | apply below_alloc | apply pw_below_drewN | apply below_drew1 | refine below_set ?_ GE147.out | refine below_set ?_ GE148.out) | exact HB.out))))
     have n1_ := Aside0.mk (blk_below (g := gb147) (o := .cells #[.int .i64 a0_0, .slice A0_1 l0_1.length c0_1] 31 (0, 0)) (bA BK147.out) hb)
     have n2_ := Aside0.mk (blk_below (g := gb148) (o := .cells #[.int .i64 0, .slice none 0 0] 31 (0, 0)) (bA BK148.out) hb)
     have n3_ := Aside0.mk (below_step (by repeat (first | (with_reducible first | exact HB.out | apply below_alloc | apply pw_below_drewN | apply below_drew1 | refine below_set ?_ GE147.out | refine below_set ?_ GE148.out) | exact HB.out)) hb)
     clear BK147
     clear BK148
     clear HB
     have HO151 := n0_
     have BK147 := n1_
     have BK148 := n2_
     have HB := n3_
     clear n0_ n1_ n2_ n3_
     clear hb ho10
     refine hK.out _ _ ⟨(blk_cell BK147.out 0).trans rfl, (blk_cell BK147.out 1).trans rfl⟩ (fun hHeld => ?_)
     clear hK K
     refine norm_ (a' := ?_) ?_ ?_
     rotate_left
     ·show Act.put _ (some 9) _ = _
      simp only [Act.put, List.setIfInBounds_toArray, List.set_cons_zero, List.set_cons_succ, i64_w, i32_w]
      rfl
     refine two_ (i := 5) (j := 9) (Ni := some 12) (Nj := some 16) #[true, true, true, true, true, true, true, true, true, false, false, false, false] #[true, true, true, true, true, false, true, true, true, true, false, false, false] rfl rfl rfl rfl (two_of HT_.out (by kernel_rfl)) (by decide) (by decide) (fun K hK => ?_) (fun K hK => ?_)
     ·skip
      refine Kd.R_append_rows_step k55 (w0 := w) w.heap.size (by rfl) (.tmp 9) (.tmp 11) 25 55 (.agg #[(.int .i64 0), (.int .i64 0)]) 16 rfl Try.underlying25 info55 rfl (by decide) (by omega) v150 y149 l0_1 _ _ _ (fun _ => True) (fun _ => False) rfl rfl ?aO ?aR (fun _ _ h => h) (fun _ h => h.elim) ?aF ?aB ?aS ?aL ?_
      (case aR => repeat (first | exact (Kd.C_below HR0_1.out HB.out) | (with_reducible refine Kd.C_alloc ?_ _) | (with_reducible refine Kd.C_drewN ?_ _) | (with_reducible refine Kd.C_drew ?_)))
      (case aB => exact (by repeat (first | (with_reducible first | exact HB.out | apply below_alloc | apply pw_below_drewN | apply below_drew1 | refine below_set ?_ GE147.out | refine below_set ?_ GE148.out) | exact HB.out)))
      (case aF => exact (fun _ _ => trivial))
      (case aO => exact (rA HO151.out))
      (case aS => exact (below_size (by repeat (first | (with_reducible first | exact HB.out | apply below_alloc | apply pw_below_drewN | apply below_drew1 | refine below_set ?_ GE147.out | refine below_set ?_ GE148.out) | exact HB.out))))
      (case aL => have := LMc4.out; omega)
      intro v153 w11 ho hb hg hat
      rw [← Ny152.out] at ho
      have n0_ := Aside0.mk (blk_grown (g := gb147) (o := .cells #[.int .i64 a0_0, .slice A0_1 l0_1.length c0_1] 31 (0, 0)) (bA BK147.out) hg (Kd.R_ne HO151.out BK147.out (by decide)))
      have n1_ := Aside0.mk (blk_grown (g := gb148) (o := .cells #[.int .i64 0, .slice none 0 0] 31 (0, 0)) (bA BK148.out) hg (Kd.R_ne HO151.out BK148.out (by decide)))
      have n2_ := Aside0.mk (hb)
      have n3_ := Aside0.mk (ho)
      clear BK147
      clear BK148
      clear HB
      clear HO151
      have BK147 := n0_
      have BK148 := n1_
      have HB := n2_
      have HO154 := n3_
      clear n0_ n1_ n2_ n3_
      clear ho hb hg hat
      refine hK.out _ _ ⟨(blk_cell BK147.out 0).trans rfl, (blk_cell BK147.out 1).trans rfl⟩ (fun hHeld => ?_)
      clear hK K
      refine norm_ (a' := ?_) ?_ ?_
      rotate_left
      ·show Act.put _ (some 12) _ = _
       simp only [Act.put, List.setIfInBounds_toArray, List.set_cons_zero, List.set_cons_succ, i64_w, i32_w]
       rfl
      refine one_ (i := 9) (N := some 16) (bz 13 0x3ff) rfl rfl (one_of HT_.out (by kernel_rfl)) (by decide) (fun K hK => ?_)
      refine Kd.R_lit_step k55 _ 55 ?hg (N := 16) ?hd (xs := ([(⟨a1, a2⟩ : S55)] : List (S55))) (inner := [.int .i64 a1, .int .i64 a2]) (ok := fun _ => True) (okp := fun _ => True) ?hr ?hp (fun _ hk => hk) trivial (Below.refl _ _) (Nat.le_refl _) (by simp) ?_; (case hd => rfl); (case hg => rfl); (case hr => first | (go_simp; done) | (go_simp; rfl)); (case hp => exact (Reps.c2 (show Kd.M k55 _ _ _ (⟨a1, a2⟩ : S55) [.int .i64 a1, .int .i64 a2] from (k55_mkM _ _ _ (⟨a1, a2⟩ : S55) )) (Reps.none _ _)))
      intro v156 w12 ho13 hb hg_ hnew_
      clear hg_ hnew_
      (first | rw [← Ny155.out] at ho13 | (simp only [Int.reduceToNat] at ho13; rw [← Ny155.out] at ho13))
      have n0_ := Aside0.mk (Kd.R_elder' (rA HO154.out) (Kd.R_base ho13) hb)
      have n1_ := Aside0.mk (Kd.R_lower (Kd.R_new' ho13 (Kd.R_lt (rA HO154.out))) (below_size (by repeat (first | (with_reducible first | exact HB.out | apply below_alloc | apply pw_below_drewN | apply below_drew1 | refine below_set ?_ GE147.out | refine below_set ?_ GE148.out) | exact HB.out))))
      have n2_ := Aside0.mk (blk_below (g := gb147) (o := .cells #[.int .i64 a0_0, .slice A0_1 l0_1.length c0_1] 31 (0, 0)) (bA BK147.out) hb)
      have n3_ := Aside0.mk (blk_below (g := gb148) (o := .cells #[.int .i64 0, .slice none 0 0] 31 (0, 0)) (bA BK148.out) hb)
      have n4_ := Aside0.mk (below_step (by repeat (first | (with_reducible first | exact HB.out | apply below_alloc | apply pw_below_drewN | apply below_drew1 | refine below_set ?_ GE147.out | refine below_set ?_ GE148.out) | exact HB.out)) hb)
      clear HO154
      clear BK147
      clear BK148
      clear HB
      have HO154 := n0_
      have HO157 := n1_
      have BK147 := n2_
      have BK148 := n3_
      have HB := n4_
      clear n0_ n1_ n2_ n3_ n4_
      clear hb ho13
      refine hK.out _ _ ⟨(blk_cell BK147.out 0).trans rfl, (blk_cell BK147.out 1).trans rfl⟩ (fun hHeld => ?_)
      clear hK K
      refine norm_ (a' := ?_) ?_ ?_
      rotate_left
      ·show Act.put _ (some 16) _ = _
       simp only [Act.put, List.setIfInBounds_toArray, List.set_cons_zero, List.set_cons_succ, i64_w, i32_w]
       rfl
      exact norm_ (by simp only [putAll, Act.put, List.setIfInBounds_toArray, List.set_cons_zero, List.set_cons_succ]) (hCont (v150, v153, v156) _ ⟨hHeld, (by (with_reducible repeat (first | apply Kd.R_alloc | apply Kd.R_drewN | apply Kd.R_drew)); exact Kd.R_mono HO154.out (fun _ hk => hk.2)), (by (with_reducible repeat (first | apply Kd.R_alloc | apply Kd.R_drewN | apply Kd.R_drew)); exact Kd.R_mono HO157.out (fun _ hk => hk.2)), (bA BK147.out), (bA BK148.out), (by repeat (first | (with_reducible first | exact HB.out | apply below_alloc | apply pw_below_drewN | apply below_drew1 | refine below_set ?_ GE147.out | refine below_set ?_ GE148.out) | exact HB.out))⟩)
     ·skip
      refine Kd.R_lit_step k55 _ 55 ?hg (N := 16) ?hd (xs := ([(⟨a1, a2⟩ : S55)] : List (S55))) (inner := [.int .i64 a1, .int .i64 a2]) (ok := fun _ => True) (okp := fun _ => True) ?hr ?hp (fun _ hk => hk) trivial (Below.refl _ _) (Nat.le_refl _) (by simp) ?_; (case hd => rfl); (case hg => rfl); (case hr => first | (go_simp; done) | (go_simp; rfl)); (case hp => exact (Reps.c2 (show Kd.M k55 _ _ _ (⟨a1, a2⟩ : S55) [.int .i64 a1, .int .i64 a2] from (k55_mkM _ _ _ (⟨a1, a2⟩ : S55) )) (Reps.none _ _)))
      intro v156 w11 ho12 hb hg_ hnew_
      clear hg_ hnew_
      (first | rw [← Ny155.out] at ho12 | (simp only [Int.reduceToNat] at ho12; rw [← Ny155.out] at ho12))
      have n0_ := Aside0.mk (Kd.R_elder' (rA HO151.out) (Kd.R_base ho12) hb)
      have n1_ := Aside0.mk (Kd.R_lower (Kd.R_new' ho12 (Kd.R_lt (rA HO151.out))) (below_size (by repeat (first | (with_reducible first | exact HB.out | apply below_alloc | apply pw_below_drewN | apply below_drew1 | refine below_set ?_ GE147.out | refine below_set ?_ GE148.out) | exact HB.out))))
      have n2_ := Aside0.mk (blk_below (g := gb147) (o := .cells #[.int .i64 a0_0, .slice A0_1 l0_1.length c0_1] 31 (0, 0)) (bA BK147.out) hb)
      have n3_ := Aside0.mk (blk_below (g := gb148) (o := .cells #[.int .i64 0, .slice none 0 0] 31 (0, 0)) (bA BK148.out) hb)
      have n4_ := Aside0.mk (below_step (by repeat (first | (with_reducible first | exact HB.out | apply below_alloc | apply pw_below_drewN | apply below_drew1 | refine below_set ?_ GE147.out | refine below_set ?_ GE148.out) | exact HB.out)) hb)
      clear HO151
      clear BK147
      clear BK148
      clear HB
      have HO151 := n0_
      have HO157 := n1_
      have BK147 := n2_
      have BK148 := n3_
      have HB := n4_
      clear n0_ n1_ n2_ n3_ n4_
      clear hb ho12
      refine hK.out _ _ ⟨(blk_cell BK147.out 0).trans rfl, (blk_cell BK147.out 1).trans rfl⟩ (fun hHeld => ?_)
      clear hK K
      refine norm_ (a' := ?_) ?_ ?_
      rotate_left
      ·show Act.put _ (some 16) _ = _
       simp only [Act.put, List.setIfInBounds_toArray, List.set_cons_zero, List.set_cons_succ, i64_w, i32_w]
       rfl
      refine one_ (i := 5) (N := some 12) (bz 13 0x3ff) rfl rfl (one_of HT_.out (by kernel_rfl)) (by decide) (fun K hK => ?_)
      refine Kd.R_append_rows_step k55 (w0 := w) w.heap.size (by rfl) (.tmp 9) (.tmp 11) 25 55 (.agg #[(.int .i64 0), (.int .i64 0)]) 16 rfl Try.underlying25 info55 rfl (by decide) (by omega) v150 y149 l0_1 _ _ _ (fun k_ => some k_ ≠ (v156 : Value).ownBlock) (fun _ => False) rfl rfl ?aO ?aR (fun _ _ h => h) (fun _ h => h.elim) ?aF ?aB ?aS ?aL ?_
      (case aR => repeat (first | exact (Kd.C_below HR0_1.out HB.out) | (with_reducible refine Kd.C_alloc ?_ _) | (with_reducible refine Kd.C_drewN ?_ _) | (with_reducible refine Kd.C_drew ?_)))
      (case aB => exact (by repeat (first | (with_reducible first | exact HB.out | apply below_alloc | apply pw_below_drewN | apply below_drew1 | refine below_set ?_ GE147.out | refine below_set ?_ GE148.out) | exact HB.out)))
      (case aF => exact (fun k_ hk => Kd.fresh' (Kd.R_lt (rA HO157.out)) k_ hk))
      (case aO => exact (by (with_reducible repeat (first | apply Kd.R_alloc | apply Kd.R_drewN | apply Kd.R_drew)); exact Kd.R_mono HO151.out (fun _ hk => hk.2)))
      (case aS => exact (below_size (by repeat (first | (with_reducible first | exact HB.out | apply below_alloc | apply pw_below_drewN | apply below_drew1 | refine below_set ?_ GE147.out | refine below_set ?_ GE148.out) | exact HB.out))))
      (case aL => have := LMc4.out; omega)
      intro v153 w13 ho hb hg hat
      rw [← Ny152.out] at ho
      have n0_ := Aside0.mk (blk_grown (g := gb147) (o := .cells #[.int .i64 a0_0, .slice A0_1 l0_1.length c0_1] 31 (0, 0)) (bA BK147.out) hg (Kd.R_ne HO151.out BK147.out (by decide)))
      have n1_ := Aside0.mk (blk_grown (g := gb148) (o := .cells #[.int .i64 0, .slice none 0 0] 31 (0, 0)) (bA BK148.out) hg (Kd.R_ne HO151.out BK148.out (by decide)))
      have n2_ := Aside0.mk (Kd.R_after (ok := (fun _ => True)) (rA HO157.out) hg hat)
      have n3_ := Aside0.mk (hb)
      have n4_ := Aside0.mk (ho)
      clear BK147
      clear BK148
      clear HO157
      clear HB
      clear HO151
      have BK147 := n0_
      have BK148 := n1_
      have HO157 := n2_
      have HB := n3_
      have HO154 := n4_
      clear n0_ n1_ n2_ n3_ n4_
      clear ho hb hg hat
      refine hK.out _ _ ⟨(blk_cell BK147.out 0).trans rfl, (blk_cell BK147.out 1).trans rfl⟩ (fun hHeld => ?_)
      clear hK K
      refine norm_ (a' := ?_) ?_ ?_
      rotate_left
      ·show Act.put _ (some 12) _ = _
       simp only [Act.put, List.setIfInBounds_toArray, List.set_cons_zero, List.set_cons_succ, i64_w, i32_w]
       rfl
      exact norm_ (by simp only [putAll, Act.put, List.setIfInBounds_toArray, List.set_cons_zero, List.set_cons_succ]) (hCont (v150, v153, v156) _ ⟨hHeld, (rA HO154.out), (by (with_reducible repeat (first | apply Kd.R_alloc | apply Kd.R_drewN | apply Kd.R_drew)); exact Kd.R_mono HO157.out (fun _ hk => hk.2)), (bA BK147.out), (bA BK148.out), (by repeat (first | (with_reducible first | exact HB.out | apply below_alloc | apply pw_below_drewN | apply below_drew1 | refine below_set ?_ GE147.out | refine below_set ?_ GE148.out) | exact HB.out))⟩)
    ·skip
     refine Kd.R_lit_step k55 _ 55 ?hg (N := 16) ?hd (xs := ([(⟨a1, a2⟩ : S55)] : List (S55))) (inner := [.int .i64 a1, .int .i64 a2]) (ok := fun _ => True) (okp := fun _ => True) ?hr ?hp (fun _ hk => hk) trivial (Below.refl _ _) (Nat.le_refl _) (by simp) ?_; (case hd => rfl); (case hg => rfl); (case hr => first | (go_simp; done) | (go_simp; rfl)); (case hp => exact (Reps.c2 (show Kd.M k55 _ _ _ (⟨a1, a2⟩ : S55) [.int .i64 a1, .int .i64 a2] from (k55_mkM _ _ _ (⟨a1, a2⟩ : S55) )) (Reps.none _ _)))
     intro v156 w9 ho10 hb hg_ hnew_
     clear hg_ hnew_
     (first | rw [← Ny155.out] at ho10 | (simp only [Int.reduceToNat] at ho10; rw [← Ny155.out] at ho10))
     have n0_ := Aside0.mk (Kd.R_lower ho10 (below_size (by repeat (first | (with_reducible first | exact HB.out | apply below_alloc | apply pw_below_drewN | apply below_drew1 | refine below_set ?_ GE147.out | refine below_set ?_ GE148.out) | exact HB.out))))
     have n1_ := Aside0.mk (blk_below (g := gb147) (o := .cells #[.int .i64 a0_0, .slice A0_1 l0_1.length c0_1] 31 (0, 0)) (bA BK147.out) hb)
     have n2_ := Aside0.mk (blk_below (g := gb148) (o := .cells #[.int .i64 0, .slice none 0 0] 31 (0, 0)) (bA BK148.out) hb)
     have n3_ := Aside0.mk (below_step (by repeat (first | (with_reducible first | exact HB.out | apply below_alloc | apply pw_below_drewN | apply below_drew1 | refine below_set ?_ GE147.out | refine below_set ?_ GE148.out) | exact HB.out)) hb)
     clear BK147
     clear BK148
     clear HB
     have HO157 := n0_
     have BK147 := n1_
     have BK148 := n2_
     have HB := n3_
     clear n0_ n1_ n2_ n3_
     clear hb ho10
     refine hK.out _ _ ⟨(blk_cell BK147.out 0).trans rfl, (blk_cell BK147.out 1).trans rfl⟩ (fun hHeld => ?_)
     clear hK K
     refine norm_ (a' := ?_) ?_ ?_
     rotate_left
     ·show Act.put _ (some 16) _ = _
      simp only [Act.put, List.setIfInBounds_toArray, List.set_cons_zero, List.set_cons_succ, i64_w, i32_w]
      rfl
     refine one_ (i := 2) (N := some 9) (bz 13 0x3df) rfl rfl (one_of HT_.out (by kernel_rfl)) (by decide) (fun K hK => ?_)
     refine Kd.R_lit_step k55 _ 55 ?hg (N := 9) ?hd (xs := ([] : List (S55))) (inner := []) (ok := fun _ => True) (okp := fun _ => True) ?hr ?hp (fun _ hk => hk) trivial (Below.refl _ _) (Nat.le_refl _) (by simp) ?_; (case hd => rfl); (case hg => rfl); (case hr => first | (go_simp; done) | (go_simp; rfl)); (case hp => exact (Reps.none _ _))
     intro v150 w11 ho12 hb hg_ hnew_
     clear hg_ hnew_
     (first | rw [← Ny149.out] at ho12 | (simp only [Int.reduceToNat] at ho12; rw [← Ny149.out] at ho12))
     have n0_ := Aside0.mk (Kd.R_elder' (rA HO157.out) (Kd.R_base ho12) hb)
     have n1_ := Aside0.mk (Kd.R_lower (Kd.R_new' ho12 (Kd.R_lt (rA HO157.out))) (below_size (by repeat (first | (with_reducible first | exact HB.out | apply below_alloc | apply pw_below_drewN | apply below_drew1 | refine below_set ?_ GE147.out | refine below_set ?_ GE148.out) | exact HB.out))))
     have n2_ := Aside0.mk (blk_below (g := gb147) (o := .cells #[.int .i64 a0_0, .slice A0_1 l0_1.length c0_1] 31 (0, 0)) (bA BK147.out) hb)
     have n3_ := Aside0.mk (blk_below (g := gb148) (o := .cells #[.int .i64 0, .slice none 0 0] 31 (0, 0)) (bA BK148.out) hb)
     have n4_ := Aside0.mk (below_step (by repeat (first | (with_reducible first | exact HB.out | apply below_alloc | apply pw_below_drewN | apply below_drew1 | refine below_set ?_ GE147.out | refine below_set ?_ GE148.out) | exact HB.out)) hb)
     clear HO157
     clear BK147
     clear BK148
     clear HB
     have HO157 := n0_
     have HO151 := n1_
     have BK147 := n2_
     have BK148 := n3_
     have HB := n4_
     clear n0_ n1_ n2_ n3_ n4_
     clear hb ho12
     refine hK.out _ _ ⟨(blk_cell BK147.out 0).trans rfl, (blk_cell BK147.out 1).trans rfl⟩ (fun hHeld => ?_)
     clear hK K
     refine norm_ (a' := ?_) ?_ ?_
     rotate_left
     ·show Act.put _ (some 9) _ = _
      simp only [Act.put, List.setIfInBounds_toArray, List.set_cons_zero, List.set_cons_succ, i64_w, i32_w]
      rfl
     refine one_ (i := 5) (N := some 12) (bz 13 0x3ff) rfl rfl (one_of HT_.out (by kernel_rfl)) (by decide) (fun K hK => ?_)
     refine Kd.R_append_rows_step k55 (w0 := w) w.heap.size (by rfl) (.tmp 9) (.tmp 11) 25 55 (.agg #[(.int .i64 0), (.int .i64 0)]) 16 rfl Try.underlying25 info55 rfl (by decide) (by omega) v150 y149 l0_1 _ _ _ (fun k_ => some k_ ≠ (v156 : Value).ownBlock) (fun _ => False) rfl rfl ?aO ?aR (fun _ _ h => h) (fun _ h => h.elim) ?aF ?aB ?aS ?aL ?_
     (case aR => repeat (first | exact (Kd.C_below HR0_1.out HB.out) | (with_reducible refine Kd.C_alloc ?_ _) | (with_reducible refine Kd.C_drewN ?_ _) | (with_reducible refine Kd.C_drew ?_)))
     (case aB => exact (by repeat (first | (with_reducible first | exact HB.out | apply below_alloc | apply pw_below_drewN | apply below_drew1 | refine below_set ?_ GE147.out | refine below_set ?_ GE148.out) | exact HB.out)))
     (case aF => exact (fun k_ hk => Kd.fresh' (Kd.R_lt (rA HO157.out)) k_ hk))
     (case aO => exact (by (with_reducible repeat (first | apply Kd.R_alloc | apply Kd.R_drewN | apply Kd.R_drew)); exact Kd.R_mono HO151.out (fun _ hk => hk.2)))
     (case aS => exact (below_size (by repeat (first | (with_reducible first | exact HB.out | apply below_alloc | apply pw_below_drewN | apply below_drew1 | refine below_set ?_ GE147.out | refine below_set ?_ GE148.out) | exact HB.out))))
     (case aL => have := LMc4.out; omega)
     intro v153 w13 ho hb hg hat
     rw [← Ny152.out] at ho
     have n0_ := Aside0.mk (blk_grown (g := gb147) (o := .cells #[.int .i64 a0_0, .slice A0_1 l0_1.length c0_1] 31 (0, 0)) (bA BK147.out) hg (Kd.R_ne HO151.out BK147.out (by decide)))
     have n1_ := Aside0.mk (blk_grown (g := gb148) (o := .cells #[.int .i64 0, .slice none 0 0] 31 (0, 0)) (bA BK148.out) hg (Kd.R_ne HO151.out BK148.out (by decide)))
     have n2_ := Aside0.mk (Kd.R_after (ok := (fun _ => True)) (rA HO157.out) hg hat)
     have n3_ := Aside0.mk (hb)
     have n4_ := Aside0.mk (ho)
     clear BK147
     clear BK148
     clear HO157
     clear HB
     clear HO151
     have BK147 := n0_
     have BK148 := n1_
     have HO157 := n2_
     have HB := n3_
     have HO154 := n4_
     clear n0_ n1_ n2_ n3_ n4_
     clear ho hb hg hat
     refine hK.out _ _ ⟨(blk_cell BK147.out 0).trans rfl, (blk_cell BK147.out 1).trans rfl⟩ (fun hHeld => ?_)
     clear hK K
     refine norm_ (a' := ?_) ?_ ?_
     rotate_left
     ·show Act.put _ (some 12) _ = _
      simp only [Act.put, List.setIfInBounds_toArray, List.set_cons_zero, List.set_cons_succ, i64_w, i32_w]
      rfl
     exact norm_ (by simp only [putAll, Act.put, List.setIfInBounds_toArray, List.set_cons_zero, List.set_cons_succ]) (hCont (v150, v153, v156) _ ⟨hHeld, (rA HO154.out), (by (with_reducible repeat (first | apply Kd.R_alloc | apply Kd.R_drewN | apply Kd.R_drew)); exact Kd.R_mono HO157.out (fun _ hk => hk.2)), (bA BK147.out), (bA BK148.out), (by repeat (first | (with_reducible first | exact HB.out | apply below_alloc | apply pw_below_drewN | apply below_drew1 | refine below_set ?_ GE147.out | refine below_set ?_ GE148.out) | exact HB.out))⟩)
   rintro ⟨v150, v153, v156⟩ w14 ⟨hS_, h0_, h1_, h2_, h3_, h4_⟩
   have n0_ : Aside0 (Kd.R k55 55 w14 w.heap.size (fun k_ => some k_ ≠ (v156 : Value).ownBlock) v153 y152) := ⟨h0_⟩
   have n1_ : Aside0 (Kd.R k55 55 w14 w.heap.size (fun k_ => some k_ ≠ (v153 : Value).ownBlock) v156 y155) := ⟨h1_⟩
   have n2_ : Aside0 (w14.heap[gb147]? = some (.cells #[.int .i64 a0_0, .slice A0_1 l0_1.length c0_1] 31 (0, 0))) := ⟨h2_⟩
   have n3_ : Aside0 (w14.heap[gb148]? = some (.cells #[.int .i64 0, .slice none 0 0] 31 (0, 0))) := ⟨h3_⟩
   have n4_ : Aside0 (Below w.heap.size w w14) := ⟨h4_⟩
   clear BK147
   clear BK148
   clear HB
   clear h0_ h1_ h2_ h3_ h4_
   have HO154 := n0_
   have HO157 := n1_
   have BK147 := n2_
   have BK148 := n3_
   have HB := n4_
   clear n0_ n1_ n2_ n3_ n4_
   have hHeld : w14.cell? ⟨gb147, 0, none⟩ = some (.int .i64 a0_0) ∧ w14.cell? ⟨gb147, 1, none⟩ = some (.slice A0_1 l0_1.length c0_1) := hS_
   obtain ⟨Ao16, co16, eo16⟩ := Kd.R_slice HO157.out
   (first | subst eo16 | (injection eo16 with f1_ f2_ f3_; have f4_ := f1_.symm; have f5_ := f3_.symm; clear f1_ f2_ f3_; subst f4_; subst f5_))
   refine norm_ (a' := ?_) ?_ ?_
   rotate_left
   ·simp only [putAll, Act.put, List.setIfInBounds_toArray, List.set_cons_zero, List.set_cons_succ]
    rfl
   refine one_ (i := 10) (N := some 17) (bz 13 0x7ff) rfl rfl (one_of HT_.out (by kernel_rfl)) (by decide) (fun K hK => ?_)
   refine Kd.R_append_rows_step k55 (w0 := w) w.heap.size (by rfl) (.tmp 12) (.tmp 16) 25 55 (.agg #[(.int .i64 0), (.int .i64 0)]) 16 rfl Try.underlying25 info55 rfl (by decide) (by omega) v153 y152 y155 _ _ _ (fun k_ => some k_ ≠ (.slice Ao16 y155.length co16 : Value).ownBlock) (fun _ => False) rfl rfl ?aO ?aR (fun _ _ h => h) (fun _ h => h.elim) ?aF ?aB ?aS ?aL ?_
   (case aR => repeat (first | exact (Kd.R_reads' HO157.out).2.2 | (with_reducible refine Kd.C_alloc ?_ _) | (with_reducible refine Kd.C_drewN ?_ _) | (with_reducible refine Kd.C_drew ?_)))
   (case aB => exact (by repeat (first | (with_reducible first | exact HB.out | apply below_alloc | apply pw_below_drewN | apply below_drew1 | refine below_set ?_ GE147.out | refine below_set ?_ GE148.out) | exact HB.out)))
   (case aF => exact (fun k_ hk => Kd.fresh' (Kd.R_lt (rA HO157.out)) k_ hk))
   (case aO => exact (rA HO154.out))
   (case aS => exact (below_size (by repeat (first | (with_reducible first | exact HB.out | apply below_alloc | apply pw_below_drewN | apply below_drew1 | refine below_set ?_ GE147.out | refine below_set ?_ GE148.out) | exact HB.out))))
   (case aL => have := LMc5.out; omega)
   intro v159 w15 ho hb hg hat
   rw [← Ny158.out] at ho
   have n0_ := Aside0.mk (blk_grown (g := gb147) (o := .cells #[.int .i64 a0_0, .slice A0_1 l0_1.length c0_1] 31 (0, 0)) (bA BK147.out) hg (Kd.R_ne HO154.out BK147.out (by decide)))
   have n1_ := Aside0.mk (blk_grown (g := gb148) (o := .cells #[.int .i64 0, .slice none 0 0] 31 (0, 0)) (bA BK148.out) hg (Kd.R_ne HO154.out BK148.out (by decide)))
   have n2_ := Aside0.mk (Kd.R_after (ok := (fun _ => True)) (by (with_reducible repeat (first | apply Kd.R_alloc | apply Kd.R_drewN | apply Kd.R_drew)); exact Kd.R_mono HO157.out (fun _ hk => ⟨trivial, hk⟩)) hg hat)
   have n3_ := Aside0.mk (hb)
   have n4_ := Aside0.mk (ho)
   clear BK147
   clear BK148
   clear HO157
   clear HB
   clear HO154
   have BK147 := n0_
   have BK148 := n1_
   have HO157 := n2_
   have HB := n3_
   have HO160 := n4_
   clear n0_ n1_ n2_ n3_ n4_
   clear ho hb hg hat
   obtain ⟨Ao17, co17, eo17⟩ := Kd.R_slice HO160.out
   (first | subst eo17 | (injection eo17 with f1_ f2_ f3_; have f4_ := f1_.symm; have f5_ := f3_.symm; clear f1_ f2_ f3_; subst f4_; subst f5_))
   refine hK.out _ _ ⟨(blk_cell BK147.out 0).trans rfl, (blk_cell BK147.out 1).trans rfl⟩ (fun hHeld => ?_)
   clear hK K
   refine norm_ (a' := ?_) ?_ ?_
   rotate_left
   ·show Act.put _ (some 17) _ = _
    simp only [Act.put, List.setIfInBounds_toArray, List.set_cons_zero, List.set_cons_succ, i64_w, i32_w]
    rfl
   refine pV 11 18 (bz 13 0xfff) HT_.out ?_
   refine one_ (i := 12) (N := none) (bz 13 0x1fff) rfl rfl (one_of HT_.out (by kernel_rfl)) (by decide) (fun K hK => ?_)
   have hs18 : w15.cell? ⟨gb148, 0, none⟩ = some (.int .i64 0) := (blk_cell BK148.out 0).trans rfl
   have hfs18 := blk_frozen BK148.out 0
   have hns18_0 := NB147_148.out
   have hms18_0 := NB148_147.out
   have hs19 : w15.cell? ⟨gb148, 1, none⟩ = some (.slice none 0 0) := (blk_cell BK148.out 1).trans rfl
   have hfs19 := blk_frozen BK148.out 1
   have hns19_0 := NB147_148.out
   have hms19_0 := NB148_147.out
   refine skip_ (w1 := ?_) (by rfl) rfl ?_ ?_
   rotate_left
   ·go_simp
    rfl
   refine hK.out _ _ ⟨((cell_far (p := ⟨gb148, _, none⟩) NB147_148.out _).trans (((cell_far (p := ⟨gb148, _, none⟩) NB147_148.out _).trans (hHeld.1)))), ((cell_far (p := ⟨gb148, _, none⟩) NB147_148.out _).trans (((cell_far (p := ⟨gb148, _, none⟩) NB147_148.out _).trans (hHeld.2))))⟩ (fun hHeld => ?_)
   clear hK K
   refine done_ (done_of HT_.out (by kernel_rfl)) ?_
   try go_wp2
   refine bodyPost_ret (results_cell_row rfl _ _ gb148 31 #[.int .i64 a0_0, .slice Ao17 y158.length co17] (0, 0) _ rfl (by (with_reducible repeat (first | refine blk_drewN ?_ _ | refine blk_drew ?_ | refine blk_alloc ?_ _)); refine blk_put (cs := #[.int .i64 a0_0, .slice none 0 0]) ?_ 1 _ rfl; (with_reducible repeat (first | refine blk_drewN ?_ _ | refine blk_drew ?_ | refine blk_alloc ?_ _)); refine blk_put (cs := #[.int .i64 0, .slice none 0 0]) ?_ 0 _ rfl; (with_reducible repeat (first | refine blk_drewN ?_ _ | refine blk_drew ?_ | refine blk_alloc ?_ _)); exact BK148.out) Try.underlying31 rfl (by kernel_rfl)) rfl ?_
   exact ⟨_, by first | rfl | (simp [errW_none, errW_some] <;> rfl) | (simp [*, errW_none, errW_some] <;> rfl), by (with_reducible repeat (first | apply Kd.R_alloc | apply Kd.R_drewN | apply Kd.R_drew)); exact Kd.R_mono (Kd.R_far (p := ⟨gb148, 1, none⟩) (Kd.R_far (p := ⟨gb148, 0, none⟩) (Kd.R_types HO160.out BK148.out (by decide)) (fun _ hk => hk.2) (.int .i64 a0_0)) (fun _ hk => hk.2) (.slice Ao17 y158.length co17)) (fun _ hk => trivial), by repeat (first | (with_reducible first | exact HB.out | apply below_alloc | apply pw_below_drewN | apply below_drew1 | refine below_set ?_ GE147.out | refine below_set ?_ GE148.out) | exact HB.out)⟩
  ·rw [if_neg c5] at H
   exact absurd H (by simp)
 ·rw [if_neg c4] at H
  exact absurd H (by simp)
end Go.Proofs.Ytlldjinejckbaaa.PD

end
